/-
  What the machine is told of this seat's translation, by program (cfg.py). Not trusted: the types are checked against the program here by one reckoning.
-/
import Derived.Test.YthncjpkjmgmdlaaGreatqsAmTyped
import Derived.Below
import Derived.Lib.Join
import Derived.Test.YthncjpkjmgmdlaaGreatqsAmDraw
import Derived.Test.YthncjpkjmgmdlaaGreatProg
section
set_option linter.unusedSimpArgs false
namespace Go.Am
open Go
structure TAddr where
  xHost : List UInt8
  xPath : List UInt8
  deriving DecidableEq
abbrev kAddr : List CK := [.str, .str]
def TAddr.row (a : TAddr) : cellsT kAddr := (a.xHost, a.xPath, ())
theorem TAddr.cmp (x y : TAddr) : ((x.xHost == y.xHost) && ((x.xPath == y.xPath) && true)) = decide (x = y) := by
 obtain ⟨p1, p2⟩ := x
 obtain ⟨q1, q2⟩ := y
 rw [Bool.eq_iff_iff]
 simp only [TAddr.mk.injEq, Bool.and_true, Bool.and_eq_true, beq_iff_eq, decide_eq_true_eq, and_assoc]
structure TPolicy where
  xSet : Bool
  xScripts : List (List UInt8)
  xStyles : List (List UInt8)
  xImages : List (List UInt8)
  xNonce : List UInt8
  deriving DecidableEq
abbrev kPolicy : List CK := [.bool, .sl 1 true, .sl 1 true, .sl 1 true, .str]
def TPolicy.row (a : TPolicy) : cellsT kPolicy := (a.xSet, (rStr a.xScripts), (rStr a.xStyles), (rStr a.xImages), a.xNonce, ())
structure TTokenizer where
  xRest : List UInt8
  deriving DecidableEq
abbrev kTokenizer : List CK := [.str]
def TTokenizer.row (a : TTokenizer) : cellsT kTokenizer := (a.xRest, ())
theorem TTokenizer.cmp (x y : TTokenizer) : ((x.xRest == y.xRest) && true) = decide (x = y) := by
 obtain ⟨p1⟩ := x
 obtain ⟨q1⟩ := y
 rw [Bool.eq_iff_iff]
 simp only [TTokenizer.mk.injEq, Bool.and_true, Bool.and_eq_true, beq_iff_eq, decide_eq_true_eq, and_assoc]
structure TAttr where
  xName : List UInt8
  xValue : List UInt8
  deriving DecidableEq
abbrev kAttr : List CK := [.str, .str]
def TAttr.row (a : TAttr) : cellsT kAttr := (a.xName, a.xValue, ())
theorem TAttr.cmp (x y : TAttr) : ((x.xName == y.xName) && ((x.xValue == y.xValue) && true)) = decide (x = y) := by
 obtain ⟨p1, p2⟩ := x
 obtain ⟨q1, q2⟩ := y
 rw [Bool.eq_iff_iff]
 simp only [TAttr.mk.injEq, Bool.and_true, Bool.and_eq_true, beq_iff_eq, decide_eq_true_eq, and_assoc]
structure TToken where
  xKind : Int
  xName : List UInt8
  xAttrs : List TAttr
  xText : List UInt8
  deriving DecidableEq
abbrev kToken : List CK := [.int .i64, .str, .sl 2 true, .str]
def TToken.row (a : TToken) : cellsT kToken := (a.xKind, a.xName, (rows kAttr TAttr.row a.xAttrs), a.xText, ())
structure TNode where
  xName : List UInt8
  xText : List UInt8
  xParent : Int
  xAttrs : List TAttr
  deriving DecidableEq
abbrev kNode : List CK := [.str, .str, .int .i64, .sl 2 true]
def TNode.row (a : TNode) : cellsT kNode := (a.xName, a.xText, a.xParent, (rows kAttr TAttr.row a.xAttrs), ())
structure TBuilder where
  xNodes : List TNode
  xOpen : List Int
  deriving DecidableEq
abbrev kBuilder : List CK := [.sl 4 false, .sl 1 true]
def TBuilder.row (a : TBuilder) : cellsT kBuilder := ((rows kNode TNode.row a.xNodes), (rInt a.xOpen), ())
structure TSlot where
  xMode : Int
  xTo : TAddr
  xDigest : List UInt8
  xNode : Int
  xDone : Bool
  xCode : Int
  xBody : List UInt8
  deriving DecidableEq
abbrev kSlot : List CK := [.int .i64, .str, .str, .str, .int .i64, .bool, .int .i64, .str]
def TSlot.row (a : TSlot) : cellsT kSlot := (a.xMode, a.xTo.xHost, a.xTo.xPath, a.xDigest, a.xNode, a.xDone, a.xCode, a.xBody, ())
theorem TSlot.cmp (x y : TSlot) : ((x.xMode == y.xMode) && ((x.xTo.xHost == y.xTo.xHost) && ((x.xTo.xPath == y.xTo.xPath) && ((x.xDigest == y.xDigest) && ((x.xNode == y.xNode) && ((x.xDone == y.xDone) && ((x.xCode == y.xCode) && ((x.xBody == y.xBody) && true)))))))) = decide (x = y) := by
 obtain ⟨p1, ⟨p2, p3⟩, p4, p5, p6, p7, p8⟩ := x
 obtain ⟨q1, ⟨q2, q3⟩, q4, q5, q6, q7, q8⟩ := y
 rw [Bool.eq_iff_iff]
 simp only [TAddr.mk.injEq, TSlot.mk.injEq, Bool.and_true, Bool.and_eq_true, beq_iff_eq, decide_eq_true_eq, and_assoc]
structure TModule where
  xTo : TAddr
  xDone : Bool
  xCode : Int
  xBody : List UInt8
  deriving DecidableEq
abbrev kModule : List CK := [.str, .str, .bool, .int .i64, .str]
def TModule.row (a : TModule) : cellsT kModule := (a.xTo.xHost, a.xTo.xPath, a.xDone, a.xCode, a.xBody, ())
theorem TModule.cmp (x y : TModule) : ((x.xTo.xHost == y.xTo.xHost) && ((x.xTo.xPath == y.xTo.xPath) && ((x.xDone == y.xDone) && ((x.xCode == y.xCode) && ((x.xBody == y.xBody) && true))))) = decide (x = y) := by
 obtain ⟨⟨p1, p2⟩, p3, p4, p5⟩ := x
 obtain ⟨⟨q1, q2⟩, q3, q4, q5⟩ := y
 rw [Bool.eq_iff_iff]
 simp only [TAddr.mk.injEq, TModule.mk.injEq, Bool.and_true, Bool.and_eq_true, beq_iff_eq, decide_eq_true_eq, and_assoc]
structure TPage where
  xAddr : TAddr
  xPolicy : TPolicy
  xTok : TTokenizer
  xQueue : List TToken
  xEnded : Bool
  xBuilder : TBuilder
  xSlots : List TSlot
  xMods : List TModule
  xEntries : List TAddr
  xBlock : Int
  xInline : Int
  xDeferred : Int
  xEntered : Int
  xRan : List TAddr
  xLog : List (List UInt8)
  xLoaded : Bool
  deriving DecidableEq
abbrev kPage : List CK := [.str, .str, .bool, .sl 1 true, .sl 1 true, .sl 1 true, .str, .str, .sl 4 false, .bool, .sl 4 false, .sl 1 true, .sl 8 true, .sl 5 true, .sl 2 true, .int .i64, .int .i64, .int .i64, .int .i64, .sl 2 true, .sl 1 true, .bool]
def TPage.row (a : TPage) : cellsT kPage := (a.xAddr.xHost, a.xAddr.xPath, a.xPolicy.xSet, (rStr a.xPolicy.xScripts), (rStr a.xPolicy.xStyles), (rStr a.xPolicy.xImages), a.xPolicy.xNonce, a.xTok.xRest, (rows kToken TToken.row a.xQueue), a.xEnded, (rows kNode TNode.row a.xBuilder.xNodes), (rInt a.xBuilder.xOpen), (rows kSlot TSlot.row a.xSlots), (rows kModule TModule.row a.xMods), (rows kAddr TAddr.row a.xEntries), a.xBlock, a.xInline, a.xDeferred, a.xEntered, (rows kAddr TAddr.row a.xRan), (rStr a.xLog), a.xLoaded, ())
structure TVisit where
  xAddr : TAddr
  xPage : TPage
  xKept : Bool
  deriving DecidableEq
abbrev kVisit : List CK := [.str, .str, .str, .str, .bool, .sl 1 true, .sl 1 true, .sl 1 true, .str, .str, .sl 4 false, .bool, .sl 4 false, .sl 1 true, .sl 8 true, .sl 5 true, .sl 2 true, .int .i64, .int .i64, .int .i64, .int .i64, .sl 2 true, .sl 1 true, .bool, .bool]
def TVisit.row (a : TVisit) : cellsT kVisit := (a.xAddr.xHost, a.xAddr.xPath, a.xPage.xAddr.xHost, a.xPage.xAddr.xPath, a.xPage.xPolicy.xSet, (rStr a.xPage.xPolicy.xScripts), (rStr a.xPage.xPolicy.xStyles), (rStr a.xPage.xPolicy.xImages), a.xPage.xPolicy.xNonce, a.xPage.xTok.xRest, (rows kToken TToken.row a.xPage.xQueue), a.xPage.xEnded, (rows kNode TNode.row a.xPage.xBuilder.xNodes), (rInt a.xPage.xBuilder.xOpen), (rows kSlot TSlot.row a.xPage.xSlots), (rows kModule TModule.row a.xPage.xMods), (rows kAddr TAddr.row a.xPage.xEntries), a.xPage.xBlock, a.xPage.xInline, a.xPage.xDeferred, a.xPage.xEntered, (rows kAddr TAddr.row a.xPage.xRan), (rStr a.xPage.xLog), a.xPage.xLoaded, a.xKept, ())
structure TTab where
  xVisits : List TVisit
  xAt : Int
  deriving DecidableEq
abbrev kTab : List CK := [.sl 25 false, .int .i64]
def TTab.row (a : TTab) : cellsT kTab := ((rows kVisit TVisit.row a.xVisits), a.xAt, ())
structure TResponse where
  xStatus : Int
  xKind : Int
  xBody : List UInt8
  xAge : Int
  xShares : Bool
  xPolicy : List UInt8
  deriving DecidableEq
abbrev kResponse : List CK := [.int .i64, .int .i64, .str, .int .i64, .bool, .str]
def TResponse.row (a : TResponse) : cellsT kResponse := (a.xStatus, a.xKind, a.xBody, a.xAge, a.xShares, a.xPolicy, ())
theorem TResponse.cmp (x y : TResponse) : ((x.xStatus == y.xStatus) && ((x.xKind == y.xKind) && ((x.xBody == y.xBody) && ((x.xAge == y.xAge) && ((x.xShares == y.xShares) && ((x.xPolicy == y.xPolicy) && true)))))) = decide (x = y) := by
 obtain ⟨p1, p2, p3, p4, p5, p6⟩ := x
 obtain ⟨q1, q2, q3, q4, q5, q6⟩ := y
 rw [Bool.eq_iff_iff]
 simp only [TResponse.mk.injEq, Bool.and_true, Bool.and_eq_true, beq_iff_eq, decide_eq_true_eq, and_assoc]
structure TKept where
  xTo : TAddr
  xResponse : TResponse
  deriving DecidableEq
abbrev kKept : List CK := [.str, .str, .int .i64, .int .i64, .str, .int .i64, .bool, .str]
def TKept.row (a : TKept) : cellsT kKept := (a.xTo.xHost, a.xTo.xPath, a.xResponse.xStatus, a.xResponse.xKind, a.xResponse.xBody, a.xResponse.xAge, a.xResponse.xShares, a.xResponse.xPolicy, ())
theorem TKept.cmp (x y : TKept) : ((x.xTo.xHost == y.xTo.xHost) && ((x.xTo.xPath == y.xTo.xPath) && ((x.xResponse.xStatus == y.xResponse.xStatus) && ((x.xResponse.xKind == y.xResponse.xKind) && ((x.xResponse.xBody == y.xResponse.xBody) && ((x.xResponse.xAge == y.xResponse.xAge) && ((x.xResponse.xShares == y.xResponse.xShares) && ((x.xResponse.xPolicy == y.xResponse.xPolicy) && true)))))))) = decide (x = y) := by
 obtain ⟨⟨p1, p2⟩, ⟨p3, p4, p5, p6, p7, p8⟩⟩ := x
 obtain ⟨⟨q1, q2⟩, ⟨q3, q4, q5, q6, q7, q8⟩⟩ := y
 rw [Bool.eq_iff_iff]
 simp only [TAddr.mk.injEq, TKept.mk.injEq, TResponse.mk.injEq, Bool.and_true, Bool.and_eq_true, beq_iff_eq, decide_eq_true_eq, and_assoc]
structure TFile where
  xPath : List UInt8
  xResponse : TResponse
  deriving DecidableEq
abbrev kFile : List CK := [.str, .int .i64, .int .i64, .str, .int .i64, .bool, .str]
def TFile.row (a : TFile) : cellsT kFile := (a.xPath, a.xResponse.xStatus, a.xResponse.xKind, a.xResponse.xBody, a.xResponse.xAge, a.xResponse.xShares, a.xResponse.xPolicy, ())
theorem TFile.cmp (x y : TFile) : ((x.xPath == y.xPath) && ((x.xResponse.xStatus == y.xResponse.xStatus) && ((x.xResponse.xKind == y.xResponse.xKind) && ((x.xResponse.xBody == y.xResponse.xBody) && ((x.xResponse.xAge == y.xResponse.xAge) && ((x.xResponse.xShares == y.xResponse.xShares) && ((x.xResponse.xPolicy == y.xResponse.xPolicy) && true))))))) = decide (x = y) := by
 obtain ⟨p1, ⟨p2, p3, p4, p5, p6, p7⟩⟩ := x
 obtain ⟨q1, ⟨q2, q3, q4, q5, q6, q7⟩⟩ := y
 rw [Bool.eq_iff_iff]
 simp only [TFile.mk.injEq, TResponse.mk.injEq, Bool.and_true, Bool.and_eq_true, beq_iff_eq, decide_eq_true_eq, and_assoc]
structure TServer where
  xHost : List UInt8
  xFiles : List TFile
  deriving DecidableEq
abbrev kServer : List CK := [.str, .sl 7 true]
def TServer.row (a : TServer) : cellsT kServer := (a.xHost, (rows kFile TFile.row a.xFiles), ())
structure THidden where
  xReady : Bool
  xPage : TPage
  xTaken : List TKept
  xServers : List TServer
  xNow : Int
  deriving DecidableEq
abbrev kHidden : List CK := [.bool, .str, .str, .bool, .sl 1 true, .sl 1 true, .sl 1 true, .str, .str, .sl 4 false, .bool, .sl 4 false, .sl 1 true, .sl 8 true, .sl 5 true, .sl 2 true, .int .i64, .int .i64, .int .i64, .int .i64, .sl 2 true, .sl 1 true, .bool, .sl 8 true, .sl 2 false, .int .i64]
def THidden.row (a : THidden) : cellsT kHidden := (a.xReady, a.xPage.xAddr.xHost, a.xPage.xAddr.xPath, a.xPage.xPolicy.xSet, (rStr a.xPage.xPolicy.xScripts), (rStr a.xPage.xPolicy.xStyles), (rStr a.xPage.xPolicy.xImages), a.xPage.xPolicy.xNonce, a.xPage.xTok.xRest, (rows kToken TToken.row a.xPage.xQueue), a.xPage.xEnded, (rows kNode TNode.row a.xPage.xBuilder.xNodes), (rInt a.xPage.xBuilder.xOpen), (rows kSlot TSlot.row a.xPage.xSlots), (rows kModule TModule.row a.xPage.xMods), (rows kAddr TAddr.row a.xPage.xEntries), a.xPage.xBlock, a.xPage.xInline, a.xPage.xDeferred, a.xPage.xEntered, (rows kAddr TAddr.row a.xPage.xRan), (rStr a.xPage.xLog), a.xPage.xLoaded, (rows kKept TKept.row a.xTaken), (rows kServer TServer.row a.xServers), a.xNow, ())
structure TEntry where
  xTop : List UInt8
  xTo : TAddr
  xResponse : TResponse
  xUntil : Int
  deriving DecidableEq
abbrev kEntry : List CK := [.str, .str, .str, .int .i64, .int .i64, .str, .int .i64, .bool, .str, .int .i64]
def TEntry.row (a : TEntry) : cellsT kEntry := (a.xTop, a.xTo.xHost, a.xTo.xPath, a.xResponse.xStatus, a.xResponse.xKind, a.xResponse.xBody, a.xResponse.xAge, a.xResponse.xShares, a.xResponse.xPolicy, a.xUntil, ())
theorem TEntry.cmp (x y : TEntry) : ((x.xTop == y.xTop) && ((x.xTo.xHost == y.xTo.xHost) && ((x.xTo.xPath == y.xTo.xPath) && ((x.xResponse.xStatus == y.xResponse.xStatus) && ((x.xResponse.xKind == y.xResponse.xKind) && ((x.xResponse.xBody == y.xResponse.xBody) && ((x.xResponse.xAge == y.xResponse.xAge) && ((x.xResponse.xShares == y.xResponse.xShares) && ((x.xResponse.xPolicy == y.xResponse.xPolicy) && ((x.xUntil == y.xUntil) && true)))))))))) = decide (x = y) := by
 obtain ⟨p1, ⟨p2, p3⟩, ⟨p4, p5, p6, p7, p8, p9⟩, p10⟩ := x
 obtain ⟨q1, ⟨q2, q3⟩, ⟨q4, q5, q6, q7, q8, q9⟩, q10⟩ := y
 rw [Bool.eq_iff_iff]
 simp only [TAddr.mk.injEq, TEntry.mk.injEq, TResponse.mk.injEq, Bool.and_true, Bool.and_eq_true, beq_iff_eq, decide_eq_true_eq, and_assoc]
structure TCache where
  xEntries : List TEntry
  deriving DecidableEq
abbrev kCache : List CK := [.sl 10 true]
def TCache.row (a : TCache) : cellsT kCache := ((rows kEntry TEntry.row a.xEntries), ())
structure TSent where
  xTop : List UInt8
  xTo : TAddr
  xGuess : Bool
  deriving DecidableEq
abbrev kSent : List CK := [.str, .str, .str, .bool]
def TSent.row (a : TSent) : cellsT kSent := (a.xTop, a.xTo.xHost, a.xTo.xPath, a.xGuess, ())
theorem TSent.cmp (x y : TSent) : ((x.xTop == y.xTop) && ((x.xTo.xHost == y.xTo.xHost) && ((x.xTo.xPath == y.xTo.xPath) && ((x.xGuess == y.xGuess) && true)))) = decide (x = y) := by
 obtain ⟨p1, ⟨p2, p3⟩, p4⟩ := x
 obtain ⟨q1, ⟨q2, q3⟩, q4⟩ := y
 rw [Bool.eq_iff_iff]
 simp only [TAddr.mk.injEq, TSent.mk.injEq, Bool.and_true, Bool.and_eq_true, beq_iff_eq, decide_eq_true_eq, and_assoc]
structure TNet where
  xServers : List TServer
  xCache : TCache
  xLog : List TSent
  xNow : Int
  deriving DecidableEq
abbrev kNet : List CK := [.sl 2 false, .sl 10 true, .sl 4 true, .int .i64]
def TNet.row (a : TNet) : cellsT kNet := ((rows kServer TServer.row a.xServers), (rows kEntry TEntry.row a.xCache.xEntries), (rows kSent TSent.row a.xLog), a.xNow, ())
structure TWorld where
  xNet : TNet
  xTab : TTab
  xHidden : THidden
  xFast : Bool
  deriving DecidableEq
abbrev kWorld : List CK := [.sl 2 false, .sl 10 true, .sl 4 true, .int .i64, .sl 25 false, .int .i64, .bool, .str, .str, .bool, .sl 1 true, .sl 1 true, .sl 1 true, .str, .str, .sl 4 false, .bool, .sl 4 false, .sl 1 true, .sl 8 true, .sl 5 true, .sl 2 true, .int .i64, .int .i64, .int .i64, .int .i64, .sl 2 true, .sl 1 true, .bool, .sl 8 true, .sl 2 false, .int .i64, .bool]
def TWorld.row (a : TWorld) : cellsT kWorld := ((rows kServer TServer.row a.xNet.xServers), (rows kEntry TEntry.row a.xNet.xCache.xEntries), (rows kSent TSent.row a.xNet.xLog), a.xNet.xNow, (rows kVisit TVisit.row a.xTab.xVisits), a.xTab.xAt, a.xHidden.xReady, a.xHidden.xPage.xAddr.xHost, a.xHidden.xPage.xAddr.xPath, a.xHidden.xPage.xPolicy.xSet, (rStr a.xHidden.xPage.xPolicy.xScripts), (rStr a.xHidden.xPage.xPolicy.xStyles), (rStr a.xHidden.xPage.xPolicy.xImages), a.xHidden.xPage.xPolicy.xNonce, a.xHidden.xPage.xTok.xRest, (rows kToken TToken.row a.xHidden.xPage.xQueue), a.xHidden.xPage.xEnded, (rows kNode TNode.row a.xHidden.xPage.xBuilder.xNodes), (rInt a.xHidden.xPage.xBuilder.xOpen), (rows kSlot TSlot.row a.xHidden.xPage.xSlots), (rows kModule TModule.row a.xHidden.xPage.xMods), (rows kAddr TAddr.row a.xHidden.xPage.xEntries), a.xHidden.xPage.xBlock, a.xHidden.xPage.xInline, a.xHidden.xPage.xDeferred, a.xHidden.xPage.xEntered, (rows kAddr TAddr.row a.xHidden.xPage.xRan), (rStr a.xHidden.xPage.xLog), a.xHidden.xPage.xLoaded, (rows kKept TKept.row a.xHidden.xTaken), (rows kServer TServer.row a.xHidden.xServers), a.xHidden.xNow, a.xFast, ())
structure TRequest where
  xKind : Int
  xTo : TAddr
  xFrom : List UInt8
  xDigest : List UInt8
  deriving DecidableEq
abbrev kRequest : List CK := [.int .i64, .str, .str, .str, .str]
def TRequest.row (a : TRequest) : cellsT kRequest := (a.xKind, a.xTo.xHost, a.xTo.xPath, a.xFrom, a.xDigest, ())
theorem TRequest.cmp (x y : TRequest) : ((x.xKind == y.xKind) && ((x.xTo.xHost == y.xTo.xHost) && ((x.xTo.xPath == y.xTo.xPath) && ((x.xFrom == y.xFrom) && ((x.xDigest == y.xDigest) && true))))) = decide (x = y) := by
 obtain ⟨p1, ⟨p2, p3⟩, p4, p5⟩ := x
 obtain ⟨q1, ⟨q2, q3⟩, q4, q5⟩ := y
 rw [Bool.eq_iff_iff]
 simp only [TAddr.mk.injEq, TRequest.mk.injEq, Bool.and_true, Bool.and_eq_true, beq_iff_eq, decide_eq_true_eq, and_assoc]
end Go.Am
end
section
set_option linter.unusedVariables false
set_option linter.unusedSimpArgs false
namespace Go.Am
open Go Go.RowKit
section
variable {P : Program} {c : Cfg}
def Kept (w w' : World) : Prop := w'.os = w.os ∧ w'.tape = w.tape ∧ w'.output = w.output ∧ w.heap.size ≤ w'.heap.size ∧ ∀ k, k < w.heap.size → w'.heap[k]? = w.heap[k]?
theorem Kept.refl (w : World) : Kept w w := ⟨rfl, rfl, rfl, Nat.le_refl _, fun _ _ => rfl⟩
theorem answer_plain {R : Nat → Prop} {w w' : World} {r : V} {x : Value} (hk : Kept w w') (hr : Rd w' (fun _ => False) r x) : Answer R w r x w' :=
 ⟨hk.1, hk.2.1, hk.2.2.1, hk.2.2.2.1, hk.2.2.2.2, { w0 := w', F := fun k => w.heap.size ≤ k, S := fun _ => False, has := fun _ => False, blk := fun _ => 0, off := fun _ => 0, cap := fun _ => 0, sz := fun _ => 0, ln := fun _ => 0, lb := fun _ => False, box := fun _ => 0, R := fun _ => False, Z := fun _ => False, N := fun _ _ => False, U := True },
  .rd _ _ hr, fun _ h => h, fun _ h => h.elim, fun _ h => h.elim, fun _ _ h => h.elim, fun _ h => h.elim, fun _ h => h.elim, trivial, fun _ h => h.elim, fun _ _ h => h.elim⟩
def extL : List (Nat × (List V → Option V)) → Nat → List V → Option V
 | [], _, _ => none
 | (g, e) :: r, f, args => if f = g then e args else extL r f args
theorem ext_nil : Answers P (extL []) := fun f args r h => by cases h
theorem rd_str {w : World} {S : Nat → Prop} {s : List UInt8} {x : Value} (h : Rd w S (.str s) x) : ∃ y : ByteArray, x = .string y ∧ y.data.toList = s := by
 cases h with
 | str _ y hy => exact ⟨y, rfl, hy⟩
end
end Go.Am
end
section
set_option linter.unusedVariables false
namespace Go.Am
open Go
def lookN {α : Type} (k : Nat) (d : α) : List (Nat × α) → α
 | [] => d
 | (i, a) :: r => if i = k then a else lookN k d r
def cv28 : List V := [.nil, .nil, .nil, .int .i64 0]
def cv27 : List V := [.undef, .undef, .own 0 2 .flat []]
def cv26 : List V := [.str [], .str [], .int .i64 0, .nil]
def cv25 : List V := [.int .i64 0, .str [], .nil, .str []]
def cv24 : List V := [.undef, .undef, .view 999 2 .flat []]
def cv23 : List V := [.str [], .str [], .str [], .bool false]
def cv22 : List V := [.bool false, .nil, .nil, .nil, .str []]
def cv21 : List V := [.view 999 4 .clean [], .view 999 1 .flat []]
def cv20 : List V := [.undef, .undef, .undef, .view 999 2 .flat []]
def cv19 : List V := [.int .i64 0, .int .i64 0, .bool false, .int .u8 0]
def cv18 : List V := [.str [], .str [], .bool false, .int .i64 0, .str []]
def cv17 : List V := [.undef, .own 0 1 .flat [], .own 0 1 .flat [], .own 0 1 .flat []]
def cv16 : List V := [.view 999 2 .clean [], .view 999 10 .flat [], .view 999 4 .flat []]
def cv15 : List V := [.int .i64 0, .int .i64 0, .str [], .int .i64 0, .bool false, .str []]
def cv14 : List V := [.undef, .view 999 1 .flat [], .view 999 1 .flat [], .view 999 1 .flat []]
def cv13 : List V := [.str [], .int .i64 0, .int .i64 0, .str [], .int .i64 0, .bool false, .str []]
def cv12 : List V := [.str [], .str [], .int .i64 0, .int .i64 0, .str [], .int .i64 0, .bool false, .str []]
def cv11 : List V := [.int .i64 0, .str [], .str [], .str [], .int .i64 0, .bool false, .int .i64 0, .str []]
def cv10 : List V := [.str [], .str [], .str [], .int .i64 0, .int .i64 0, .str [], .int .i64 0, .bool false, .str [], .int .i64 0]
def cv9 : List V := [.str [], .str [], .bool false, .nil, .nil, .nil, .str [], .str [], .nil, .bool false, .nil, .nil, .nil, .nil, .nil, .int .i64 0, .int .i64 0, .int .i64 0, .int .i64 0, .nil, .nil, .bool false]
def cv8 : List V := [.str [], .str [], .str [], .str [], .bool false, .nil, .nil, .nil, .str [], .str [], .nil, .bool false, .nil, .nil, .nil, .nil, .nil, .int .i64 0, .int .i64 0, .int .i64 0, .int .i64 0, .nil, .nil, .bool false, .bool false]
def cv7 : List V := [.bool false, .str [], .str [], .bool false, .nil, .nil, .nil, .str [], .str [], .nil, .bool false, .nil, .nil, .nil, .nil, .nil, .int .i64 0, .int .i64 0, .int .i64 0, .int .i64 0, .nil, .nil, .bool false, .nil, .nil, .int .i64 0]
def cv6 : List V := [.undef, .undef, .undef, .own 0 1 .flat [], .own 0 1 .flat [], .own 0 1 .flat [], .undef, .undef, .own 0 4 .clean [], .undef, .own 0 4 .clean [], .own 0 1 .flat [], .own 0 8 .flat [], .own 0 5 .flat [], .own 0 2 .flat [], .undef, .undef, .undef, .undef, .own 0 2 .flat [], .own 0 1 .flat []]
def cv5 : List V := [.nil, .nil, .nil, .int .i64 0, .nil, .int .i64 0, .bool false, .str [], .str [], .bool false, .nil, .nil, .nil, .str [], .str [], .nil, .bool false, .nil, .nil, .nil, .nil, .nil, .int .i64 0, .int .i64 0, .int .i64 0, .int .i64 0, .nil, .nil, .bool false, .nil, .nil, .int .i64 0, .bool false]
def cv4 : List V := [.undef, .undef, .undef, .view 999 1 .flat [], .view 999 1 .flat [], .view 999 1 .flat [], .undef, .undef, .view 999 4 .clean [], .undef, .view 999 4 .clean [], .view 999 1 .flat [], .view 999 8 .flat [], .view 999 5 .flat [], .view 999 2 .flat [], .undef, .undef, .undef, .undef, .view 999 2 .flat [], .view 999 1 .flat []]
def cv3 : List V := [.undef, .undef, .undef, .undef, .undef, .view 999 1 .flat [], .view 999 1 .flat [], .view 999 1 .flat [], .undef, .undef, .view 999 4 .clean [], .undef, .view 999 4 .clean [], .view 999 1 .flat [], .view 999 8 .flat [], .view 999 5 .flat [], .view 999 2 .flat [], .undef, .undef, .undef, .undef, .view 999 2 .flat [], .view 999 1 .flat []]
def cv2 : List V := [.undef, .undef, .undef, .undef, .own 0 1 .flat [], .own 0 1 .flat [], .own 0 1 .flat [], .undef, .undef, .own 0 4 .clean [], .undef, .own 0 4 .clean [], .own 0 1 .flat [], .own 0 8 .flat [], .own 0 5 .flat [], .own 0 2 .flat [], .undef, .undef, .undef, .undef, .own 0 2 .flat [], .own 0 1 .flat [], .undef, .own 0 8 .flat [], .own 0 2 .clean []]
def cv1 : List V := [.undef, .undef, .undef, .undef, .view 999 1 .flat [], .view 999 1 .flat [], .view 999 1 .flat [], .undef, .undef, .view 999 4 .clean [], .undef, .view 999 4 .clean [], .view 999 1 .flat [], .view 999 8 .flat [], .view 999 5 .flat [], .view 999 2 .flat [], .undef, .undef, .undef, .undef, .view 999 2 .flat [], .view 999 1 .flat [], .undef, .view 999 8 .flat [], .view 999 2 .clean []]
def cv0 : List V := [.view 999 2 .clean [], .view 999 10 .flat [], .view 999 4 .flat [], .undef, .view 999 25 .clean [], .undef, .undef, .undef, .undef, .undef, .view 999 1 .flat [], .view 999 1 .flat [], .view 999 1 .flat [], .undef, .undef, .view 999 4 .clean [], .undef, .view 999 4 .clean [], .view 999 1 .flat [], .view 999 8 .flat [], .view 999 5 .flat [], .view 999 2 .flat [], .undef, .undef, .undef, .undef, .view 999 2 .flat [], .view 999 1 .flat [], .undef, .view 999 8 .flat [], .view 999 2 .clean []]
def tys : List (Option TyInfo) := [
 none,
 none,
 some ⟨.int .i64, 1, 8, .int .i64 0, false, [], .flat⟩,
 some ⟨.int .i64, 1, 8, .int .i64 0, false, [], .flat⟩,
 some ⟨.bool, 1, 1, .bool false, false, [], .flat⟩,
 some ⟨.int .u8, 1, 1, .int .u8 0, false, [], .flat⟩,
 some ⟨.int .u8, 1, 1, .int .u8 0, false, [], .flat⟩,
 some ⟨.struct [(0, 2), (1, 3), (2, 4), (3, 6)], 4, 24, .agg cv19, false, [], .flat⟩,
 some ⟨.struct [(0, 2), (1, 3), (2, 4), (3, 6)], 4, 24, .agg cv19, false, [], .flat⟩,
 some ⟨.str, 1, 16, .str [], false, [], .flat⟩,
 some ⟨.str, 1, 16, .str [], false, [], .flat⟩,
 some ⟨.str, 1, 16, .str [], false, [], .flat⟩,
 some ⟨.int .u64, 1, 8, .int .u64 0, false, [], .flat⟩,
 some ⟨.struct [(0, 9), (1, 12)], 2, 24, .agg [.str [], .int .u64 0], false, [], .flat⟩,
 some ⟨.struct [(0, 9), (1, 12)], 2, 24, .agg [.str [], .int .u64 0], false, [], .flat⟩,
 some ⟨.ptr 322, 1, 8, .undef, false, [], .flat⟩,
 some ⟨.ptr 325, 1, 8, .undef, false, [], .flat⟩,
 some ⟨.ptr 334, 1, 8, .undef, false, [], .flat⟩,
 some ⟨.struct [(0, 17)], 1, 8, .agg [.undef], false, [], .flat⟩,
 some ⟨.struct [(0, 17)], 1, 8, .agg [.undef], false, [], .flat⟩,
 none,
 some ⟨.int .i32, 1, 4, .int .i32 0, false, [], .flat⟩,
 some ⟨.slice 170, 1, 24, .nil, false, [.view 999 25 .clean []], .clean⟩,
 some ⟨.struct [(0, 22), (1, 3)], 2, 32, .agg [.nil, .int .i64 0], false, [.view 999 25 .clean []], .clean⟩,
 some ⟨.struct [(0, 22), (1, 3)], 2, 32, .agg [.nil, .int .i64 0], false, [.view 999 25 .clean []], .clean⟩,
 some ⟨.struct [(0, 9), (1, 9)], 2, 32, .agg [.str [], .str []], false, [], .flat⟩,
 some ⟨.struct [(0, 9), (1, 9)], 2, 32, .agg [.str [], .str []], true, [], .flat⟩,
 some ⟨.slice 9, 1, 24, .nil, false, [.view 999 1 .flat []], .clean⟩,
 some ⟨.struct [(0, 4), (1, 27), (2, 27), (3, 27), (4, 9)], 5, 96, .agg cv22, false, cv14, .clean⟩,
 some ⟨.struct [(0, 4), (1, 27), (2, 27), (3, 27), (4, 9)], 5, 96, .agg cv22, false, cv14, .clean⟩,
 some ⟨.struct [(0, 9)], 1, 16, .agg [.str []], false, [], .flat⟩,
 some ⟨.struct [(0, 9)], 1, 16, .agg [.str []], true, [], .flat⟩,
 some ⟨.slice 174, 1, 24, .nil, false, [.view 999 4 .clean []], .clean⟩,
 some ⟨.slice 246, 1, 24, .nil, false, [.view 999 4 .clean []], .clean⟩,
 some ⟨.slice 3, 1, 24, .nil, false, [.view 999 1 .flat []], .clean⟩,
 some ⟨.struct [(0, 33), (1, 34)], 2, 48, .agg [.nil, .nil], false, cv21, .clean⟩,
 some ⟨.struct [(0, 33), (1, 34)], 2, 48, .agg [.nil, .nil], false, cv21, .clean⟩,
 some ⟨.slice 179, 1, 24, .nil, false, [.view 999 8 .flat []], .clean⟩,
 some ⟨.slice 182, 1, 24, .nil, false, [.view 999 5 .flat []], .clean⟩,
 some ⟨.slice 26, 1, 24, .nil, false, [.view 999 2 .flat []], .clean⟩,
 some ⟨.struct [(0, 26), (2, 29), (7, 31), (8, 32), (9, 4), (10, 36), (12, 37), (13, 38), (14, 39), (15, 3), (16, 3), (17, 3), (18, 3), (19, 39), (20, 27), (21, 4)], 22, 384, .agg cv9, false, cv4, .clean⟩,
 some ⟨.struct [(0, 26), (2, 29), (7, 31), (8, 32), (9, 4), (10, 36), (12, 37), (13, 38), (14, 39), (15, 3), (16, 3), (17, 3), (18, 3), (19, 39), (20, 27), (21, 4)], 22, 384, .agg cv9, false, cv4, .clean⟩,
 none,
 none,
 some ⟨.slice 120, 1, 24, .nil, false, [.view 999 25 .clean []], .clean⟩,
 some ⟨.struct [(0, 44), (1, 3)], 2, 32, .agg [.nil, .int .i64 0], false, [.view 999 25 .clean []], .clean⟩,
 some ⟨.struct [(0, 44), (1, 3)], 2, 32, .agg [.nil, .int .i64 0], false, [.view 999 25 .clean []], .clean⟩,
 none,
 none,
 some ⟨.struct [(0, 9), (1, 9)], 2, 32, .agg [.str [], .str []], true, [], .flat⟩,
 some ⟨.struct [(0, 4), (1, 27), (2, 27), (3, 27), (4, 9)], 5, 96, .agg cv22, false, cv14, .clean⟩,
 some ⟨.struct [(0, 9)], 1, 16, .agg [.str []], true, [], .flat⟩,
 some ⟨.slice 189, 1, 24, .nil, false, [.view 999 4 .clean []], .clean⟩,
 some ⟨.slice 249, 1, 24, .nil, false, [.view 999 4 .clean []], .clean⟩,
 some ⟨.struct [(0, 53), (1, 34)], 2, 48, .agg [.nil, .nil], false, cv21, .clean⟩,
 some ⟨.struct [(0, 53), (1, 34)], 2, 48, .agg [.nil, .nil], false, cv21, .clean⟩,
 some ⟨.slice 194, 1, 24, .nil, false, [.view 999 8 .flat []], .clean⟩,
 some ⟨.slice 197, 1, 24, .nil, false, [.view 999 5 .flat []], .clean⟩,
 some ⟨.slice 49, 1, 24, .nil, false, [.view 999 2 .flat []], .clean⟩,
 some ⟨.struct [(0, 49), (2, 50), (7, 51), (8, 52), (9, 4), (10, 55), (12, 56), (13, 57), (14, 58), (15, 3), (16, 3), (17, 3), (18, 3), (19, 58), (20, 27), (21, 4)], 22, 384, .agg cv9, false, cv4, .clean⟩,
 some ⟨.struct [(0, 49), (2, 50), (7, 51), (8, 52), (9, 4), (10, 55), (12, 56), (13, 57), (14, 58), (15, 3), (16, 3), (17, 3), (18, 3), (19, 58), (20, 27), (21, 4)], 22, 384, .agg cv9, false, cv4, .clean⟩,
 none,
 none,
 none,
 none,
 none,
 none,
 none,
 none,
 some ⟨.slice 211, 1, 24, .nil, false, [.view 999 8 .flat []], .clean⟩,
 some ⟨.slice 215, 1, 24, .nil, false, [.view 999 2 .clean []], .clean⟩,
 some ⟨.struct [(0, 4), (1, 41), (23, 69), (24, 70), (25, 3)], 26, 448, .agg cv7, false, cv1, .clean⟩,
 some ⟨.struct [(0, 4), (1, 41), (23, 69), (24, 70), (25, 3)], 26, 448, .agg cv7, false, cv1, .clean⟩,
 none,
 none,
 some ⟨.slice 222, 1, 24, .nil, false, [.view 999 8 .flat []], .clean⟩,
 some ⟨.slice 226, 1, 24, .nil, false, [.view 999 2 .clean []], .clean⟩,
 none,
 some ⟨.struct [(0, 4), (1, 60), (23, 75), (24, 76), (25, 3)], 26, 448, .agg cv7, false, cv1, .clean⟩,
 none,
 none,
 none,
 none,
 none,
 none,
 some ⟨.slice 306, 1, 24, .nil, false, [.view 999 10 .flat []], .clean⟩,
 some ⟨.struct [(0, 85)], 1, 24, .agg [.nil], false, [.view 999 10 .flat []], .clean⟩,
 some ⟨.struct [(0, 85)], 1, 24, .agg [.nil], false, [.view 999 10 .flat []], .clean⟩,
 some ⟨.slice 273, 1, 24, .nil, false, [.view 999 4 .flat []], .clean⟩,
 some ⟨.struct [(0, 70), (1, 87), (2, 88), (3, 3)], 4, 80, .agg cv28, false, cv16, .clean⟩,
 some ⟨.struct [(0, 70), (1, 87), (2, 88), (3, 3)], 4, 80, .agg cv28, false, cv16, .clean⟩,
 some ⟨.struct [(0, 90), (4, 24), (6, 72), (32, 4)], 33, 568, .agg cv5, false, cv0, .clean⟩,
 some ⟨.struct [(0, 90), (4, 24), (6, 72), (32, 4)], 33, 568, .agg cv5, false, cv0, .clean⟩,
 none,
 some ⟨.slice 308, 1, 24, .nil, false, [.view 999 10 .flat []], .clean⟩,
 none,
 some ⟨.struct [(0, 94)], 1, 24, .agg [.nil], false, [.view 999 10 .flat []], .clean⟩,
 some ⟨.slice 278, 1, 24, .nil, false, [.view 999 4 .flat []], .clean⟩,
 some ⟨.struct [(0, 76), (1, 96), (2, 97), (3, 3)], 4, 80, .agg cv28, false, cv16, .clean⟩,
 some ⟨.struct [(0, 76), (1, 96), (2, 97), (3, 3)], 4, 80, .agg cv28, false, cv16, .clean⟩,
 some ⟨.struct [(0, 99), (4, 46), (6, 78), (32, 4)], 33, 568, .agg cv5, false, cv0, .clean⟩,
 some ⟨.struct [(0, 99), (4, 46), (6, 78), (32, 4)], 33, 568, .agg cv5, false, cv0, .clean⟩,
 none,
 none,
 none,
 none,
 none,
 none,
 none,
 none,
 none,
 none,
 none,
 none,
 none,
 none,
 none,
 none,
 none,
 some ⟨.struct [(0, 49), (2, 60), (24, 4)], 25, 424, .agg cv8, false, cv3, .clean⟩,
 some ⟨.struct [(0, 49), (2, 60), (24, 4)], 25, 424, .agg cv8, false, cv3, .clean⟩,
 none,
 none,
 none,
 none,
 none,
 none,
 none,
 none,
 none,
 none,
 none,
 none,
 none,
 none,
 none,
 none,
 none,
 none,
 none,
 none,
 none,
 none,
 none,
 none,
 none,
 none,
 none,
 none,
 none,
 none,
 none,
 none,
 none,
 none,
 none,
 none,
 none,
 none,
 none,
 none,
 none,
 none,
 none,
 none,
 none,
 none,
 none,
 none,
 some ⟨.struct [(0, 26), (2, 41), (24, 4)], 25, 424, .agg cv8, false, cv3, .clean⟩,
 some ⟨.struct [(0, 26), (2, 41), (24, 4)], 25, 424, .agg cv8, false, cv3, .clean⟩,
 none,
 some ⟨.slice 284, 1, 24, .nil, false, [.view 999 2 .flat []], .clean⟩,
 none,
 some ⟨.struct [(0, 3), (1, 9), (2, 172), (3, 9)], 4, 64, .agg cv25, false, cv24, .clean⟩,
 none,
 none,
 none,
 some ⟨.struct [(0, 3), (1, 26), (3, 9), (4, 3), (5, 4), (6, 3), (7, 9)], 8, 96, .agg cv11, false, [], .flat⟩,
 some ⟨.struct [(0, 3), (1, 26), (3, 9), (4, 3), (5, 4), (6, 3), (7, 9)], 8, 96, .agg cv11, true, [], .flat⟩,
 none,
 some ⟨.struct [(0, 26), (2, 4), (3, 3), (4, 9)], 5, 64, .agg cv18, false, [], .flat⟩,
 some ⟨.struct [(0, 26), (2, 4), (3, 3), (4, 9)], 5, 64, .agg cv18, true, [], .flat⟩,
 none,
 none,
 none,
 none,
 some ⟨.slice 256, 1, 24, .nil, false, [.view 999 2 .flat []], .clean⟩,
 some ⟨.struct [(0, 3), (1, 9), (2, 187), (3, 9)], 4, 64, .agg cv25, false, cv24, .clean⟩,
 some ⟨.struct [(0, 3), (1, 9), (2, 187), (3, 9)], 4, 64, .agg cv25, false, cv24, .clean⟩,
 none,
 none,
 none,
 none,
 some ⟨.struct [(0, 3), (1, 49), (3, 9), (4, 3), (5, 4), (6, 3), (7, 9)], 8, 96, .agg cv11, true, [], .flat⟩,
 none,
 some ⟨.struct [(0, 49), (2, 4), (3, 3), (4, 9)], 5, 64, .agg cv18, false, [], .flat⟩,
 some ⟨.struct [(0, 49), (2, 4), (3, 3), (4, 9)], 5, 64, .agg cv18, true, [], .flat⟩,
 none,
 none,
 none,
 none,
 none,
 none,
 none,
 none,
 none,
 none,
 none,
 some ⟨.struct [(0, 3), (1, 3), (2, 9), (3, 3), (4, 4), (5, 9)], 6, 64, .agg cv15, true, [], .flat⟩,
 none,
 some ⟨.struct [(0, 26), (2, 209)], 8, 96, .agg cv12, true, [], .flat⟩,
 none,
 some ⟨.slice 289, 1, 24, .nil, false, [.view 999 7 .flat []], .clean⟩,
 some ⟨.struct [(0, 9), (1, 213)], 2, 40, .agg [.str [], .nil], false, [.undef, .view 999 7 .flat []], .clean⟩,
 some ⟨.struct [(0, 9), (1, 213)], 2, 40, .agg [.str [], .nil], false, [.undef, .view 999 7 .flat []], .clean⟩,
 none,
 none,
 none,
 none,
 some ⟨.struct [(0, 3), (1, 3), (2, 9), (3, 3), (4, 4), (5, 9)], 6, 64, .agg cv15, true, [], .flat⟩,
 none,
 some ⟨.struct [(0, 49), (2, 220)], 8, 96, .agg cv12, true, [], .flat⟩,
 none,
 some ⟨.slice 269, 1, 24, .nil, false, [.view 999 7 .flat []], .clean⟩,
 none,
 some ⟨.struct [(0, 9), (1, 224)], 2, 40, .agg [.str [], .nil], false, [.undef, .view 999 7 .flat []], .clean⟩,
 none,
 none,
 none,
 none,
 none,
 some ⟨.slice 5, 1, 24, .nil, false, [.view 999 1 .flat []], .clean⟩,
 none,
 none,
 none,
 none,
 none,
 none,
 none,
 none,
 none,
 none,
 none,
 none,
 none,
 some ⟨.struct [(0, 9), (1, 9), (2, 3), (3, 172)], 4, 64, .agg cv26, false, cv20, .clean⟩,
 none,
 none,
 some ⟨.struct [(0, 9), (1, 9), (2, 3), (3, 187)], 4, 64, .agg cv26, false, cv20, .clean⟩,
 none,
 none,
 none,
 none,
 none,
 none,
 some ⟨.struct [(0, 9), (1, 9)], 2, 32, .agg [.str [], .str []], true, [], .flat⟩,
 none,
 none,
 none,
 none,
 none,
 none,
 none,
 none,
 none,
 none,
 none,
 none,
 some ⟨.struct [(0, 9), (1, 220)], 7, 80, .agg cv13, true, [], .flat⟩,
 none,
 none,
 none,
 some ⟨.struct [(0, 9), (1, 26), (3, 4)], 4, 56, .agg cv23, true, [], .flat⟩,
 none,
 none,
 none,
 none,
 some ⟨.struct [(0, 9), (1, 49), (3, 4)], 4, 56, .agg cv23, true, [], .flat⟩,
 none,
 none,
 none,
 none,
 none,
 some ⟨.struct [(0, 9), (1, 9)], 2, 32, .agg [.str [], .str []], true, [], .flat⟩,
 none,
 none,
 none,
 none,
 some ⟨.struct [(0, 9), (1, 209)], 7, 80, .agg cv13, true, [], .flat⟩,
 none,
 none,
 none,
 none,
 none,
 none,
 none,
 none,
 none,
 none,
 some ⟨.int .u32, 1, 4, .int .u32 0, false, [], .flat⟩,
 none,
 none,
 none,
 none,
 none,
 some ⟨.struct [(0, 9), (1, 26), (3, 209), (9, 3)], 10, 120, .agg cv10, true, [], .flat⟩,
 none,
 some ⟨.struct [(0, 9), (1, 49), (3, 220), (9, 3)], 10, 120, .agg cv10, true, [], .flat⟩,
 none,
 none,
 none,
 none,
 none,
 none,
 none,
 none,
 none,
 none,
 none,
 none,
 none,
 some ⟨.struct [(0, 17), (1, 17), (2, 17), (3, 9)], 4, 40, .agg [.undef, .undef, .undef, .str []], false, [], .flat⟩,
 some ⟨.array 0 16, 0, 0, .agg [], false, [], .flat⟩,
 none,
 some ⟨.struct [(0, 323)], 0, 0, .agg [], false, [], .flat⟩,
 none,
 some ⟨.int .u8, 1, 1, .int .u8 0, false, [], .flat⟩,
 some ⟨.int .u8, 1, 1, .int .u8 0, false, [], .flat⟩,
 none,
 some ⟨.ptr 5, 1, 8, .undef, false, [], .flat⟩,
 some ⟨.int .i32, 1, 4, .int .i32 0, false, [], .flat⟩,
 some ⟨.int .i32, 1, 4, .int .i32 0, false, [], .flat⟩]
def pzL : List (Nat × List (List V)) := [(7, [[.view 999 25 .clean []], []]),
 (8, [cv4, []]),
 (10, [[.view 999 25 .clean []]]),
 (11, [cv4]),
 (13, [[.view 999 25 .clean []], [.view 999 25 .clean []]]),
 (14, [cv4, cv4]),
 (18, [[.view 999 25 .clean []]]),
 (19, [[.view 999 25 .clean []]]),
 (20, [cv1, []]),
 (22, [cv1]),
 (24, [[.view 999 2 .flat []], [.view 999 2 .flat []]]),
 (25, [cv1, cv1]),
 (29, [cv0, []]),
 (30, [cv0]),
 (31, [cv0]),
 (32, [cv0]),
 (33, [cv0, cv0]),
 (36, [[.view 999 25 .clean []], []]),
 (38, [cv14, []]),
 (40, [[.view 999 4 .clean []], []]),
 (41, [cv21, []]),
 (42, [[.view 999 8 .flat []], []]),
 (43, [[.view 999 5 .flat []], []]),
 (44, [[.view 999 2 .flat []], []]),
 (45, [[.view 999 1 .flat []], []]),
 (46, [[.view 999 25 .clean []]]),
 (48, [cv4]),
 (49, [[.view 999 25 .clean []]]),
 (51, [cv14]),
 (53, [[.view 999 4 .clean []]]),
 (54, [cv21]),
 (55, [[.view 999 8 .flat []]]),
 (56, [[.view 999 5 .flat []]]),
 (57, [[.view 999 2 .flat []]]),
 (58, [[.view 999 1 .flat []]]),
 (59, [[.view 999 25 .clean []]]),
 (60, [[.view 999 25 .clean []]]),
 (61, [cv4]),
 (62, [[.view 999 25 .clean []], [.view 999 25 .clean []]]),
 (64, [cv14, cv14]),
 (66, [[.view 999 4 .clean []], [.view 999 4 .clean []]]),
 (67, [cv21, cv21]),
 (68, [[.view 999 8 .flat []], [.view 999 8 .flat []]]),
 (69, [[.view 999 5 .flat []], [.view 999 5 .flat []]]),
 (70, [[.view 999 1 .flat []], [.view 999 1 .flat []]]),
 (79, [cv4]),
 (80, [[.view 999 25 .clean []], []]),
 (81, [[.view 999 25 .clean []]]),
 (82, [cv4]),
 (83, [[.view 999 25 .clean []], []]),
 (84, [[.view 999 25 .clean []]]),
 (85, [[.view 999 8 .flat []], []]),
 (86, [[.view 999 2 .clean []], []]),
 (89, [[.view 999 8 .flat []]]),
 (90, [[.view 999 2 .clean []]]),
 (93, [[.view 999 8 .flat []], [.view 999 8 .flat []]]),
 (94, [[.view 999 2 .clean []], [.view 999 2 .clean []]]),
 (98, [cv16, []]),
 (99, [cv0]),
 (100, [cv16]),
 (101, [cv0]),
 (102, [cv16, cv16]),
 (106, [cv3, []]),
 (107, [cv24, []]),
 (108, [[.view 999 4 .clean []], []]),
 (109, [[.view 999 1 .flat []], []]),
 (112, [cv14]),
 (113, [[.view 999 4 .clean []]]),
 (114, [cv21]),
 (115, [cv3]),
 (116, [cv24]),
 (117, [[.view 999 4 .clean []]]),
 (118, [[.view 999 1 .flat []]]),
 (121, [cv14]),
 (122, [[.view 999 4 .clean []]]),
 (123, [cv21]),
 (124, [cv3, cv3]),
 (125, [cv24, cv24]),
 (126, [[.view 999 4 .clean []], [.view 999 4 .clean []]]),
 (127, [[.view 999 1 .flat []], [.view 999 1 .flat []]]),
 (139, [cv4]),
 (140, [cv4]),
 (142, [[.undef, .view 999 7 .flat []], []]),
 (150, [[.undef, .view 999 7 .flat []]]),
 (159, [[.undef, .view 999 7 .flat []], [.undef, .view 999 7 .flat []]]),
 (161, [[.view 999 10 .flat []], []]),
 (162, [[.view 999 4 .flat []], []]),
 (163, [cv16]),
 (164, [cv1]),
 (165, [[.view 999 10 .flat []]]),
 (166, [[.view 999 4 .flat []]]),
 (167, [cv16]),
 (168, [cv1]),
 (169, [[.view 999 10 .flat []], [.view 999 10 .flat []]]),
 (170, [[.view 999 4 .flat []], [.view 999 4 .flat []]]),
 (178, [[.view 999 2 .flat []], []]),
 (179, [cv20, []]),
 (180, [[.view 999 2 .flat []]]),
 (181, [[.view 999 2 .flat []]]),
 (182, [cv20]),
 (183, [cv24]),
 (184, [[.view 999 2 .flat []], [.view 999 2 .flat []]]),
 (185, [cv20, cv20]),
 (188, [[.view 999 7 .flat []], []]),
 (191, [[.view 999 7 .flat []]]),
 (197, [[.view 999 7 .flat []], [.view 999 7 .flat []]]),
 (198, [[.view 999 10 .flat []], []]),
 (200, [[.view 999 2 .clean []]]),
 (201, [[.view 999 10 .flat []]]),
 (202, [[.view 999 10 .flat []]]),
 (204, [[.view 999 2 .clean []]]),
 (205, [[.view 999 10 .flat []]]),
 (206, [[.view 999 10 .flat []], [.view 999 10 .flat []]])]
def rzL : List (Nat × List V) := [(10, [.own 0 25 .clean []]),
 (11, cv6),
 (18, [.own 0 25 .clean []]),
 (19, [.own 0 25 .clean []]),
 (22, cv2),
 (30, [.own 0 2 .clean [], .own 0 10 .flat [], .own 0 4 .flat [], .undef, .own 0 25 .clean [], .undef, .undef, .undef, .undef, .undef, .own 0 1 .flat [], .own 0 1 .flat [], .own 0 1 .flat [], .undef, .undef, .own 0 4 .clean [], .undef, .own 0 4 .clean [], .own 0 1 .flat [], .own 0 8 .flat [], .own 0 5 .flat [], .own 0 2 .flat [], .undef, .undef, .undef, .undef, .own 0 2 .flat [], .own 0 1 .flat [], .undef, .own 0 8 .flat [], .own 0 2 .clean []]),
 (31, [.own 0 2 .clean [], .own 0 10 .flat [], .own 0 4 .flat [], .undef, .own 0 25 .clean [], .undef, .undef, .undef, .undef, .undef, .own 0 1 .flat [], .own 0 1 .flat [], .own 0 1 .flat [], .undef, .undef, .own 0 4 .clean [], .undef, .own 0 4 .clean [], .own 0 1 .flat [], .own 0 8 .flat [], .own 0 5 .flat [], .own 0 2 .flat [], .undef, .undef, .undef, .undef, .own 0 2 .flat [], .own 0 1 .flat [], .undef, .own 0 8 .flat [], .own 0 2 .clean []]),
 (32, [.own 0 2 .clean [], .own 0 10 .flat [], .own 0 4 .flat [], .undef, .own 0 25 .clean [], .undef, .undef, .undef, .undef, .undef, .own 0 1 .flat [], .own 0 1 .flat [], .own 0 1 .flat [], .undef, .undef, .own 0 4 .clean [], .undef, .own 0 4 .clean [], .own 0 1 .flat [], .own 0 8 .flat [], .own 0 5 .flat [], .own 0 2 .flat [], .undef, .undef, .undef, .undef, .own 0 2 .flat [], .own 0 1 .flat [], .undef, .own 0 8 .flat [], .own 0 2 .clean []]),
 (46, [.own 0 25 .clean []]),
 (48, cv6),
 (49, [.own 0 25 .clean []]),
 (51, cv17),
 (53, [.own 0 4 .clean []]),
 (54, [.own 0 4 .clean [], .own 0 1 .flat []]),
 (55, [.own 0 8 .flat []]),
 (56, [.own 0 5 .flat []]),
 (57, [.own 0 2 .flat []]),
 (58, [.own 0 1 .flat []]),
 (59, [.own 0 25 .clean []]),
 (61, cv6),
 (80, [.own 0 25 .clean []]),
 (83, [.own 0 25 .clean []]),
 (89, [.own 0 8 .flat []]),
 (90, [.own 0 2 .clean []]),
 (99, [.own 0 2 .clean [], .own 0 10 .flat [], .own 0 4 .flat [], .undef, .own 0 25 .clean [], .undef, .undef, .undef, .undef, .undef, .own 0 1 .flat [], .own 0 1 .flat [], .own 0 1 .flat [], .undef, .undef, .own 0 4 .clean [], .undef, .own 0 4 .clean [], .own 0 1 .flat [], .own 0 8 .flat [], .own 0 5 .flat [], .own 0 2 .flat [], .undef, .undef, .undef, .undef, .own 0 2 .flat [], .own 0 1 .flat [], .undef, .own 0 8 .flat [], .own 0 2 .clean []]),
 (100, [.own 0 2 .clean [], .own 0 10 .flat [], .own 0 4 .flat []]),
 (101, [.own 0 2 .clean [], .own 0 10 .flat [], .own 0 4 .flat [], .undef, .own 0 25 .clean [], .undef, .undef, .undef, .undef, .undef, .own 0 1 .flat [], .own 0 1 .flat [], .own 0 1 .flat [], .undef, .undef, .own 0 4 .clean [], .undef, .own 0 4 .clean [], .own 0 1 .flat [], .own 0 8 .flat [], .own 0 5 .flat [], .own 0 2 .flat [], .undef, .undef, .undef, .undef, .own 0 2 .flat [], .own 0 1 .flat [], .undef, .own 0 8 .flat [], .own 0 2 .clean []]),
 (112, cv17),
 (113, [.own 0 4 .clean []]),
 (114, [.own 0 4 .clean [], .own 0 1 .flat []]),
 (115, [.undef, .undef, .undef, .undef, .undef, .own 0 1 .flat [], .own 0 1 .flat [], .own 0 1 .flat [], .undef, .undef, .own 0 4 .clean [], .undef, .own 0 4 .clean [], .own 0 1 .flat [], .own 0 8 .flat [], .own 0 5 .flat [], .own 0 2 .flat [], .undef, .undef, .undef, .undef, .own 0 2 .flat [], .own 0 1 .flat []]),
 (116, cv27),
 (117, [.own 0 4 .clean []]),
 (118, [.own 0 1 .flat []]),
 (121, cv17),
 (122, [.own 0 4 .clean []]),
 (123, [.own 0 4 .clean [], .own 0 1 .flat []]),
 (150, [.undef, .own 0 7 .flat []]),
 (163, [.own 0 2 .clean [], .own 0 10 .flat [], .own 0 4 .flat []]),
 (164, cv2),
 (165, [.own 0 10 .flat []]),
 (166, [.own 0 4 .flat []]),
 (167, [.own 0 2 .clean [], .own 0 10 .flat [], .own 0 4 .flat []]),
 (168, cv2),
 (180, [.own 0 2 .flat []]),
 (181, [.own 0 2 .flat []]),
 (182, [.undef, .undef, .undef, .own 0 2 .flat []]),
 (183, cv27),
 (191, [.own 0 7 .flat []]),
 (200, [.own 0 2 .clean []]),
 (201, [.own 0 10 .flat []]),
 (202, [.own 0 10 .flat []]),
 (204, [.own 0 2 .clean []]),
 (205, [.own 0 10 .flat []])]
def fgL : List (Nat × List (Nat × List Nat × List Nat × List Nat)) := [(18, [(5, [0, 5, 6, 7, 8, 9, 10, 11, 12, 13, 14, 15, 16, 17, 18, 19, 20, 21, 22, 23, 24, 25, 26, 27, 28, 29, 30, 31, 32, 33, 34, 35, 36, 37, 38, 39, 40, 41, 42, 43, 44, 45, 46, 47, 48, 49, 50, 51, 52, 53, 54, 55, 56], [], []), (1005, [0, 1, 4, 5, 6, 7, 8, 9, 10, 11, 12, 13, 14, 15, 16, 17, 18, 19, 20, 21, 22, 23, 24, 25, 26, 27, 28, 29, 30, 31, 32, 33, 34, 35, 36, 37, 38, 39, 40, 41, 42, 43, 44, 45, 46, 47, 48, 49, 50, 51, 52, 53, 54, 55, 56], [1], [])]),
 (19, [(5, [0, 1, 5, 6, 7, 8, 9, 10, 11, 12, 13, 14, 15, 16, 17, 18, 19, 20, 21, 22, 23, 24, 25, 26, 27, 28, 29, 30, 31, 32, 33, 34, 35, 36, 37, 38, 39, 40, 41, 42, 43, 44, 45, 46, 47, 48, 49, 50, 51], [1], []), (1005, [0, 1, 4, 5, 6, 7, 8, 9, 10, 11, 12, 13, 14, 15, 16, 17, 18, 19, 20, 21, 22, 23, 24, 25, 26, 27, 28, 29, 30, 31, 32, 33, 34, 35, 36, 37, 38, 39, 40, 41, 42, 43, 44, 45, 46, 47, 48, 49, 50, 51], [1], [])]),
 (24, [(4, [2, 3, 4, 6, 7, 8, 9, 10, 11, 12, 13, 14, 15, 16, 17, 18, 19, 20, 21, 22, 23, 24, 25, 26], [], []), (1004, [0, 1, 2, 3, 5, 6, 7, 8, 9, 10, 11, 12, 13, 14, 15, 16, 17, 18, 19, 20, 21, 22, 23, 24, 25, 26], [], [])]),
 (36, [(5, [2, 3, 4, 6, 7, 8, 9, 10, 11, 12, 13, 14, 15, 16, 17, 18, 19, 20, 21, 22, 23, 24, 25, 26], [], []), (1005, [0, 2, 3, 5, 6, 7, 8, 9, 10, 11, 12, 13, 14, 15, 16, 17, 18, 19, 20, 21, 22, 23, 24, 25, 26], [], [])]),
 (40, [(5, [2, 3, 4, 6, 7, 8, 9, 10, 11, 12, 13, 14, 15, 16, 17, 18, 19, 20, 21, 22, 23, 24, 25, 26], [], []), (1005, [0, 2, 3, 5, 6, 7, 8, 9, 10, 11, 12, 13, 14, 15, 16, 17, 18, 19, 20, 21, 22, 23, 24, 25, 26], [], [])]),
 (42, [(5, [2, 3, 4, 6, 7, 8, 9, 10, 11, 12, 13, 14, 15, 16, 17, 18, 19, 20, 21, 22, 23, 24, 25, 26], [], []), (1005, [0, 2, 3, 5, 6, 7, 8, 9, 10, 11, 12, 13, 14, 15, 16, 17, 18, 19, 20, 21, 22, 23, 24, 25, 26], [], [])]),
 (43, [(5, [2, 3, 4, 6, 7, 8, 9, 10, 11, 12, 13, 14, 15, 16, 17, 18, 19, 20, 21, 22, 23, 24, 25, 26], [], []), (1005, [0, 2, 3, 5, 6, 7, 8, 9, 10, 11, 12, 13, 14, 15, 16, 17, 18, 19, 20, 21, 22, 23, 24, 25, 26], [], [])]),
 (44, [(5, [2, 3, 4, 6, 7, 8, 9, 10, 11, 12, 13, 14, 15, 16, 17, 18, 19, 20, 21, 22, 23, 24, 25, 26], [], []), (1005, [0, 2, 3, 5, 6, 7, 8, 9, 10, 11, 12, 13, 14, 15, 16, 17, 18, 19, 20, 21, 22, 23, 24, 25, 26], [], [])]),
 (45, [(5, [2, 3, 4, 6, 7, 8, 9, 10, 11, 12, 13, 14, 15, 16, 17, 18, 19, 20, 21, 22, 23, 24, 25, 26, 27], [], []), (1005, [0, 2, 3, 5, 6, 7, 8, 9, 10, 11, 12, 13, 14, 15, 16, 17, 18, 19, 20, 21, 22, 23, 24, 25, 26, 27], [], [])]),
 (46, [(3, [0, 5, 6, 7, 8, 9, 10, 11, 12, 13, 14, 15, 16, 17, 18, 19, 20, 21, 22, 23, 24, 25, 26, 27, 28, 29, 30, 31, 32, 33, 34, 35], [5, 1002006000051], []), (1003, [0, 1, 4, 5, 6, 7, 8, 9, 10, 11, 12, 13, 14, 15, 16, 17, 18, 19, 20, 21, 22, 23, 24, 25, 26, 27, 28, 29, 30, 31, 32, 33, 34, 35], [1, 5], [])]),
 (49, [(3, [1, 2, 5, 6, 7, 8, 9, 10, 11, 12, 13, 14, 15, 16, 17, 18, 19, 20, 21, 22], [], []), (1003, [0, 1, 2, 4, 5, 6, 7, 8, 9, 10, 11, 12, 13, 14, 15, 16, 17, 18, 19, 20, 21, 22], [], [])]),
 (53, [(3, [1, 2, 5, 6, 7, 8, 9, 10, 11, 12, 13, 14, 15, 16, 17, 18, 19, 20, 21, 22], [], []), (1003, [0, 1, 2, 4, 5, 6, 7, 8, 9, 10, 11, 12, 13, 14, 15, 16, 17, 18, 19, 20, 21, 22], [], [])]),
 (55, [(3, [1, 2, 5, 6, 7, 8, 9, 10, 11, 12, 13, 14, 15, 16, 17, 18, 19, 20, 21, 22], [], []), (1003, [0, 1, 2, 4, 5, 6, 7, 8, 9, 10, 11, 12, 13, 14, 15, 16, 17, 18, 19, 20, 21, 22], [], [])]),
 (56, [(3, [1, 2, 5, 6, 7, 8, 9, 10, 11, 12, 13, 14, 15, 16, 17, 18, 19, 20, 21, 22], [], []), (1003, [0, 1, 2, 4, 5, 6, 7, 8, 9, 10, 11, 12, 13, 14, 15, 16, 17, 18, 19, 20, 21, 22], [], [])]),
 (57, [(3, [1, 2, 5, 6, 7, 8, 9, 10, 11, 12, 13, 14, 15, 16, 17, 18, 19, 20, 21, 22], [], []), (1003, [0, 1, 2, 4, 5, 6, 7, 8, 9, 10, 11, 12, 13, 14, 15, 16, 17, 18, 19, 20, 21, 22], [], [])]),
 (58, [(3, [1, 2, 5, 6, 7, 8, 9, 10, 11, 12, 13, 14, 15, 16, 17, 18, 19, 20, 21], [], []), (1003, [0, 1, 2, 4, 5, 6, 7, 8, 9, 10, 11, 12, 13, 14, 15, 16, 17, 18, 19, 20, 21], [], [])]),
 (59, [(3, [0, 1, 4, 5, 6, 7, 8, 9, 13, 14, 15, 16, 17, 18, 19, 20, 21, 22, 23, 24, 25, 26, 27], [1, 5, 1002006000051], []), (1003, [0, 1, 4, 5, 6, 7, 8, 9, 10, 11, 12, 13, 14, 15, 16, 17, 18, 19, 20, 21, 22, 23, 24, 25, 26, 27], [1, 5], [])]),
 (62, [(4, [2, 3, 4, 6, 7, 8, 9, 10, 11, 12, 13, 14, 15, 16, 17, 18, 19, 20, 21, 22, 23, 24, 25, 26], [], []), (1004, [0, 1, 2, 3, 5, 6, 7, 8, 9, 10, 11, 12, 13, 14, 15, 16, 17, 18, 19, 20, 21, 22, 23, 24, 25, 26], [], [])]),
 (66, [(4, [2, 3, 4, 6, 7, 8, 9, 10, 11, 12, 13, 14, 15, 16, 17, 18, 19, 20, 21, 22, 23, 24, 25, 26], [], []), (1004, [0, 1, 2, 3, 5, 6, 7, 8, 9, 10, 11, 12, 13, 14, 15, 16, 17, 18, 19, 20, 21, 22, 23, 24, 25, 26], [], [])]),
 (68, [(4, [2, 3, 4, 6, 7, 8, 9, 10, 11, 12, 13, 14, 15, 16, 17, 18, 19, 20, 21, 22, 23, 24, 25, 26], [], []), (1004, [0, 1, 2, 3, 5, 6, 7, 8, 9, 10, 11, 12, 13, 14, 15, 16, 17, 18, 19, 20, 21, 22, 23, 24, 25, 26], [], [])]),
 (69, [(4, [2, 3, 4, 6, 7, 8, 9, 10, 11, 12, 13, 14, 15, 16, 17, 18, 19, 20, 21, 22, 23, 24, 25, 26], [], []), (1004, [0, 1, 2, 3, 5, 6, 7, 8, 9, 10, 11, 12, 13, 14, 15, 16, 17, 18, 19, 20, 21, 22, 23, 24, 25, 26], [], [])]),
 (70, [(4, [2, 3, 4, 6, 7, 8, 9, 10, 11, 12, 13, 14, 15, 16, 17, 18, 19, 20, 21, 22, 23, 24, 25], [], []), (1004, [0, 1, 2, 3, 5, 6, 7, 8, 9, 10, 11, 12, 13, 14, 15, 16, 17, 18, 19, 20, 21, 22, 23, 24, 25], [], [])]),
 (81, [(3, [0, 2, 5, 6, 7, 8, 9, 10, 11, 12, 13, 14, 15, 16, 17, 18, 19, 20], [], []), (1003, [0, 1, 2, 4, 5, 6, 7, 8, 9, 10, 11, 12, 13, 14, 15, 16, 17, 18, 19, 20], [1], [])]),
 (84, [(3, [0, 1, 2, 4, 5, 6, 10, 11, 12, 13, 14, 15, 16, 17, 18], [1, 5], []), (1003, [0, 1, 2, 4, 5, 6, 7, 8, 9, 10, 11, 12, 13, 14, 15, 16, 17, 18], [1, 5], [])]),
 (85, [(5, [2, 3, 4, 6, 7, 8, 9, 10, 11, 12, 13, 14, 15, 16, 17, 18, 19, 20, 21, 22, 23, 24, 25, 26], [], []), (1005, [0, 2, 3, 5, 6, 7, 8, 9, 10, 11, 12, 13, 14, 15, 16, 17, 18, 19, 20, 21, 22, 23, 24, 25, 26], [], [])]),
 (86, [(5, [2, 3, 4, 6, 7, 8, 9, 10, 11, 12, 13, 14, 15, 16, 17, 18, 19, 20, 21, 22, 23, 24, 25, 26], [], []), (1005, [0, 2, 3, 5, 6, 7, 8, 9, 10, 11, 12, 13, 14, 15, 16, 17, 18, 19, 20, 21, 22, 23, 24, 25, 26], [], [])]),
 (89, [(3, [1, 2, 5, 6, 7, 8, 9, 10, 11, 12, 13, 14, 15, 16, 17, 18, 19, 20, 21, 22], [], []), (1003, [0, 1, 2, 4, 5, 6, 7, 8, 9, 10, 11, 12, 13, 14, 15, 16, 17, 18, 19, 20, 21, 22], [], [])]),
 (90, [(3, [1, 2, 5, 6, 7, 8, 9, 10, 11, 12, 13, 14, 15, 16, 17, 18, 19, 20, 21, 22], [], []), (1003, [0, 1, 2, 4, 5, 6, 7, 8, 9, 10, 11, 12, 13, 14, 15, 16, 17, 18, 19, 20, 21, 22], [], [])]),
 (93, [(4, [2, 3, 4, 6, 7, 8, 9, 10, 11, 12, 13, 14, 15, 16, 17, 18, 19, 20, 21, 22, 23, 24, 25, 26], [], []), (1004, [0, 1, 2, 3, 5, 6, 7, 8, 9, 10, 11, 12, 13, 14, 15, 16, 17, 18, 19, 20, 21, 22, 23, 24, 25, 26], [], [])]),
 (94, [(4, [2, 3, 4, 6, 7, 8, 9, 10, 11, 12, 13, 14, 15, 16, 17, 18, 19, 20, 21, 22, 23, 24, 25, 26], [], []), (1004, [0, 1, 2, 3, 5, 6, 7, 8, 9, 10, 11, 12, 13, 14, 15, 16, 17, 18, 19, 20, 21, 22, 23, 24, 25, 26], [], [])]),
 (97, [(4, [1, 2, 4, 5, 6, 7, 8, 9, 10, 11, 12, 13, 14, 15, 16, 17, 18, 19], [], []), (1004, [0, 1, 2, 4, 5, 6, 7, 8, 9, 10, 11, 12, 13, 14, 15, 16, 17, 18, 19], [], [])]),
 (99, [(1, [], [], [0, 3, 6, 9])]),
 (101, [(1, [], [], [0, 3, 6, 9])]),
 (108, [(5, [2, 3, 4, 6, 7, 8, 9, 10, 11, 12, 13, 14, 15, 16, 17, 18, 19, 20, 21, 22, 23, 24, 25, 26], [], []), (1005, [0, 2, 3, 5, 6, 7, 8, 9, 10, 11, 12, 13, 14, 15, 16, 17, 18, 19, 20, 21, 22, 23, 24, 25, 26], [], [])]),
 (112, [(1, [], [], [0, 3, 7, 11, 14])]),
 (113, [(3, [1, 2, 5, 6, 7, 8, 9, 10, 11, 12, 13, 14, 15, 16, 17, 18, 19, 20, 21, 22, 23, 24, 25, 26, 27, 28], [5], []), (1003, [0, 1, 2, 4, 5, 6, 7, 8, 9, 10, 11, 12, 13, 14, 15, 16, 17, 18, 19, 20, 21, 22, 23, 24, 25, 26, 27, 28], [5], [])]),
 (114, [(3, [0, 5, 6, 7, 8, 9, 10, 11, 12, 13, 14, 15, 16, 17, 18, 19, 20, 21, 22, 23, 24, 25, 26, 27, 28, 29, 30, 31, 32, 33, 34, 35, 36, 37], [5, 1002006000009], []), (1003, [0, 1, 4, 5, 6, 7, 8, 9, 10, 11, 12, 13, 14, 15, 16, 17, 18, 19, 20, 21, 22, 23, 24, 25, 26, 27, 28, 29, 30, 31, 32, 33, 34, 35, 36, 37], [1, 5], [])]),
 (117, [(3, [1, 2, 5, 6, 7, 8, 9, 10, 11, 12, 13, 14, 15, 16, 17, 18, 19, 20, 21, 22], [], []), (1003, [0, 1, 2, 4, 5, 6, 7, 8, 9, 10, 11, 12, 13, 14, 15, 16, 17, 18, 19, 20, 21, 22], [], [])]),
 (118, [(3, [1, 2, 5, 6, 7, 8, 9, 10, 11, 12, 13, 14, 15, 16, 17, 18, 19, 20, 21], [], []), (1003, [0, 1, 2, 4, 5, 6, 7, 8, 9, 10, 11, 12, 13, 14, 15, 16, 17, 18, 19, 20, 21], [], [])]),
 (122, [(3, [0, 1, 2, 4, 5, 6, 10, 11, 12, 13, 14, 15, 16, 17, 18, 19], [5], []), (1003, [0, 1, 2, 4, 5, 6, 7, 8, 9, 10, 11, 12, 13, 14, 15, 16, 17, 18, 19], [5], [])]),
 (123, [(3, [0, 1, 4, 5, 6, 7, 8, 9, 10, 11, 15, 16, 17, 18, 19, 20, 21, 22, 23, 24, 25, 26, 27, 28, 29, 30], [1, 5, 1002006000009], []), (1003, [0, 1, 4, 5, 6, 7, 8, 9, 10, 11, 12, 13, 14, 15, 16, 17, 18, 19, 20, 21, 22, 23, 24, 25, 26, 27, 28, 29, 30], [1, 5], [])]),
 (126, [(4, [2, 3, 4, 6, 7, 8, 9, 10, 11, 12, 13, 14, 15, 16, 17, 18, 19, 20, 21, 22, 23, 24, 25, 26], [], []), (1004, [0, 1, 2, 3, 5, 6, 7, 8, 9, 10, 11, 12, 13, 14, 15, 16, 17, 18, 19, 20, 21, 22, 23, 24, 25, 26], [], [])]),
 (127, [(4, [2, 3, 4, 6, 7, 8, 9, 10, 11, 12, 13, 14, 15, 16, 17, 18, 19, 20, 21, 22, 23, 24, 25], [], []), (1004, [0, 1, 2, 3, 5, 6, 7, 8, 9, 10, 11, 12, 13, 14, 15, 16, 17, 18, 19, 20, 21, 22, 23, 24, 25], [], [])]),
 (162, [(5, [2, 3, 4, 6, 7, 8, 9, 10, 11, 12, 13, 14, 15, 16, 17, 18, 19, 20, 21, 22, 23, 24, 25, 26], [], []), (1005, [0, 2, 3, 5, 6, 7, 8, 9, 10, 11, 12, 13, 14, 15, 16, 17, 18, 19, 20, 21, 22, 23, 24, 25, 26], [], [])]),
 (163, [(1, [], [], [0, 3, 7, 10])]),
 (164, [(1, [], [], [0, 2, 6, 9, 12])]),
 (166, [(3, [1, 2, 5, 6, 7, 8, 9, 10, 11, 12, 13, 14, 15, 16, 17, 18, 19, 20, 21, 22], [], []), (1003, [0, 1, 2, 4, 5, 6, 7, 8, 9, 10, 11, 12, 13, 14, 15, 16, 17, 18, 19, 20, 21, 22], [], [])]),
 (167, [(1, [], [], [0, 3, 7, 10])]),
 (168, [(1, [], [], [0, 2, 6, 9, 12])]),
 (170, [(4, [2, 3, 4, 6, 7, 8, 9, 10, 11, 12, 13, 14, 15, 16, 17, 18, 19, 20, 21, 22, 23, 24, 25, 26], [], []), (1004, [0, 1, 2, 3, 5, 6, 7, 8, 9, 10, 11, 12, 13, 14, 15, 16, 17, 18, 19, 20, 21, 22, 23, 24, 25, 26], [], [])]),
 (178, [(5, [2, 3, 4, 6, 7, 8, 9, 10, 11, 12, 13, 14, 15, 16, 17, 18, 19, 20, 21, 22, 23, 24, 25, 26], [], []), (1005, [0, 2, 3, 5, 6, 7, 8, 9, 10, 11, 12, 13, 14, 15, 16, 17, 18, 19, 20, 21, 22, 23, 24, 25, 26], [], [])]),
 (181, [(3, [1, 2, 5, 6, 7, 8, 9, 10, 11, 12, 13, 14, 15, 16, 17, 18, 19, 20, 21, 22], [], []), (1003, [0, 1, 2, 4, 5, 6, 7, 8, 9, 10, 11, 12, 13, 14, 15, 16, 17, 18, 19, 20, 21, 22], [], [])]),
 (184, [(4, [2, 3, 4, 6, 7, 8, 9, 10, 11, 12, 13, 14, 15, 16, 17, 18, 19, 20, 21, 22, 23, 24, 25, 26], [], []), (1004, [0, 1, 2, 3, 5, 6, 7, 8, 9, 10, 11, 12, 13, 14, 15, 16, 17, 18, 19, 20, 21, 22, 23, 24, 25, 26], [], [])]),
 (188, [(5, [2, 3, 4, 6, 7, 8, 9, 10, 11, 12, 13, 14, 15, 16, 17, 18, 19, 20, 21, 22, 23, 24, 25, 26], [], []), (1005, [0, 2, 3, 5, 6, 7, 8, 9, 10, 11, 12, 13, 14, 15, 16, 17, 18, 19, 20, 21, 22, 23, 24, 25, 26], [], [])]),
 (191, [(3, [1, 2, 5, 6, 7, 8, 9, 10, 11, 12, 13, 14, 15, 16, 17, 18, 19, 20, 21, 22], [], []), (1003, [0, 1, 2, 4, 5, 6, 7, 8, 9, 10, 11, 12, 13, 14, 15, 16, 17, 18, 19, 20, 21, 22], [], [])]),
 (197, [(4, [2, 3, 4, 6, 7, 8, 9, 10, 11, 12, 13, 14, 15, 16, 17, 18, 19, 20, 21, 22, 23, 24, 25, 26], [], []), (1004, [0, 1, 2, 3, 5, 6, 7, 8, 9, 10, 11, 12, 13, 14, 15, 16, 17, 18, 19, 20, 21, 22, 23, 24, 25, 26], [], [])]),
 (198, [(5, [2, 3, 4, 6, 7, 8, 9, 10, 11, 12, 13, 14, 15, 16, 17, 18, 19, 20, 21, 22, 23, 24, 25, 26], [], []), (1005, [0, 2, 3, 5, 6, 7, 8, 9, 10, 11, 12, 13, 14, 15, 16, 17, 18, 19, 20, 21, 22, 23, 24, 25, 26], [], [])]),
 (200, [(3, [1, 2, 5, 6, 7, 8, 9, 10, 11, 12, 13, 14, 15, 16, 17, 18, 19, 20, 21, 22, 23, 24, 25, 26, 27, 28], [], []), (1003, [0, 1, 2, 4, 5, 6, 7, 8, 9, 10, 11, 12, 13, 14, 15, 16, 17, 18, 19, 20, 21, 22, 23, 24, 25, 26, 27, 28], [], [])]),
 (202, [(3, [1, 2, 5, 6, 7, 8, 9, 10, 11, 12, 13, 14, 15, 16, 17, 18, 19, 20, 21, 22], [], []), (1003, [0, 1, 2, 4, 5, 6, 7, 8, 9, 10, 11, 12, 13, 14, 15, 16, 17, 18, 19, 20, 21, 22], [], [])]),
 (204, [(3, [0, 1, 2, 4, 5, 6, 10, 11, 12, 13, 14, 15, 16, 17, 18, 19, 20, 21, 22, 23, 24], [5], []), (5, [], [], [1, 4]), (1003, [0, 1, 2, 4, 5, 6, 7, 8, 9, 10, 11, 12, 13, 14, 15, 16, 17, 18, 19, 20, 21, 22, 23, 24], [5], [])]),
 (206, [(4, [2, 3, 4, 6, 7, 8, 9, 10, 11, 12, 13, 14, 15, 16, 17, 18, 19, 20, 21, 22, 23, 24, 25, 26], [], []), (1004, [0, 1, 2, 3, 5, 6, 7, 8, 9, 10, 11, 12, 13, 14, 15, 16, 17, 18, 19, 20, 21, 22, 23, 24, 25, 26], [], [])])]
def cfg : Cfg := ⟨fun t => tys.getD t none, fun f i => lookN i ([], [], []) (lookN f [] fgL), fun f => lookN f [] pzL, fun f => lookN f [] rzL⟩
theorem agree : Agree Go.Proofs.Tryz.prog cfg := agree_of tys (fun _ => rfl) (by kernel_rfl)
def ext0 : Nat → List V → Option V := extL []
noncomputable abbrev D : Nat → List V → Option V := den Go.Proofs.Tryz.prog cfg ext0
end Go.Am
end

/-
  The data of the functions: structures and their rows. Written by program (eform.py).
-/
import Derived.Test.YtcajalfelmgeiaaAmSize
set_option linter.unusedSimpArgs false
namespace Go.Am
open Go
structure TAddr where
  xHost : List UInt8
  xPath : List UInt8
  deriving DecidableEq
abbrev kAddr : List CK := [.str, .str]
def TAddr.row (a : TAddr) : cellsT kAddr := (a.xHost, a.xPath, ())
theorem TAddr.cmp (x y : TAddr) : ((x.xHost == y.xHost) && ((x.xPath == y.xPath) && true)) = decide (x = y) := by
  obtain ⟨p1, p2⟩ := x
  obtain ⟨q1, q2⟩ := y
  rw [Bool.eq_iff_iff]
  simp only [TAddr.mk.injEq, Bool.and_true, Bool.and_eq_true, beq_iff_eq, decide_eq_true_eq, and_assoc]
structure TResponse where
  xStatus : Int
  xKind : Int
  xBody : List UInt8
  xAge : Int
  xShares : Bool
  xPolicy : List UInt8
  deriving DecidableEq
abbrev kResponse : List CK := [.int .i64, .int .i64, .str, .int .i64, .bool, .str]
def TResponse.row (a : TResponse) : cellsT kResponse := (a.xStatus, a.xKind, a.xBody, a.xAge, a.xShares, a.xPolicy, ())
theorem TResponse.cmp (x y : TResponse) : ((x.xStatus == y.xStatus) && ((x.xKind == y.xKind) && ((x.xBody == y.xBody) && ((x.xAge == y.xAge) && ((x.xShares == y.xShares) && ((x.xPolicy == y.xPolicy) && true)))))) = decide (x = y) := by
  obtain ⟨p1, p2, p3, p4, p5, p6⟩ := x
  obtain ⟨q1, q2, q3, q4, q5, q6⟩ := y
  rw [Bool.eq_iff_iff]
  simp only [TResponse.mk.injEq, Bool.and_true, Bool.and_eq_true, beq_iff_eq, decide_eq_true_eq, and_assoc]
structure TEntry where
  xTop : List UInt8
  xTo : TAddr
  xResponse : TResponse
  xUntil : Int
  deriving DecidableEq
abbrev kEntry : List CK := [.str, .str, .str, .int .i64, .int .i64, .str, .int .i64, .bool, .str, .int .i64]
def TEntry.row (a : TEntry) : cellsT kEntry := (a.xTop, a.xTo.xHost, a.xTo.xPath, a.xResponse.xStatus, a.xResponse.xKind, a.xResponse.xBody, a.xResponse.xAge, a.xResponse.xShares, a.xResponse.xPolicy, a.xUntil, ())
theorem TEntry.cmp (x y : TEntry) : ((x.xTop == y.xTop) && ((x.xTo.xHost == y.xTo.xHost) && ((x.xTo.xPath == y.xTo.xPath) && ((x.xResponse.xStatus == y.xResponse.xStatus) && ((x.xResponse.xKind == y.xResponse.xKind) && ((x.xResponse.xBody == y.xResponse.xBody) && ((x.xResponse.xAge == y.xResponse.xAge) && ((x.xResponse.xShares == y.xResponse.xShares) && ((x.xResponse.xPolicy == y.xResponse.xPolicy) && ((x.xUntil == y.xUntil) && true)))))))))) = decide (x = y) := by
  obtain ⟨p1, ⟨p2, p3⟩, ⟨p4, p5, p6, p7, p8, p9⟩, p10⟩ := x
  obtain ⟨q1, ⟨q2, q3⟩, ⟨q4, q5, q6, q7, q8, q9⟩, q10⟩ := y
  rw [Bool.eq_iff_iff]
  simp only [TAddr.mk.injEq, TEntry.mk.injEq, TResponse.mk.injEq, Bool.and_true, Bool.and_eq_true, beq_iff_eq, decide_eq_true_eq, and_assoc]
structure TCache where
  xEntries : List TEntry
  deriving DecidableEq
abbrev kCache : List CK := [.sl 10 true]
def TCache.row (a : TCache) : cellsT kCache := ((rows kEntry TEntry.row a.xEntries), ())
structure TFile where
  xPath : List UInt8
  xResponse : TResponse
  deriving DecidableEq
abbrev kFile : List CK := [.str, .int .i64, .int .i64, .str, .int .i64, .bool, .str]
def TFile.row (a : TFile) : cellsT kFile := (a.xPath, a.xResponse.xStatus, a.xResponse.xKind, a.xResponse.xBody, a.xResponse.xAge, a.xResponse.xShares, a.xResponse.xPolicy, ())
theorem TFile.cmp (x y : TFile) : ((x.xPath == y.xPath) && ((x.xResponse.xStatus == y.xResponse.xStatus) && ((x.xResponse.xKind == y.xResponse.xKind) && ((x.xResponse.xBody == y.xResponse.xBody) && ((x.xResponse.xAge == y.xResponse.xAge) && ((x.xResponse.xShares == y.xResponse.xShares) && ((x.xResponse.xPolicy == y.xResponse.xPolicy) && true))))))) = decide (x = y) := by
  obtain ⟨p1, ⟨p2, p3, p4, p5, p6, p7⟩⟩ := x
  obtain ⟨q1, ⟨q2, q3, q4, q5, q6, q7⟩⟩ := y
  rw [Bool.eq_iff_iff]
  simp only [TFile.mk.injEq, TResponse.mk.injEq, Bool.and_true, Bool.and_eq_true, beq_iff_eq, decide_eq_true_eq, and_assoc]
structure TServer where
  xHost : List UInt8
  xFiles : List TFile
  deriving DecidableEq
abbrev kServer : List CK := [.str, .sl 7 true]
def TServer.row (a : TServer) : cellsT kServer := (a.xHost, (rows kFile TFile.row a.xFiles), ())
structure TSent where
  xTop : List UInt8
  xTo : TAddr
  xGuess : Bool
  deriving DecidableEq
abbrev kSent : List CK := [.str, .str, .str, .bool]
def TSent.row (a : TSent) : cellsT kSent := (a.xTop, a.xTo.xHost, a.xTo.xPath, a.xGuess, ())
theorem TSent.cmp (x y : TSent) : ((x.xTop == y.xTop) && ((x.xTo.xHost == y.xTo.xHost) && ((x.xTo.xPath == y.xTo.xPath) && ((x.xGuess == y.xGuess) && true)))) = decide (x = y) := by
  obtain ⟨p1, ⟨p2, p3⟩, p4⟩ := x
  obtain ⟨q1, ⟨q2, q3⟩, q4⟩ := y
  rw [Bool.eq_iff_iff]
  simp only [TAddr.mk.injEq, TSent.mk.injEq, Bool.and_true, Bool.and_eq_true, beq_iff_eq, decide_eq_true_eq, and_assoc]
structure TNet where
  xServers : List TServer
  xCache : TCache
  xLog : List TSent
  xNow : Int
  deriving DecidableEq
abbrev kNet : List CK := [.sl 2 false, .sl 10 true, .sl 4 true, .int .i64]
def TNet.row (a : TNet) : cellsT kNet := ((rows kServer TServer.row a.xServers), (rows kEntry TEntry.row a.xCache.xEntries), (rows kSent TSent.row a.xLog), a.xNow, ())
end Go.Am


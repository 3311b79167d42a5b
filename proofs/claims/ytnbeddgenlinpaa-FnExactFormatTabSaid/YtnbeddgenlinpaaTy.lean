/-
  The data of the functions: structures and their rows. Written by program (eform.py).
-/
import Derived.Test.YtnbeddgenlinpaaAmSize
namespace Go.Am
open Go
structure TAddr where
  xHost : List UInt8
  xPath : List UInt8
  deriving DecidableEq
abbrev kAddr : List CK := [.str, .str]
def TAddr.row (a : TAddr) : cellsT kAddr := (a.xHost, a.xPath, ())
structure TResponse where
  xStatus : Int
  xKind : Int
  xBody : List UInt8
  xAge : Int
  xShares : Bool
  xPolicy : List UInt8
  deriving DecidableEq
abbrev kResponse : List CK := [.int .i64, .int .i64, .str, .int .i64, .bool, .str]
def TResponse.row (a : TResponse) : cellsT kResponse := (a.xStatus, a.xKind, a.xBody, a.xAge, a.xShares, a.xPolicy, ())
structure TEntry where
  xTop : List UInt8
  xTo : TAddr
  xResponse : TResponse
  xUntil : Int
  deriving DecidableEq
abbrev kEntry : List CK := [.str, .str, .str, .int .i64, .int .i64, .str, .int .i64, .bool, .str, .int .i64]
def TEntry.row (a : TEntry) : cellsT kEntry := (a.xTop, a.xTo.xHost, a.xTo.xPath, a.xResponse.xStatus, a.xResponse.xKind, a.xResponse.xBody, a.xResponse.xAge, a.xResponse.xShares, a.xResponse.xPolicy, a.xUntil, ())
structure TCache where
  xEntries : List TEntry
  deriving DecidableEq
abbrev kCache : List CK := [.sl 10 true]
def TCache.row (a : TCache) : cellsT kCache := ((rows kEntry TEntry.row a.xEntries), ())
structure TFile where
  xPath : List UInt8
  xResponse : TResponse
  deriving DecidableEq
abbrev kFile : List CK := [.str, .int .i64, .int .i64, .str, .int .i64, .bool, .str]
def TFile.row (a : TFile) : cellsT kFile := (a.xPath, a.xResponse.xStatus, a.xResponse.xKind, a.xResponse.xBody, a.xResponse.xAge, a.xResponse.xShares, a.xResponse.xPolicy, ())
structure TServer where
  xHost : List UInt8
  xFiles : List TFile
  deriving DecidableEq
abbrev kServer : List CK := [.str, .sl 7 true]
def TServer.row (a : TServer) : cellsT kServer := (a.xHost, (rows kFile TFile.row a.xFiles), ())
structure TSent where
  xTop : List UInt8
  xTo : TAddr
  xGuess : Bool
  deriving DecidableEq
abbrev kSent : List CK := [.str, .str, .str, .bool]
def TSent.row (a : TSent) : cellsT kSent := (a.xTop, a.xTo.xHost, a.xTo.xPath, a.xGuess, ())
structure TNet where
  xServers : List TServer
  xCache : TCache
  xLog : List TSent
  xNow : Int
  deriving DecidableEq
abbrev kNet : List CK := [.sl 2 false, .sl 10 true, .sl 4 true, .int .i64]
def TNet.row (a : TNet) : cellsT kNet := ((rows kServer TServer.row a.xServers), (rows kEntry TEntry.row a.xCache.xEntries), (rows kSent TSent.row a.xLog), a.xNow, ())
structure TPolicy where
  xSet : Bool
  xScripts : List (List UInt8)
  xStyles : List (List UInt8)
  xImages : List (List UInt8)
  xNonce : List UInt8
  deriving DecidableEq
abbrev kPolicy : List CK := [.bool, .sl 1 true, .sl 1 true, .sl 1 true, .str]
def TPolicy.row (a : TPolicy) : cellsT kPolicy := (a.xSet, (rStr a.xScripts), (rStr a.xStyles), (rStr a.xImages), a.xNonce, ())
structure TTokenizer where
  xRest : List UInt8
  deriving DecidableEq
abbrev kTokenizer : List CK := [.str]
def TTokenizer.row (a : TTokenizer) : cellsT kTokenizer := (a.xRest, ())
structure TAttr where
  xName : List UInt8
  xValue : List UInt8
  deriving DecidableEq
abbrev kAttr : List CK := [.str, .str]
def TAttr.row (a : TAttr) : cellsT kAttr := (a.xName, a.xValue, ())
structure TToken where
  xKind : Int
  xName : List UInt8
  xAttrs : List TAttr
  xText : List UInt8
  deriving DecidableEq
abbrev kToken : List CK := [.int .i64, .str, .sl 2 true, .str]
def TToken.row (a : TToken) : cellsT kToken := (a.xKind, a.xName, (rows kAttr TAttr.row a.xAttrs), a.xText, ())
structure TNode where
  xName : List UInt8
  xText : List UInt8
  xParent : Int
  xAttrs : List TAttr
  deriving DecidableEq
abbrev kNode : List CK := [.str, .str, .int .i64, .sl 2 true]
def TNode.row (a : TNode) : cellsT kNode := (a.xName, a.xText, a.xParent, (rows kAttr TAttr.row a.xAttrs), ())
structure TBuilder where
  xNodes : List TNode
  xOpen : List Int
  deriving DecidableEq
abbrev kBuilder : List CK := [.sl 4 false, .sl 1 true]
def TBuilder.row (a : TBuilder) : cellsT kBuilder := ((rows kNode TNode.row a.xNodes), (rInt a.xOpen), ())
structure TSlot where
  xMode : Int
  xTo : TAddr
  xDigest : List UInt8
  xNode : Int
  xDone : Bool
  xCode : Int
  xBody : List UInt8
  deriving DecidableEq
abbrev kSlot : List CK := [.int .i64, .str, .str, .str, .int .i64, .bool, .int .i64, .str]
def TSlot.row (a : TSlot) : cellsT kSlot := (a.xMode, a.xTo.xHost, a.xTo.xPath, a.xDigest, a.xNode, a.xDone, a.xCode, a.xBody, ())
structure TModule where
  xTo : TAddr
  xDone : Bool
  xCode : Int
  xBody : List UInt8
  deriving DecidableEq
abbrev kModule : List CK := [.str, .str, .bool, .int .i64, .str]
def TModule.row (a : TModule) : cellsT kModule := (a.xTo.xHost, a.xTo.xPath, a.xDone, a.xCode, a.xBody, ())
structure TPage where
  xAddr : TAddr
  xPolicy : TPolicy
  xTok : TTokenizer
  xQueue : List TToken
  xEnded : Bool
  xBuilder : TBuilder
  xSlots : List TSlot
  xMods : List TModule
  xEntries : List TAddr
  xBlock : Int
  xInline : Int
  xDeferred : Int
  xEntered : Int
  xRan : List TAddr
  xLog : List (List UInt8)
  xLoaded : Bool
  deriving DecidableEq
abbrev kPage : List CK := [.str, .str, .bool, .sl 1 true, .sl 1 true, .sl 1 true, .str, .str, .sl 4 false, .bool, .sl 4 false, .sl 1 true, .sl 8 true, .sl 5 true, .sl 2 true, .int .i64, .int .i64, .int .i64, .int .i64, .sl 2 true, .sl 1 true, .bool]
def TPage.row (a : TPage) : cellsT kPage := (a.xAddr.xHost, a.xAddr.xPath, a.xPolicy.xSet, (rStr a.xPolicy.xScripts), (rStr a.xPolicy.xStyles), (rStr a.xPolicy.xImages), a.xPolicy.xNonce, a.xTok.xRest, (rows kToken TToken.row a.xQueue), a.xEnded, (rows kNode TNode.row a.xBuilder.xNodes), (rInt a.xBuilder.xOpen), (rows kSlot TSlot.row a.xSlots), (rows kModule TModule.row a.xMods), (rows kAddr TAddr.row a.xEntries), a.xBlock, a.xInline, a.xDeferred, a.xEntered, (rows kAddr TAddr.row a.xRan), (rStr a.xLog), a.xLoaded, ())
structure TVisit where
  xAddr : TAddr
  xPage : TPage
  xKept : Bool
  deriving DecidableEq
abbrev kVisit : List CK := [.str, .str, .str, .str, .bool, .sl 1 true, .sl 1 true, .sl 1 true, .str, .str, .sl 4 false, .bool, .sl 4 false, .sl 1 true, .sl 8 true, .sl 5 true, .sl 2 true, .int .i64, .int .i64, .int .i64, .int .i64, .sl 2 true, .sl 1 true, .bool, .bool]
def TVisit.row (a : TVisit) : cellsT kVisit := (a.xAddr.xHost, a.xAddr.xPath, a.xPage.xAddr.xHost, a.xPage.xAddr.xPath, a.xPage.xPolicy.xSet, (rStr a.xPage.xPolicy.xScripts), (rStr a.xPage.xPolicy.xStyles), (rStr a.xPage.xPolicy.xImages), a.xPage.xPolicy.xNonce, a.xPage.xTok.xRest, (rows kToken TToken.row a.xPage.xQueue), a.xPage.xEnded, (rows kNode TNode.row a.xPage.xBuilder.xNodes), (rInt a.xPage.xBuilder.xOpen), (rows kSlot TSlot.row a.xPage.xSlots), (rows kModule TModule.row a.xPage.xMods), (rows kAddr TAddr.row a.xPage.xEntries), a.xPage.xBlock, a.xPage.xInline, a.xPage.xDeferred, a.xPage.xEntered, (rows kAddr TAddr.row a.xPage.xRan), (rStr a.xPage.xLog), a.xPage.xLoaded, a.xKept, ())
structure TTab where
  xVisits : List TVisit
  xAt : Int
  deriving DecidableEq
abbrev kTab : List CK := [.sl 25 false, .int .i64]
def TTab.row (a : TTab) : cellsT kTab := ((rows kVisit TVisit.row a.xVisits), a.xAt, ())
end Go.Am


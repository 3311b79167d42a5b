/-
  Proved: Rows.FnExactIsEquivalentSaid: laws.FnExactIsEquivalent returns true for all arguments, and leaves what it was handed as it was.
-/
import Derived.Test.YtgfiinkdogbelaaGreatDoorRows
import Derived.Test.YtgfiinkdogbelaaGreatDoorwMv
import Derived.WalkKit
import Derived.ProofKit
import Derived.Lib.LaidU8
import Derived.Stop.LaidErr
namespace Go.Proofs.YtgfiinkdogbelaaGreatDoor.fnExactIsEquivalent
open Go Go.Am Go.ChangeShapes Go.WideShapes Go.ChangeAt Go.RowKit
set_option linter.unusedVariables false
set_option linter.unusedSimpArgs false
def litCell : DataW Unit -> Value
 | .lit (.int k z) => Value.int k z
 | _ => .nilIface
def litCells : DataW Unit -> List Value
 | .agg xs => xs.flatMap fun x => match x with
  | .agg ys => ys.map litCell
  | x => [litCell x]
 | _ => []
theorem own : ownKnob Tryz.prog.godebug = none := by kernel_rfl
theorem told : ∀ vs, LawArgs Tryz.prog fl Tryz.f4.params.toList vs -> D 4 vs = some (.bool true) := by
 intro vs h
 rw [Tryz.params4] at h
 have h0 : LawArgs Tryz.prog fl [60, 60] vs := h
 clear h
 cases vs with
 | nil => exact h0.elim
 | cons v0 vs =>
 cases vs with
 | nil => exact h0.2.elim
 | cons v1 vs =>
 cases vs with
 | cons v vs => exact h0.2.2.elim
 | nil =>
  obtain ⟨n0, us0, c0, e0⟩ := h0.1
  obtain ⟨a0, o0, z0⟩ := World_open c0
  rw [pack_struct Tryz.underlying60, z0] at e0
  subst e0
  obtain ⟨n1, us1, c1, e1⟩ := h0.2.1
  obtain ⟨a1, o1, z1⟩ := World_open c1
  rw [pack_struct Tryz.underlying60, z1] at e1
  subst e1
  obtain ⟨r, h3, h4⟩ := ok4 V [.agg [.sl 2 false (rows kServer TServer.row a0.xNet.xServers), .sl 10 true (rows kEntry TEntry.row a0.xNet.xCache.xEntries), .sl 4 true (rows kSent TSent.row a0.xNet.xLog), .int .i64 a0.xNet.xNow, .sl 25 false (rows kVisit TVisit.row a0.xTab.xVisits), .int .i64 a0.xTab.xAt, .bool a0.xHidden.xReady, .str a0.xHidden.xPage.xAddr.xHost, .str a0.xHidden.xPage.xAddr.xPath, .bool a0.xHidden.xPage.xPolicy.xSet, .sl 1 true (rStr a0.xHidden.xPage.xPolicy.xScripts), .sl 1 true (rStr a0.xHidden.xPage.xPolicy.xStyles), .sl 1 true (rStr a0.xHidden.xPage.xPolicy.xImages), .str a0.xHidden.xPage.xPolicy.xNonce, .str a0.xHidden.xPage.xTok.xRest, .sl 4 false (rows kToken TToken.row a0.xHidden.xPage.xQueue), .bool a0.xHidden.xPage.xEnded, .sl 4 false (rows kNode TNode.row a0.xHidden.xPage.xBuilder.xNodes), .sl 1 true (rInt a0.xHidden.xPage.xBuilder.xOpen), .sl 8 true (rows kSlot TSlot.row a0.xHidden.xPage.xSlots), .sl 5 true (rows kModule TModule.row a0.xHidden.xPage.xMods), .sl 2 true (rows kAddr TAddr.row a0.xHidden.xPage.xEntries), .int .i64 a0.xHidden.xPage.xBlock, .int .i64 a0.xHidden.xPage.xInline, .int .i64 a0.xHidden.xPage.xDeferred, .int .i64 a0.xHidden.xPage.xEntered, .sl 2 true (rows kAddr TAddr.row a0.xHidden.xPage.xRan), .sl 1 true (rStr a0.xHidden.xPage.xLog), .bool a0.xHidden.xPage.xLoaded, .sl 8 true (rows kKept TKept.row a0.xHidden.xTaken), .sl 2 false (rows kServer TServer.row a0.xHidden.xServers), .int .i64 a0.xHidden.xNow, .bool a0.xFast], .agg [.sl 2 false (rows kServer TServer.row a1.xNet.xServers), .sl 10 true (rows kEntry TEntry.row a1.xNet.xCache.xEntries), .sl 4 true (rows kSent TSent.row a1.xNet.xLog), .int .i64 a1.xNet.xNow, .sl 25 false (rows kVisit TVisit.row a1.xTab.xVisits), .int .i64 a1.xTab.xAt, .bool a1.xHidden.xReady, .str a1.xHidden.xPage.xAddr.xHost, .str a1.xHidden.xPage.xAddr.xPath, .bool a1.xHidden.xPage.xPolicy.xSet, .sl 1 true (rStr a1.xHidden.xPage.xPolicy.xScripts), .sl 1 true (rStr a1.xHidden.xPage.xPolicy.xStyles), .sl 1 true (rStr a1.xHidden.xPage.xPolicy.xImages), .str a1.xHidden.xPage.xPolicy.xNonce, .str a1.xHidden.xPage.xTok.xRest, .sl 4 false (rows kToken TToken.row a1.xHidden.xPage.xQueue), .bool a1.xHidden.xPage.xEnded, .sl 4 false (rows kNode TNode.row a1.xHidden.xPage.xBuilder.xNodes), .sl 1 true (rInt a1.xHidden.xPage.xBuilder.xOpen), .sl 8 true (rows kSlot TSlot.row a1.xHidden.xPage.xSlots), .sl 5 true (rows kModule TModule.row a1.xHidden.xPage.xMods), .sl 2 true (rows kAddr TAddr.row a1.xHidden.xPage.xEntries), .int .i64 a1.xHidden.xPage.xBlock, .int .i64 a1.xHidden.xPage.xInline, .int .i64 a1.xHidden.xPage.xDeferred, .int .i64 a1.xHidden.xPage.xEntered, .sl 2 true (rows kAddr TAddr.row a1.xHidden.xPage.xRan), .sl 1 true (rStr a1.xHidden.xPage.xLog), .bool a1.xHidden.xPage.xLoaded, .sl 8 true (rows kKept TKept.row a1.xHidden.xTaken), .sl 2 false (rows kServer TServer.row a1.xHidden.xServers), .int .i64 a1.xHidden.xNow, .bool a1.xFast]] some (.bool true) (by
   show wrap s4 (G4 F4) V (argsEnc s4 (((rows kServer TServer.row a0.xNet.xServers), (rows kEntry TEntry.row a0.xNet.xCache.xEntries), (rows kSent TSent.row a0.xNet.xLog), a0.xNet.xNow, (rows kVisit TVisit.row a0.xTab.xVisits), a0.xTab.xAt, a0.xHidden.xReady, a0.xHidden.xPage.xAddr.xHost, a0.xHidden.xPage.xAddr.xPath, a0.xHidden.xPage.xPolicy.xSet, (rStr a0.xHidden.xPage.xPolicy.xScripts), (rStr a0.xHidden.xPage.xPolicy.xStyles), (rStr a0.xHidden.xPage.xPolicy.xImages), a0.xHidden.xPage.xPolicy.xNonce, a0.xHidden.xPage.xTok.xRest, (rows kToken TToken.row a0.xHidden.xPage.xQueue), a0.xHidden.xPage.xEnded, (rows kNode TNode.row a0.xHidden.xPage.xBuilder.xNodes), (rInt a0.xHidden.xPage.xBuilder.xOpen), (rows kSlot TSlot.row a0.xHidden.xPage.xSlots), (rows kModule TModule.row a0.xHidden.xPage.xMods), (rows kAddr TAddr.row a0.xHidden.xPage.xEntries), a0.xHidden.xPage.xBlock, a0.xHidden.xPage.xInline, a0.xHidden.xPage.xDeferred, a0.xHidden.xPage.xEntered, (rows kAddr TAddr.row a0.xHidden.xPage.xRan), (rStr a0.xHidden.xPage.xLog), a0.xHidden.xPage.xLoaded, (rows kKept TKept.row a0.xHidden.xTaken), (rows kServer TServer.row a0.xHidden.xServers), a0.xHidden.xNow, a0.xFast, ()), ((rows kServer TServer.row a1.xNet.xServers), (rows kEntry TEntry.row a1.xNet.xCache.xEntries), (rows kSent TSent.row a1.xNet.xLog), a1.xNet.xNow, (rows kVisit TVisit.row a1.xTab.xVisits), a1.xTab.xAt, a1.xHidden.xReady, a1.xHidden.xPage.xAddr.xHost, a1.xHidden.xPage.xAddr.xPath, a1.xHidden.xPage.xPolicy.xSet, (rStr a1.xHidden.xPage.xPolicy.xScripts), (rStr a1.xHidden.xPage.xPolicy.xStyles), (rStr a1.xHidden.xPage.xPolicy.xImages), a1.xHidden.xPage.xPolicy.xNonce, a1.xHidden.xPage.xTok.xRest, (rows kToken TToken.row a1.xHidden.xPage.xQueue), a1.xHidden.xPage.xEnded, (rows kNode TNode.row a1.xHidden.xPage.xBuilder.xNodes), (rInt a1.xHidden.xPage.xBuilder.xOpen), (rows kSlot TSlot.row a1.xHidden.xPage.xSlots), (rows kModule TModule.row a1.xHidden.xPage.xMods), (rows kAddr TAddr.row a1.xHidden.xPage.xEntries), a1.xHidden.xPage.xBlock, a1.xHidden.xPage.xInline, a1.xHidden.xPage.xDeferred, a1.xHidden.xPage.xEntered, (rows kAddr TAddr.row a1.xHidden.xPage.xRan), (rStr a1.xHidden.xPage.xLog), a1.xHidden.xPage.xLoaded, (rows kKept TKept.row a1.xHidden.xTaken), (rows kServer TServer.row a1.xHidden.xServers), a1.xHidden.xNow, a1.xFast, ()), ())) some = _
   unfold wrap
   rw [show argsDec s4 (argsEnc s4 (((rows kServer TServer.row a0.xNet.xServers), (rows kEntry TEntry.row a0.xNet.xCache.xEntries), (rows kSent TSent.row a0.xNet.xLog), a0.xNet.xNow, (rows kVisit TVisit.row a0.xTab.xVisits), a0.xTab.xAt, a0.xHidden.xReady, a0.xHidden.xPage.xAddr.xHost, a0.xHidden.xPage.xAddr.xPath, a0.xHidden.xPage.xPolicy.xSet, (rStr a0.xHidden.xPage.xPolicy.xScripts), (rStr a0.xHidden.xPage.xPolicy.xStyles), (rStr a0.xHidden.xPage.xPolicy.xImages), a0.xHidden.xPage.xPolicy.xNonce, a0.xHidden.xPage.xTok.xRest, (rows kToken TToken.row a0.xHidden.xPage.xQueue), a0.xHidden.xPage.xEnded, (rows kNode TNode.row a0.xHidden.xPage.xBuilder.xNodes), (rInt a0.xHidden.xPage.xBuilder.xOpen), (rows kSlot TSlot.row a0.xHidden.xPage.xSlots), (rows kModule TModule.row a0.xHidden.xPage.xMods), (rows kAddr TAddr.row a0.xHidden.xPage.xEntries), a0.xHidden.xPage.xBlock, a0.xHidden.xPage.xInline, a0.xHidden.xPage.xDeferred, a0.xHidden.xPage.xEntered, (rows kAddr TAddr.row a0.xHidden.xPage.xRan), (rStr a0.xHidden.xPage.xLog), a0.xHidden.xPage.xLoaded, (rows kKept TKept.row a0.xHidden.xTaken), (rows kServer TServer.row a0.xHidden.xServers), a0.xHidden.xNow, a0.xFast, ()), ((rows kServer TServer.row a1.xNet.xServers), (rows kEntry TEntry.row a1.xNet.xCache.xEntries), (rows kSent TSent.row a1.xNet.xLog), a1.xNet.xNow, (rows kVisit TVisit.row a1.xTab.xVisits), a1.xTab.xAt, a1.xHidden.xReady, a1.xHidden.xPage.xAddr.xHost, a1.xHidden.xPage.xAddr.xPath, a1.xHidden.xPage.xPolicy.xSet, (rStr a1.xHidden.xPage.xPolicy.xScripts), (rStr a1.xHidden.xPage.xPolicy.xStyles), (rStr a1.xHidden.xPage.xPolicy.xImages), a1.xHidden.xPage.xPolicy.xNonce, a1.xHidden.xPage.xTok.xRest, (rows kToken TToken.row a1.xHidden.xPage.xQueue), a1.xHidden.xPage.xEnded, (rows kNode TNode.row a1.xHidden.xPage.xBuilder.xNodes), (rInt a1.xHidden.xPage.xBuilder.xOpen), (rows kSlot TSlot.row a1.xHidden.xPage.xSlots), (rows kModule TModule.row a1.xHidden.xPage.xMods), (rows kAddr TAddr.row a1.xHidden.xPage.xEntries), a1.xHidden.xPage.xBlock, a1.xHidden.xPage.xInline, a1.xHidden.xPage.xDeferred, a1.xHidden.xPage.xEntered, (rows kAddr TAddr.row a1.xHidden.xPage.xRan), (rStr a1.xHidden.xPage.xLog), a1.xHidden.xPage.xLoaded, (rows kKept TKept.row a1.xHidden.xTaken), (rows kServer TServer.row a1.xHidden.xServers), a1.xHidden.xNow, a1.xFast, ()), ())) = some (((rows kServer TServer.row a0.xNet.xServers), (rows kEntry TEntry.row a0.xNet.xCache.xEntries), (rows kSent TSent.row a0.xNet.xLog), a0.xNet.xNow, (rows kVisit TVisit.row a0.xTab.xVisits), a0.xTab.xAt, a0.xHidden.xReady, a0.xHidden.xPage.xAddr.xHost, a0.xHidden.xPage.xAddr.xPath, a0.xHidden.xPage.xPolicy.xSet, (rStr a0.xHidden.xPage.xPolicy.xScripts), (rStr a0.xHidden.xPage.xPolicy.xStyles), (rStr a0.xHidden.xPage.xPolicy.xImages), a0.xHidden.xPage.xPolicy.xNonce, a0.xHidden.xPage.xTok.xRest, (rows kToken TToken.row a0.xHidden.xPage.xQueue), a0.xHidden.xPage.xEnded, (rows kNode TNode.row a0.xHidden.xPage.xBuilder.xNodes), (rInt a0.xHidden.xPage.xBuilder.xOpen), (rows kSlot TSlot.row a0.xHidden.xPage.xSlots), (rows kModule TModule.row a0.xHidden.xPage.xMods), (rows kAddr TAddr.row a0.xHidden.xPage.xEntries), a0.xHidden.xPage.xBlock, a0.xHidden.xPage.xInline, a0.xHidden.xPage.xDeferred, a0.xHidden.xPage.xEntered, (rows kAddr TAddr.row a0.xHidden.xPage.xRan), (rStr a0.xHidden.xPage.xLog), a0.xHidden.xPage.xLoaded, (rows kKept TKept.row a0.xHidden.xTaken), (rows kServer TServer.row a0.xHidden.xServers), a0.xHidden.xNow, a0.xFast, ()), ((rows kServer TServer.row a1.xNet.xServers), (rows kEntry TEntry.row a1.xNet.xCache.xEntries), (rows kSent TSent.row a1.xNet.xLog), a1.xNet.xNow, (rows kVisit TVisit.row a1.xTab.xVisits), a1.xTab.xAt, a1.xHidden.xReady, a1.xHidden.xPage.xAddr.xHost, a1.xHidden.xPage.xAddr.xPath, a1.xHidden.xPage.xPolicy.xSet, (rStr a1.xHidden.xPage.xPolicy.xScripts), (rStr a1.xHidden.xPage.xPolicy.xStyles), (rStr a1.xHidden.xPage.xPolicy.xImages), a1.xHidden.xPage.xPolicy.xNonce, a1.xHidden.xPage.xTok.xRest, (rows kToken TToken.row a1.xHidden.xPage.xQueue), a1.xHidden.xPage.xEnded, (rows kNode TNode.row a1.xHidden.xPage.xBuilder.xNodes), (rInt a1.xHidden.xPage.xBuilder.xOpen), (rows kSlot TSlot.row a1.xHidden.xPage.xSlots), (rows kModule TModule.row a1.xHidden.xPage.xMods), (rows kAddr TAddr.row a1.xHidden.xPage.xEntries), a1.xHidden.xPage.xBlock, a1.xHidden.xPage.xInline, a1.xHidden.xPage.xDeferred, a1.xHidden.xPage.xEntered, (rows kAddr TAddr.row a1.xHidden.xPage.xRan), (rStr a1.xHidden.xPage.xLog), a1.xHidden.xPage.xLoaded, (rows kKept TKept.row a1.xHidden.xTaken), (rows kServer TServer.row a1.xHidden.xServers), a1.xHidden.xNow, a1.xFast, ()), ()) from rfl]
   exact law4 a0 a1 o0 o1 _)
  rw [h3, h4]
noncomputable def low : Nat := (World.holding Tryz.prog default ⟨#[], #[], []⟩).heap.size
noncomputable def laidWorld (os : Os) : World :=
 { World.holding Tryz.prog os ⟨#[.cells #[.string ⟨#[118, 97, 108, 117, 101, 32, 111, 117, 116, 32, 111, 102, 32, 114, 97, 110, 103, 101]⟩] 341, .cells #[.string ⟨#[105, 110, 118, 97, 108, 105, 100, 32, 115, 121, 110, 116, 97, 120]⟩] 341], #[], []⟩ with heap := ((((((((World.holding Tryz.prog os ⟨#[.cells #[.string ⟨#[118, 97, 108, 117, 101, 32, 111, 117, 116, 32, 111, 102, 32, 114, 97, 110, 103, 101]⟩] 341, .cells #[.string ⟨#[105, 110, 118, 97, 108, 105, 100, 32, 115, 121, 110, 116, 97, 120]⟩] 341], #[], []⟩).heap.modify 6 fun | .cells _ t frozen => .cells (litCells (Rows.laid_math_bits_deBruijn32tab : DataW Unit)).toArray t frozen | o => o).modify 7 fun | .cells _ t frozen => .cells (litCells (Rows.laid_math_bits_deBruijn64tab : DataW Unit)).toArray t frozen | o => o).modify 5 fun | .cells _ t frozen => .cells (litCells (Rows.laid_internal_strconv_uint64pow10 : DataW Unit)).toArray t frozen | o => o).modify 4 fun | .cells _ t frozen => .cells (litCells (Rows.laid_unicode_utf8_acceptRanges : DataW Unit)).toArray t frozen | o => o).modify 2 fun | .cells _ t frozen => .cells #[.iface 339 (.pointer (some ⟨low + 0, 0, none⟩))] t frozen | o => o).modify 1 fun | .cells _ t frozen => .cells #[.iface 339 (.pointer (some ⟨low + 1, 0, none⟩))] t frozen | o => o).modify 3 fun | .cells _ t frozen => .cells (litCells (Rows.laid_unicode_utf8_first : DataW Unit)).toArray t frozen | o => o) }
theorem laid_met (os : Os) (args : Array Value) : laidMet Tryz.prog Rows.fnExactIsEquivalentRow.laid ((laidWorld os).forCall (fun _ _ => 0) ⟨#[], args, []⟩).memory :=
 laidMet_of_run' 8 (by kernel_rfl) (by kernel_rfl)
theorem change_and_shaped {H : Type} {enc : TypeId × Value -> H} {a : Assume} {C : Checked} {os : Os} {f : FuncId} {fn : Func} {s : ChangeSpec} {conds : List PathCond} {apart fresh handsOn again : Bool} {X : World -> Array Value -> Prop}
  (hX : ∀ (w w' : World) (args : Array Value), w.heap = w'.heap -> X w args -> X w' args)
  (own : ownKnob C.prog.godebug = none) (started : os.Started) (noInit : C.prog.inits.idxOf? f = none) (hfn : C.prog.funcs[f]? = some fn)
  (witness : ∃ (w : World) (tape : Tape) (i : Input), w.os = os /\ (w.forCall tape i).Shaped C.prog /\ i.vars = [] /\ Input.okWide C.prog (w.forCall tape i) .any w.heap.size f i /\
   ((s.pre enc C.prog fn conds apart (w.forCall tape i).memory i.args /\ X (w.forCall tape i).memory i.args) /\ sizedMet enc C.prog fn (OpenSpec.ofChange s) apart (w.forCall tape i).memory i.args) /\ a.holds C.prog (lone (Frame.enter C.prog f i.args .normal) [] (w.forCall tape i)))
  (contract : ∀ (W : World) (base : Nat) (args : Array Value) (ds gs : List (DataW H)) (before : List MemPlace),
   (∀ (j : Nat) t v, fn.params[j]? = some t -> args[j]? = some v -> Value.okWide C.prog W .any base t v) ->
   DataW.Whole enc C.prog fn.params.toList s.vars apart W args.toList ds gs before ->
   conds.all (PathCond.test C.prog ⟨fn.params.toList, ds, s.plain.varTypes C.prog, gs⟩) = true ->
   (DataW.weightsEach C.prog (fn.params.toList ++ s.plain.varTypes C.prog) (ds ++ gs)).all (· <= reachBytes) = true -> X W args -> W.ShapedOpen C.prog ->
   a.holds C.prog (lone (Frame.enter C.prog f args .normal) [] W) ->
   Calls C.prog f args W fun e W' => ∃ v, e = .returned v /\ s.post enc C.prog fn apart fresh handsOn again W args v W') :
  ReturnsInHanded a C os f .any (fun w args => (s.pre enc C.prog fn conds apart w args /\ X w args) /\ sizedMet enc C.prog fn (OpenSpec.ofChange s) apart w args) (s.post enc C.prog fn apart fresh handsOn again) := by
 refine returnsInHanded_of_calls own started noInit witness ?_
 intro w tape i _ hsh _ hok hpre hholds
 obtain ⟨_, _, _, fn', hfn', _, _, _, _, hval⟩ := hok
 have e : fn' = fn := Option.some.inj (hfn'.symm.trans hfn)
 subst e
 obtain ⟨⟨⟨ds, gs, before, hw, hc⟩, hx⟩, hz⟩ := hpre
 have hw' := DataW.Whole.of_heap (w' := w.forCall tape i) (by rfl) hw
 refine (contract (w.forCall tape i) w.heap.size i.args ds gs before hval hw' hc (hz.weights hw) (hX _ _ _ (by rfl) hx) hsh hholds).mono fun e W' ⟨v, he, hp⟩ => ?_
 subst he
 exact ChangeSpec.post_blind hp
theorem star : "*" ++ "errors.errorString" = "*errors.errorString" := by decide
theorem rowE (u : TypeId) (h : Tryz.prog.typeName? 3 u = some "*errors.errorString") : u = 339 := typeName_ptr_named (nm := "errors.errorString") (by rw [star]; kernel_rfl) (by kernel_rfl) (by decide) u (by rw [star]; exact h)
theorem gErrRange : Tryz.prog.globalNamed "strconv.ErrRange" = some 2 := by kernel_rfl
theorem gErrSyntax : Tryz.prog.globalNamed "strconv.ErrSyntax" = some 1 := by kernel_rfl
theorem globs {W : World} (hsh : W.ShapedOpen Tryz.prog) (h : laidMet Tryz.prog Rows.fnExactIsEquivalentRow.laid W) : globOk W := by
 obtain ⟨a2, s2, v2, _⟩ := laid_sentinel (h.tail.tail.tail.tail) gErrRange (show (Tryz.prog.globals[2]?).map (·.type) = some 283 by kernel_rfl) Tryz.underlying283 rowE Tryz.underlying339 Tryz.underlying341 rfl rfl Tryz.underlying9 (by kernel_rfl) (by kernel_rfl)
 have c2 : W.cell? ⟨2, 0, none⟩ = some (.iface 339 (.pointer (some a2))) := by simpa using World.var?_cell gErrRange v2 0
 obtain ⟨a1, s1, v1, _⟩ := laid_sentinel (h.tail.tail.tail.tail.tail) gErrSyntax (show (Tryz.prog.globals[1]?).map (·.type) = some 283 by kernel_rfl) Tryz.underlying283 rowE Tryz.underlying339 Tryz.underlying341 rfl rfl Tryz.underlying9 (by kernel_rfl) (by kernel_rfl)
 have c1 : W.cell? ⟨1, 0, none⟩ = some (.iface 339 (.pointer (some a1))) := by simpa using World.var?_cell gErrSyntax v1 0
 obtain ⟨g, t, cs, fuel, p, h1, h2, h3, h4⟩ := Lib.laidMet.reads h (n := "internal/strconv.uint64pow10") (d := Rows.laid_internal_strconv_uint64pow10) (.tail _ (.tail _ (.head _)))
 have htab : Lib.TabIs Tryz.prog W "internal/strconv.uint64pow10" .u64 Lib.pow10Tab := by
  obtain rfl := Option.some.inj (globNo.symm.trans h1)
  obtain rfl := Option.some.inj ((show (Tryz.prog.globals[5]?).map (·.type) = some 347 by kernel_rfl).symm.trans h2)
  have e : cs.toList = Lib.pow10Tab.map fun z => Value.int .u64 z := Lib.cells_of_tab (P := Tryz.prog) (t := 347) (e := 280) (n := 20) (by kernel_rfl) (by kernel_rfl) (by kernel_rfl) (by kernel_rfl) ((show DataW.trod (fun _ => ()) Tryz.prog W 0 (fun _ => true) false fuel 347 cs.toList = some (Lib.tabData .u64 Lib.pow10Tab, p) from (show (Rows.laid_internal_strconv_uint64pow10 : DataW Unit) = Lib.tabData .u64 Lib.pow10Tab by kernel_rfl) ▸ h4))
  show W.var? Tryz.prog "internal/strconv.uint64pow10" = _
  rw [h3, <- e]
 have hg : globAt W := ⟨Tryz.laysM219.s1_3 W hsh, ⟨_, c1, .inr ⟨_, _, rfl⟩⟩, ⟨_, c2, .inr ⟨_, _, rfl⟩⟩, htab⟩
 exact ⟨hg, globLt hg⟩
set_option maxRecDepth 100000 in
theorem lifted (os : Os) (started : os.Started) (H : Type) (enc : TypeId × Value -> H) :
  ReturnsInHanded {} Tryz.checked os 4 .any (fun w args => (Rows.fnExactIsEquivalentSpec.pre enc Tryz.prog Tryz.f4 Rows.fnExactIsEquivalentRow.domain false w args /\ laidMet Tryz.prog Rows.fnExactIsEquivalentRow.laid w) /\ sizedMet enc Tryz.prog Tryz.f4 (OpenSpec.ofChange Rows.fnExactIsEquivalentSpec) false w args) (Rows.fnExactIsEquivalentSpec.post enc Tryz.prog Tryz.f4 false true false false) := by
 refine change_and_shaped (C := Tryz.checked) (X := fun w _ => laidMet Tryz.prog Rows.fnExactIsEquivalentRow.laid w) (fun _ _ _ hh h => h.of_heap hh) own started (by kernel_rfl) Tryz.func4
  (ChangeSpec.witness_at (enc := enc) (C := Tryz.checked) (os := os) (X := fun w _ => laidMet Tryz.prog Rows.fnExactIsEquivalentRow.laid w) false (laidWorld os) #[.agg #[.slice none 0 0, .slice none 0 0, .slice none 0 0, .int .i64 0, .slice none 0 0, .int .i64 0, .bool false, .string ⟨#[]⟩, .string ⟨#[]⟩, .bool false, .slice none 0 0, .slice none 0 0, .slice none 0 0, .string ⟨#[]⟩, .string ⟨#[]⟩, .slice none 0 0, .bool false, .slice none 0 0, .slice none 0 0, .slice none 0 0, .slice none 0 0, .slice none 0 0, .int .i64 0, .int .i64 0, .int .i64 0, .int .i64 0, .slice none 0 0, .slice none 0 0, .bool false, .slice none 0 0, .slice none 0 0, .int .i64 0, .bool false], .agg #[.slice none 0 0, .slice none 0 0, .slice none 0 0, .int .i64 0, .slice none 0 0, .int .i64 0, .bool false, .string ⟨#[]⟩, .string ⟨#[]⟩, .bool false, .slice none 0 0, .slice none 0 0, .slice none 0 0, .string ⟨#[]⟩, .string ⟨#[]⟩, .slice none 0 0, .bool false, .slice none 0 0, .slice none 0 0, .slice none 0 0, .slice none 0 0, .slice none 0 0, .int .i64 0, .int .i64 0, .int .i64 0, .int .i64 0, .slice none 0 0, .slice none 0 0, .bool false, .slice none 0 0, .slice none 0 0, .int .i64 0, .bool false]] 8 rfl (by kernel_rfl) (by kernel_rfl) (by kernel_rfl) (by kernel_rfl) (by kernel_rfl) (laid_met os _)) ?_
 intro W base args ds gs before hval0 hW hcnd _ hL hsh _
 refine law_calls (s := Rows.fnExactIsEquivalentSpec) (tb := 4) answers kids flArgs (by rw [Tryz.params4]; decide) rfl Tryz.underlying4 rfl ?_ told (globs hsh hL) hval0 hW
 intro ds hds
 match ds, hds with
 | [d0, d1], _ => rfl
end Go.Proofs.YtgfiinkdogbelaaGreatDoor.fnExactIsEquivalent

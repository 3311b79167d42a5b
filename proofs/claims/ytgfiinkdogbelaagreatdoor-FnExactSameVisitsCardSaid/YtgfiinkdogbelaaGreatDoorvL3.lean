/-
  Proved: Rows.FnExactSameVisitsSaid: laws.FnExactSameVisits returns true for all arguments, and leaves what it was handed as it was.
-/
import Derived.Test.YtgfiinkdogbelaaGreatDoorRows
import Derived.Test.YtgfiinkdogbelaaGreatDoorvMv
import Derived.WalkKit
import Derived.ProofKit
import Derived.Lib.LaidU8
import Derived.Stop.LaidErr
namespace Go.Proofs.YtgfiinkdogbelaaGreatDoor.fnExactSameVisits
open Go Go.Am Go.ChangeShapes Go.WideShapes Go.ChangeAt Go.RowKit
set_option linter.unusedVariables false
set_option linter.unusedSimpArgs false
def litCell : DataW Unit → Value
 | .lit (.int k z) => Value.int k z
 | _ => .nilIface
def litCells : DataW Unit → List Value
 | .agg xs => xs.flatMap fun x => match x with
  | .agg ys => ys.map litCell
  | x => [litCell x]
 | _ => []
theorem own : ownKnob Tryz.prog.godebug = none := by kernel_rfl
theorem told : ∀ vs, LawArgs Tryz.prog fl Tryz.f3.params.toList vs → D 3 vs = some (.bool true) := by
 intro vs h
 rw [Tryz.params3] at h
 have h0 : LawArgs Tryz.prog fl [24, 24] vs := h
 clear h
 cases vs with
 | nil => exact h0.elim
 | cons v0 vs =>
 cases vs with
 | nil => exact h0.2.elim
 | cons v1 vs =>
 cases vs with
 | cons v vs => exact h0.2.2.elim
 | nil =>
  obtain ⟨n0, us0, c0, e0⟩ := h0.1
  obtain ⟨a0, o0, z0⟩ := Tab_open c0
  rw [pack_struct Tryz.underlying24, z0] at e0
  subst e0
  obtain ⟨n1, us1, c1, e1⟩ := h0.2.1
  obtain ⟨a1, o1, z1⟩ := Tab_open c1
  rw [pack_struct Tryz.underlying24, z1] at e1
  subst e1
  obtain ⟨r, h3, h4⟩ := ok3 V [.agg [.sl 25 false (rows kVisit TVisit.row a0.xVisits), .int .i64 a0.xAt], .agg [.sl 25 false (rows kVisit TVisit.row a1.xVisits), .int .i64 a1.xAt]] some (.bool true) (by
   show wrap s3 (G3 F3) V (argsEnc s3 (((rows kVisit TVisit.row a0.xVisits), a0.xAt, ()), ((rows kVisit TVisit.row a1.xVisits), a1.xAt, ()), ())) some = _
   unfold wrap
   rw [show argsDec s3 (argsEnc s3 (((rows kVisit TVisit.row a0.xVisits), a0.xAt, ()), ((rows kVisit TVisit.row a1.xVisits), a1.xAt, ()), ())) = some (((rows kVisit TVisit.row a0.xVisits), a0.xAt, ()), ((rows kVisit TVisit.row a1.xVisits), a1.xAt, ()), ()) from rfl]
   exact law3 a0 a1 o0 o1 _)
  rw [h3, h4]
noncomputable def low : Nat := (World.holding Tryz.prog default ⟨#[], #[], []⟩).heap.size
noncomputable def laidWorld (os : Os) : World :=
 { World.holding Tryz.prog os ⟨#[.cells #[.string ⟨#[118, 97, 108, 117, 101, 32, 111, 117, 116, 32, 111, 102, 32, 114, 97, 110, 103, 101]⟩] 341, .cells #[.string ⟨#[105, 110, 118, 97, 108, 105, 100, 32, 115, 121, 110, 116, 97, 120]⟩] 341], #[], []⟩ with heap := ((((((((World.holding Tryz.prog os ⟨#[.cells #[.string ⟨#[118, 97, 108, 117, 101, 32, 111, 117, 116, 32, 111, 102, 32, 114, 97, 110, 103, 101]⟩] 341, .cells #[.string ⟨#[105, 110, 118, 97, 108, 105, 100, 32, 115, 121, 110, 116, 97, 120]⟩] 341], #[], []⟩).heap.modify 6 fun | .cells _ t frozen => .cells (litCells (Rows.laid_math_bits_deBruijn32tab : DataW Unit)).toArray t frozen | o => o).modify 7 fun | .cells _ t frozen => .cells (litCells (Rows.laid_math_bits_deBruijn64tab : DataW Unit)).toArray t frozen | o => o).modify 5 fun | .cells _ t frozen => .cells (litCells (Rows.laid_internal_strconv_uint64pow10 : DataW Unit)).toArray t frozen | o => o).modify 4 fun | .cells _ t frozen => .cells (litCells (Rows.laid_unicode_utf8_acceptRanges : DataW Unit)).toArray t frozen | o => o).modify 2 fun | .cells _ t frozen => .cells #[.iface 339 (.pointer (some ⟨low + 0, 0, none⟩))] t frozen | o => o).modify 1 fun | .cells _ t frozen => .cells #[.iface 339 (.pointer (some ⟨low + 1, 0, none⟩))] t frozen | o => o).modify 3 fun | .cells _ t frozen => .cells (litCells (Rows.laid_unicode_utf8_first : DataW Unit)).toArray t frozen | o => o) }
theorem laid_met (os : Os) (args : Array Value) : laidMet Tryz.prog Rows.fnExactSameVisitsRow.laid ((laidWorld os).forCall (fun _ _ => 0) ⟨#[], args, []⟩).memory :=
 laidMet_of_run' 8 (by kernel_rfl) (by kernel_rfl)
theorem change_and_shaped {H : Type} {enc : TypeId × Value → H} {a : Assume} {C : Checked} {os : Os} {f : FuncId} {fn : Func} {s : ChangeSpec} {conds : List PathCond} {apart fresh handsOn again : Bool} {X : World → Array Value → Prop}
  (hX : ∀ (w w' : World) (args : Array Value), w.heap = w'.heap → X w args → X w' args)
  (own : ownKnob C.prog.godebug = none) (started : os.Started) (noInit : C.prog.inits.idxOf? f = none) (hfn : C.prog.funcs[f]? = some fn)
  (witness : ∃ (w : World) (tape : Tape) (i : Input), w.os = os ∧ (w.forCall tape i).Shaped C.prog ∧ i.vars = [] ∧ Input.okWide C.prog (w.forCall tape i) .any w.heap.size f i ∧
   ((s.pre enc C.prog fn conds apart (w.forCall tape i).memory i.args ∧ X (w.forCall tape i).memory i.args) ∧ sizedMet enc C.prog fn (OpenSpec.ofChange s) apart (w.forCall tape i).memory i.args) ∧ a.holds C.prog (lone (Frame.enter C.prog f i.args .normal) [] (w.forCall tape i)))
  (contract : ∀ (W : World) (base : Nat) (args : Array Value) (ds gs : List (DataW H)) (before : List MemPlace),
   (∀ (j : Nat) t v, fn.params[j]? = some t → args[j]? = some v → Value.okWide C.prog W .any base t v) →
   DataW.Whole enc C.prog fn.params.toList s.vars apart W args.toList ds gs before →
   conds.all (PathCond.test C.prog ⟨fn.params.toList, ds, s.plain.varTypes C.prog, gs⟩) = true →
   (DataW.weightsEach C.prog (fn.params.toList ++ s.plain.varTypes C.prog) (ds ++ gs)).all (· ≤ reachBytes) = true → X W args → W.ShapedOpen C.prog →
   a.holds C.prog (lone (Frame.enter C.prog f args .normal) [] W) →
   Calls C.prog f args W fun e W' => ∃ v, e = .returned v ∧ s.post enc C.prog fn apart fresh handsOn again W args v W') :
  ReturnsInHanded a C os f .any (fun w args => (s.pre enc C.prog fn conds apart w args ∧ X w args) ∧ sizedMet enc C.prog fn (OpenSpec.ofChange s) apart w args) (s.post enc C.prog fn apart fresh handsOn again) := by
 refine returnsInHanded_of_calls own started noInit witness ?_
 intro w tape i _ hsh _ hok hpre hholds
 obtain ⟨_, _, _, fn', hfn', _, _, _, _, hval⟩ := hok
 have e : fn' = fn := Option.some.inj (hfn'.symm.trans hfn)
 subst e
 obtain ⟨⟨⟨ds, gs, before, hw, hc⟩, hx⟩, hz⟩ := hpre
 have hw' := DataW.Whole.of_heap (w' := w.forCall tape i) (by rfl) hw
 refine (contract (w.forCall tape i) w.heap.size i.args ds gs before hval hw' hc (hz.weights hw) (hX _ _ _ (by rfl) hx) hsh hholds).mono fun e W' ⟨v, he, hp⟩ => ?_
 subst he
 exact ChangeSpec.post_blind hp
theorem star : "*" ++ "errors.errorString" = "*errors.errorString" := by decide
theorem rowE (u : TypeId) (h : Tryz.prog.typeName? 3 u = some "*errors.errorString") : u = 339 := typeName_ptr_named (nm := "errors.errorString") (by rw [star]; kernel_rfl) (by kernel_rfl) (by decide) u (by rw [star]; exact h)
theorem gErrRange : Tryz.prog.globalNamed "strconv.ErrRange" = some 2 := by kernel_rfl
theorem gErrSyntax : Tryz.prog.globalNamed "strconv.ErrSyntax" = some 1 := by kernel_rfl
theorem globs {W : World} (hsh : W.ShapedOpen Tryz.prog) (h : laidMet Tryz.prog Rows.fnExactSameVisitsRow.laid W) : globOk W := by
 obtain ⟨a2, s2, v2, _⟩ := laid_sentinel (h.tail.tail.tail.tail) gErrRange (show (Tryz.prog.globals[2]?).map (·.type) = some 283 by kernel_rfl) Tryz.underlying283 rowE Tryz.underlying339 Tryz.underlying341 rfl rfl Tryz.underlying9 (by kernel_rfl) (by kernel_rfl)
 have c2 : W.cell? ⟨2, 0, none⟩ = some (.iface 339 (.pointer (some a2))) := by simpa using World.var?_cell gErrRange v2 0
 obtain ⟨a1, s1, v1, _⟩ := laid_sentinel (h.tail.tail.tail.tail.tail) gErrSyntax (show (Tryz.prog.globals[1]?).map (·.type) = some 283 by kernel_rfl) Tryz.underlying283 rowE Tryz.underlying339 Tryz.underlying341 rfl rfl Tryz.underlying9 (by kernel_rfl) (by kernel_rfl)
 have c1 : W.cell? ⟨1, 0, none⟩ = some (.iface 339 (.pointer (some a1))) := by simpa using World.var?_cell gErrSyntax v1 0
 obtain ⟨g, t, cs, fuel, p, h1, h2, h3, h4⟩ := Lib.laidMet.reads h (n := "internal/strconv.uint64pow10") (d := Rows.laid_internal_strconv_uint64pow10) (.tail _ (.tail _ (.head _)))
 have htab : Lib.TabIs Tryz.prog W "internal/strconv.uint64pow10" .u64 Lib.pow10Tab := by
  obtain rfl := Option.some.inj (globNo.symm.trans h1)
  obtain rfl := Option.some.inj ((show (Tryz.prog.globals[5]?).map (·.type) = some 347 by kernel_rfl).symm.trans h2)
  have e : cs.toList = Lib.pow10Tab.map fun z => Value.int .u64 z := Lib.cells_of_tab (P := Tryz.prog) (t := 347) (e := 280) (n := 20) (by kernel_rfl) (by kernel_rfl) (by kernel_rfl) (by kernel_rfl) ((show DataW.trod (fun _ => ()) Tryz.prog W 0 (fun _ => true) false fuel 347 cs.toList = some (Lib.tabData .u64 Lib.pow10Tab, p) from (show (Rows.laid_internal_strconv_uint64pow10 : DataW Unit) = Lib.tabData .u64 Lib.pow10Tab by kernel_rfl) ▸ h4))
  show W.var? Tryz.prog "internal/strconv.uint64pow10" = _
  rw [h3, ← e]
 have hg : globAt W := ⟨Tryz.laysM219.s1_3 W hsh, ⟨_, c1, .inr ⟨_, _, rfl⟩⟩, ⟨_, c2, .inr ⟨_, _, rfl⟩⟩, htab⟩
 exact ⟨hg, globLt hg⟩
set_option maxRecDepth 100000 in
theorem lifted (os : Os) (started : os.Started) (H : Type) (enc : TypeId × Value → H) :
  ReturnsInHanded {} Tryz.checked os 3 .any (fun w args => (Rows.fnExactSameVisitsSpec.pre enc Tryz.prog Tryz.f3 Rows.fnExactSameVisitsRow.domain false w args ∧ laidMet Tryz.prog Rows.fnExactSameVisitsRow.laid w) ∧ sizedMet enc Tryz.prog Tryz.f3 (OpenSpec.ofChange Rows.fnExactSameVisitsSpec) false w args) (Rows.fnExactSameVisitsSpec.post enc Tryz.prog Tryz.f3 false true false false) := by
 refine change_and_shaped (C := Tryz.checked) (X := fun w _ => laidMet Tryz.prog Rows.fnExactSameVisitsRow.laid w) (fun _ _ _ hh h => h.of_heap hh) own started (by kernel_rfl) Tryz.func3
  (ChangeSpec.witness_at (enc := enc) (C := Tryz.checked) (os := os) (X := fun w _ => laidMet Tryz.prog Rows.fnExactSameVisitsRow.laid w) false (laidWorld os) #[.agg #[.slice none 0 0, .int .i64 0], .agg #[.slice none 0 0, .int .i64 0]] 8 rfl (by kernel_rfl) (by kernel_rfl) (by kernel_rfl) (by kernel_rfl) (by kernel_rfl) (laid_met os _)) ?_
 intro W base args ds gs before hval0 hW hcnd _ hL hsh _
 refine law_calls (s := Rows.fnExactSameVisitsSpec) (tb := 4) answers kids flArgs (by rw [Tryz.params3]; decide) rfl Tryz.underlying4 rfl ?_ told (globs hsh hL) hval0 hW
 intro ds hds
 match ds, hds with
 | [d0, d1], _ => rfl
end Go.Proofs.YtgfiinkdogbelaaGreatDoor.fnExactSameVisits

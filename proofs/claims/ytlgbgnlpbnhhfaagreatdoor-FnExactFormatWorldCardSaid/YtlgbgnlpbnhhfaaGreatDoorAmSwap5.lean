/-
  A writing operation and one that only reckons an address in a box, in either order. No theorem about a Go program stands here.
-/
import Derived.Test.YtlgbgnlpbnhhfaaGreatDoorAmSwap4
set_option linter.unusedVariables false
set_option linter.unusedSimpArgs false
namespace Go.Am
open Go Go.RowKit
section
variable {P : Program} {c : Cfg} {Γ Γ' : Ctx} {st st2 st' s1 s2 : St} {a : Act} {w w' : World} {den : Nat → List V → Option V} {η η' : Nat → Option V} {d : Nat} {p q r : Nat → Bool} {ops : Array Oper} {o : Oper}

/-- A value that no sweep touches: an address in a box; the mark of an operation that was passed by. -/
def Inert (v : V) : Prop := (∃ d n, v = .ptr d n) ∨ v = skipped ∨ ∃ b, v = .bool b
def St.slot (st : St) (d : Nat) (v : V) : St := { st with t := st.t.set d v }

theorem inert_poison {v : V} (h : Inert v) (b : Nat) : v.mapB (poison b) = v := by
  rcases h with ⟨d, n, rfl⟩ | rfl | ⟨b, rfl⟩ <;> rfl
theorem inert_renew {v : V} (h : Inert v) (b : Nat) (k : Q) (ys : List V) : v.mapB (renew b k ys) = v := by
  rcases h with ⟨d, n, rfl⟩ | rfl | ⟨b, rfl⟩ <;> rfl
theorem mapBs_set (f : V → Option V) : ∀ (l : List V) (d : Nat) (v : V), V.mapBs f (l.set d v) = (V.mapBs f l).set d (v.mapB f) := by
  intro l
  induction l with
  | nil => intro d v; rfl
  | cons x l ih =>
    intro d v
    cases d with
    | zero => rfl
    | succ d => simp only [List.set_cons_succ, V.mapBs, ih]
theorem slot_sweep {v : V} {f : V → Option V} (h : v.mapB f = v) : (st.slot d v).sweep f = (st.sweep f).slot d v := by
  unfold St.slot St.sweep
  simp only [mapBs_set, h]

theorem ev_slot {v : V} {x : Operand} (h : ∀ t, x = .tmp t → t ≠ d) : ev (st.slot d v).t x = ev st.t x := by
  cases x with
  | tmp t => exact setD_ne (h t rfl)
  | _ => rfl

/-- A writing operation beside an inert slot. -/
theorem effOp_slot {v : V} (hv : Inert v) {dst : Option Nat} {op : Op} (hr : ∀ t, Operand.tmp t ∈ op.operands.toList → t ≠ d) (hd : dst ≠ some d) : effOp c (st.slot d v) dst op = (effOp c st dst op).map (fun s => s.slot d v) := by
  cases op with
  | store t ad x =>
    have h1 : ev (st.slot d v).t ad = ev st.t ad := ev_slot (fun t e => hr t (by simp [Op.operands, e]))
    have h2 : ev (st.slot d v).t x = ev st.t x := ev_slot (fun t e => hr t (by simp [Op.operands, e]))
    simp only [effOp, h1, h2]
    cases c.ty t with
    | none => rfl
    | some i =>
      simp only
      split
      · cases ev st.t ad with
        | ptr b o =>
          simp only
          show (match st.h.getD b none with
            | some r => _
            | none => none) = _
          cases st.h.getD b none with
          | none => rfl
          | some rr =>
            simp only
            cases over rr.cells o (ev st.t x).cells <;> rfl
        | eptr b s k xs i' o =>
          have hdd : (st.slot d v).dead = st.dead := rfl
          simp only [hdd]
          by_cases hcc : st.dead b = false ∧ (cellsB (nilRow i.nz (ev st.t x)).cells).contains b = false
          · rw [if_pos hcc, if_pos hcc]
            cases flats (nilRow i.nz (ev st.t x)).cells with
            | none => rfl
            | some new =>
              simp only
              cases storeRow xs i' o new with
              | none => rfl
              | some ys =>
                simp only [Option.map_some, slot_sweep (inert_renew hv _ _ _)]
                rfl
          · rw [if_neg hcc, if_neg hcc]
            rfl
        | _ => rfl
      · rfl
  | call cl =>
    obtain ⟨callee, args, ts⟩ := cl
    cases callee with
    | builtin bi =>
      cases bi with
      | append =>
        simp only [effOp]
        rcases hl : args.toList with _ | ⟨x, _ | ⟨y, _ | ⟨z, zs⟩⟩⟩
        · rfl
        · rfl
        · have h1 : ev (st.slot d v).t x = ev st.t x := ev_slot (fun t e => hr t (by simp [Op.operands, Call.operands, hl, e]))
          have h2 : ev (st.slot d v).t y = ev st.t y := ev_slot (fun t e => hr t (by simp [Op.operands, Call.operands, hl, e]))
          rcases hts : ts.toList with _ | ⟨t1, _ | ⟨t2, _ | ⟨t3, tr⟩⟩⟩
          · rfl
          · rfl
          · cases dst with
            | none => rfl
            | some e =>
              have he : e ≠ d := fun h => hd (by rw [h])
              simp only [h1, h2]
              cases c.ty t1 with
              | none => rfl
              | some i =>
                obtain ⟨dd, sz, by_, z0, cm⟩ := i
                cases dd with
                | slice e' =>
                  simp only
                  cases c.ty e' with
                  | none => rfl
                  | some j =>
                    cases ev st.t x with
                    | own b s k xs =>
                      simp only
                      cases srcOf s (ev st.t y) with
                      | none => rfl
                      | some qq =>
                        obtain ⟨k', ys⟩ := qq
                        have hdd : (st.slot d v).dead = st.dead := rfl
                        simp only [hdd]
                        by_cases hcc : t2 = t1 ∧ s = j.size ∧ j.size ≠ 0 ∧ st.dead b = false ∧ (xs.length + ys.length) * j.bytes ≤ 140737488355328 ∧ xs.length + ys.length ≤ 140737488355328
                        · rw [if_pos hcc, if_pos hcc]
                          simp only [Option.map_some, slot_sweep (inert_poison hv _)]
                          unfold St.slot
                          simp only [List.set_comm _ _ he]
                        · rw [if_neg hcc, if_neg hcc]
                          rfl
                    | _ => rfl
                | _ => rfl
          · rfl
        · rfl
      | _ => rfl
    | _ => rfl
  | _ => rfl
end
end Go.Am

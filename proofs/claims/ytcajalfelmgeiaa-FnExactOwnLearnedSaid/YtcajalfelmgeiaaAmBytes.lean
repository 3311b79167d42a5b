/-
  Strings as bytes, and bytes as strings. No theorem about a Go program stands here.
-/
import Derived.Test.YtcajalfelmgeiaaAmCall2
import Derived.Lib.ConvBytes
import Derived.Laws.BytesString
set_option linter.unusedVariables false
set_option linter.unusedSimpArgs false
namespace Go.Am
open Go Go.RowKit
section
variable {P : Program} {c : Cfg} {Γ Γ' : Ctx} {st : St} {a : Act} {w w' : World} {den : Nat → List V → Option V} {η : Nat → Option V} {d : Nat}

theorem isU8_ok (hA : Agree P c) {e : Nat} (h : isU8 c e = true) : P.underlying e = some (.int .u8) := by
  unfold isU8 at h
  cases h1 : c.ty e with
  | none => rw [h1] at h; cases h
  | some j =>
    rw [h1] at h
    simp only at h
    obtain ⟨tj, aj⟩ := hA _ _ h1
    split at h
    · rename_i e1; exact aj.int _ e1
    · cases h
theorem bytesOf_inv : ∀ {xs : List V} {l : List UInt8}, bytesOf xs = some l → ∃ ns : List Int, xs = ns.map (V.int .u8) ∧ l = ns.map (fun n => UInt8.ofNat n.toNat) := by
  intro xs
  induction xs with
  | nil => intro l h; simp only [bytesOf, Option.some.injEq] at h; subst h; exact ⟨[], rfl, rfl⟩
  | cons x xs ih =>
    intro l h
    cases x with
    | int k n =>
      cases k with
      | u8 =>
        simp only [bytesOf] at h
        cases hb : bytesOf xs with
        | none => rw [hb] at h; cases h
        | some m =>
          rw [hb] at h
          simp only [Option.map_some, Option.some.injEq] at h
          obtain ⟨ns, h1, h2⟩ := ih hb
          exact ⟨n :: ns, by rw [h1]; rfl, by rw [← h, h2]; rfl⟩
      | _ => simp only [bytesOf] at h; cases h
    | _ => simp only [bytesOf] at h; cases h
theorem push_foldl : ∀ (ns : List Int) (s : ByteArray), (ns.foldl (fun r n => r.push (UInt8.ofNat n.toNat)) s).data.toList = s.data.toList ++ ns.map (fun n => UInt8.ofNat n.toNat) := by
  intro ns
  induction ns with
  | nil => intro s; simp
  | cons n ns ih => intro s; rw [List.foldl_cons, ih]; simp [ByteArray.push]
theorem pure_bytes (hA : Agree P c) (hs : Sim Γ st a w) {o : Oper} {s t : TypeId} {x : Operand} {v : V} (ho : o.op = .convert s t x) (hc : convB c s t (ev st.t x) = some v) : PureOk P Γ a w o v := by
  unfold convB at hc
  cases hr : convRows c s t (ev st.t x) with
  | none => rw [hr] at hc; cases hc
  | some xs =>
    rw [hr] at hc
    simp only at hc
    cases hb : bytesOf xs with
    | none => rw [hb] at hc; cases hc
    | some l =>
      rw [hb] at hc
      simp only [Option.map_some, Option.some.injEq] at hc
      subst hc
      obtain ⟨ns, h1, h2⟩ := bytesOf_inv hb
      unfold convRows at hr
      cases e1 : c.ty s with
      | none => rw [e1] at hr; cases hr
      | some i =>
        cases e2 : c.ty t with
        | none => rw [e1, e2] at hr; cases hr
        | some j =>
          rw [e1, e2] at hr
          simp only at hr
          obtain ⟨ti, ai⟩ := hA _ _ e1
          obtain ⟨tj, aj⟩ := hA _ _ e2
          split at hr
          · rename_i e g1 g2
            split at hr
            · rename_i hu
              have hu8 := isU8_ok hA hu
              split at hr
              · rename_i q ys hsrc
                simp only [Option.some.injEq] at hr
                subst hr
                have hsl := ai.slice e g1
                have hstr := aj.str g2
                have fin : ∀ (ad : Option Addr) (n cap : Nat), a.eval x = .slice ad n cap → (∀ b, ad = some b → (loadCells b n).run P w = .ok (ns.map (Value.int .u8)).toArray w) → (ad = none → ns = []) → PureOk P Γ a w o (.str l) := by
                  intro ad n cap ex h3 h4
                  refine ⟨.string (ns.foldl (fun r n => r.push (UInt8.ofNat n.toNat)) ByteArray.empty), ?_, .rd _ _ (.str _ _ (by rw [push_foldl, h2]; rfl))⟩
                  have : (convert s t (.slice ad n cap)).run P w = .ok (.string (ns.foldl (fun r n => r.push (UInt8.ofNat n.toNat)) ByteArray.empty)) w := by
                    rw [run_convert_bytes_string w s t e ad n cap hsl hu8 hstr]
                    cases ad with
                    | none => rw [h4 rfl]; rfl
                    | some b => exact run_bytesToString w b n cap ns (h3 b rfl)
                  simp [execOp, ho, ex, this]
                rcases src_ok hs.good (hs.ev x) hsrc with ⟨rfl, ad, cap, ex⟩ | ⟨k, o', cap, news, ex, hl, hn1, hn2, hn3, hn4⟩
                · have : ns = [] := by cases ns with
                    | nil => rfl
                    | cons n ns => cases h1
                  subst this
                  exact fin ad 0 cap ex (fun b _ => by simpa using run_loadCells (P := P) w b 0 (fun _ => .bool false) (fun j hj => by omega)) (fun _ => rfl)
                · refine fin _ _ _ ex (fun b hb' => ?_) (fun h => by cases h)
                  cases hb'
                  have hadd : ∀ j, (⟨k, o', none⟩ : Addr).add j = ⟨k, o' + j, none⟩ := by intro j; simp [Addr.add]
                  have hnews : ∀ j, j < ys.length → news[j]? = some (.int .u8 (ns.getD j 0)) := by
                    intro j hj
                    have hj' : j < ns.length := by rw [h1] at hj; simpa using hj
                    have hy : ys[j]? = some (.int .u8 (ns.getD j 0)) := by
                      rw [h1, List.getElem?_map, List.getElem?_eq_getElem hj']
                      simp [List.getD, hj']
                    obtain ⟨z, g1, _, g3, _⟩ := hn4 j _ 0 _ hy rfl
                    rw [Nat.mul_one, Nat.add_zero] at g1
                    cases g3
                    exact g1
                  have := run_loadCells (P := P) w ⟨k, o', none⟩ ys.length (fun j => .int .u8 (ns.getD j 0)) (fun j hj => by
                    rw [hadd]
                    exact (hn2 j _ (hnews j hj)).1)
                  rw [this]
                  have hlen : ys.length = ns.length := by rw [h1]; simp
                  congr 2
                  rw [hlen]
                  apply List.ext_getElem?
                  intro j
                  rw [List.getElem?_map, List.getElem?_map]
                  rcases Nat.lt_or_ge j ns.length with hj | hj
                  · rw [List.getElem?_range hj, List.getElem?_eq_getElem hj]
                    simp [List.getD, hj]
                  · rw [List.getElem?_eq_none (by simpa using hj), List.getElem?_eq_none hj]
                    rfl
              · cases hr
            · cases hr
          · cases hr

/-- A string turned into bytes. -/
theorem sound_bytes (hA : Agree P c) (hs : Sim Γ st a w) {o : Oper} {s t : TypeId} {x : Operand} {v : V} (ho : o.op = .convert s t x) (h : bytesFor c s t (ev st.t x) = some v) (hd : d < 1000) :
    ∃ y w', (execOp a.eval o).run P w = .ok (.value y) w' ∧ Sims Γ (({ st with t := st.t.set d v } : St).kill []) (a.put (some d) y) w' := by
  unfold bytesFor at h
  cases e1 : c.ty s with
  | none => rw [e1] at h; cases h
  | some i =>
    cases e2 : c.ty t with
    | none => rw [e1, e2] at h; cases h
    | some j =>
      rw [e1, e2] at h
      simp only at h
      obtain ⟨ti, ai⟩ := hA _ _ e1
      obtain ⟨tj, aj⟩ := hA _ _ e2
      split at h
      · rename_i e b g1 g2 g3
        split at h
        · rename_i hu
          simp only [Option.some.injEq] at h
          subst h
          have hx := hs.ev x
          rw [g3] at hx
          obtain ⟨y, ey, hy⟩ := hx.str_inv
          have hr := Lib.run_convert_string_bytes (P := P) w s t e y (ai.str g1) (aj.slice e g2) (isU8_ok hA hu)
          have hsz : y.size = b.length := size_str hy
          have hge := grownCap_ge w y.size 0 e
          have he : (execOp a.eval o).run P w = .ok (.value (.slice (some ⟨w.heap.size, 0, none⟩) y.size (grownCap w y.size 0 e))) (Lib.bytesWorld w e y) := by
            simp only [execOp, ho, ey, Sem.run_bind, hr, Result.andThen_ok, Sem.run_pure]
          refine ⟨_, _, he, ?_⟩
          refine Sim.home (az := []) (r := .sl 1 true (bytesV b)) (n := 0) (R := fun _ => False) hs hd (.inl rfl) rfl (fun _ _ h => h.elim) ?_
          refine ⟨rfl, ?_, ?_, by rw [Lib.bytesWorld_size]; omega, fun k hk => Lib.bytesWorld_at_old w e y k hk, ?_⟩
          · simp [Lib.bytesWorld, World.freeze, World.alloc, World.drew, -World.alloc_eq, -World.drew_eq]
          · simp [Lib.bytesWorld, World.freeze, World.alloc, World.drew, -World.alloc_eq, -World.drew_eq]
          · refine ⟨{ w0 := w, F := fun k => w.heap.size ≤ k, S := fun k => k = w.heap.size, has := fun _ => False, blk := fun _ => 0, off := fun _ => 0, cap := fun _ => 0, sz := fun _ => 0, ln := fun _ => 0, lb := fun _ => False, box := fun _ => 0, R := fun _ => False, Z := fun _ => False },
              .rd _ _ ?_, fun k hk => hk, fun k hk => ⟨.inr (Nat.le_of_eq hk.symm), by rw [hk, Lib.bytesWorld_size]; omega⟩, fun _ h => h.elim, fun _ _ h => h.elim, fun _ h => h.elim, fun _ h => h.elim⟩
            have hlen : (bytesV b).length = b.length := by simp [bytesV]
            by_cases hb : b = []
            · subst hb
              have : y.size = 0 := hsz
              rw [this]
              exact .empty _ _ _ _
            · have := Rd.sl (w := Lib.bytesWorld w e y) (S := fun k => k = w.heap.size) 1 true (bytesV b) w.heap.size 0 (grownCap w y.size 0 e) (fun i _ => .int .u8 (b.getD i 0).toNat)
                (by rw [hlen]; exact List.length_pos_iff.2 hb) (by rw [hlen, ← hsz]; exact hge) rfl
                (fun x hx => by obtain ⟨u, _, rfl⟩ := List.mem_map.1 hx; rfl) (fun _ x hx cc hcc => by
                  obtain ⟨u, _, rfl⟩ := List.mem_map.1 hx
                  simp only [V.cells, List.mem_singleton] at hcc
                  subst hcc
                  trivial)
                (fun i j hi hj => by
                  obtain rfl : j = 0 := by omega
                  rw [hlen] at hi
                  refine ⟨?_, rfl⟩
                  have := Lib.bytesWorld_cell w e y i (by rw [hsz]; exact hi)
                  rw [hy] at this
                  simpa using this)
                (fun i u j cc hu hcc => by
                  have hi := (List.getElem?_eq_some_iff.1 hu).1
                  rw [hlen] at hi
                  rw [bytesV, List.getElem?_map, List.getElem?_eq_getElem hi] at hu
                  simp only [Option.map_some, Option.some.injEq] at hu
                  subst hu
                  cases j with
                  | zero =>
                    simp only [V.cells, List.getElem?_cons_zero, Option.some.injEq] at hcc
                    subst hcc
                    simp only [List.getD, List.getElem?_eq_getElem hi, Option.getD_some]
                    exact .int _ _
                  | succ j => simp [V.cells] at hcc)
              rw [hlen, ← hsz] at this
              exact this
        · cases h
      · cases h
end
end Go.Am

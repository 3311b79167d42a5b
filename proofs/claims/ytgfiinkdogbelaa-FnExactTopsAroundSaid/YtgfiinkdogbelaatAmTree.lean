/-
  Trees of slices in memory, no block of them twice; trees whose cells hold marks, one number after the other.
-/
import Derived.Test.YtgfiinkdogbelaatTa
import Derived.Test.YtgfiinkdogbelaatDel
import Derived.Shelf.SlicesE.DeleteFunc
import Derived.Test.YtgfiinkdogbelaatAmCfg
import Derived.Test.YtgfiinkdogbelaatAmDraw
section
set_option linter.unusedVariables false
set_option linter.unusedSimpArgs false
namespace Go.Proofs
open Go Go.Am Go.Shelf Go.RowKit Go.Lib Go.Sort
theorem delE0 {P : Program} {ρ : Ren} (L : SlLaysH.n10 P ρ) (cap : Nat) (fv : Value) (w : World) :
  Calls P (ρ.f 10) #[.slice none 0 cap, fv] w fun e w' => e = .returned (.slice none 0 cap) ∧ w' = w := by
 have mixed := L.mixed; have t0 := L.t0; have a0 := L.a0; have z0 := L.z0; have v0 := L.v0; have t3 := L.t3; have a3 := L.a3; have z3 := L.z3; have v3 := L.v3; have t4 := L.t4; have a4 := L.a4; have z4 := L.z4; have v4 := L.v4; have t22 := L.t22; have a22 := L.a22; have z22 := L.z22; have v22 := L.v22; have a23 := L.a23; have z23 := L.z23; have t25 := L.t25; have a25 := L.a25; have z25 := L.z25; have v25 := L.v25
 have e6 : ∀ args w, (callFunc (ρ.f 6) args).run P w = .ok (.enter (ρ.f 6) args) w := L.f6.enters rfl
 have hIF := AnyE.slices_IndexFunc_empty (P := P) (ρ := ρ) { L with } none cap fv w
 obtain ⟨_, _, FG⟩ := L.f10
 go_enter FG, SlBodyH.n10_ntmps ρ
 go_wp2_with (go_at_fn (ρ.f 6); refine hIF.mono ?_; rintro e w' ⟨rfl, rfl⟩)
 go_ret
 exact ⟨rfl, rfl⟩
theorem Try.delE0 (cap : Nat) (fv : Value) (w : World) : Calls Try.prog 20 #[.slice none 0 cap, fv] w fun e w' => e = .returned (.slice none 0 cap) ∧ w' = w := Go.Proofs.delE0 Try.laysDel cap fv w
theorem Try.gives22 (sp : ByteArray) (x : List UInt8) (B : Nat) (W : World) (hc : W.cell? ⟨B, 0, none⟩ = some (.string sp)) :
  FnGives Try.prog 22 #[.pointer (some ⟨B, 0, none⟩)] #[encStr x] (.bool (x == sp.data.toList)) W := by
 show Calls Try.prog 22 #[.string ⟨x.toArray⟩, .pointer (some ⟨B, 0, none⟩)] W _
 have e1 : (x == sp.data.toList) = ((⟨x.toArray⟩ : ByteArray).toList == sp.toList) := by
  rw [Lib.toList_data, Lib.toList_data]
 rw [e1]
 generalize (⟨x.toArray⟩ : ByteArray) = xb
 clear e1
 go_enter Try.func22, Try.ntmps22
 go_wp2
 all_goals (go_ret; exact ⟨rfl, 0, rfl⟩)
theorem Try.pred22 (sp : ByteArray) (B : Nat) (w : World) (hB : B < w.heap.size) (hc : w.cell? ⟨B, 0, none⟩ = some (.string sp)) : PredAt Try.prog 22 #[.pointer (some ⟨B, 0, none⟩)] encStr (fun x => x == sp.data.toList) w :=
 fun W x hb => Try.gives22 sp x B W ((hb.cell (p := ⟨B, 0, none⟩) hB).trans hc)
theorem Try.over22 (sp : ByteArray) (B blk off size : Nat) (w : World) (hB : B < w.heap.size) (hne : B ≠ blk) (hc : w.cell? ⟨B, 0, none⟩ = some (.string sp)) : PredOver Try.prog 22 #[.pointer (some ⟨B, 0, none⟩)] encStr (fun x => x == sp.data.toList) blk off size w :=
 fun n os dk x _ => Try.gives22 sp x B _ (by
  unfold sortWorld
  rw [cell?_grow _ _ _ (by show B < (putRow _ _ _ _ _).heap.size; rw [size_putRow]; exact hB), cell?_putRow_other _ _ blk off _ _ (Or.inl hne)]
  exact hc)
theorem Try.delE (sp : ByteArray) (B blk off cap : Nat) (ss : List (List UInt8)) (w : World) (hB : B < w.heap.size) (hne : B ≠ blk) (hc : w.cell? ⟨B, 0, none⟩ = some (.string sp)) (hH : Holds encStr w blk off ss.toArray) (hsz : ss.length < 4611686018427387904) (hcap : ss.length ≤ cap) :
  Calls Try.prog 20 #[.slice (some ⟨blk, off, none⟩) ss.length cap, .func (.func 22) #[] #[.pointer (some ⟨B, 0, none⟩)]] w fun e w' => e = .returned (.slice (some ⟨blk, off, none⟩) (ss.filter fun x => !(x == sp.data.toList)).length cap) ∧
   ∃ q, w' = putRow encStr (Sort.ahead w q) blk off ((ss.filter fun x => !(x == sp.data.toList)) ++ List.replicate (ss.length - (ss.filter fun x => !(x == sp.data.toList)).length) []).toArray :=
 AnyE.slices_DeleteFunc Try.laysDel encStr (fun _ => rfl) (fun x => x == sp.data.toList) 22 #[.pointer (some ⟨B, 0, none⟩)] (enters_of Try.func22 (by kernel_rfl) rfl) [] Try.zeroValue9 blk off cap ss.toArray w
  (Try.pred22 sp B w hB hc) (Try.over22 sp B blk off _ w hB hne hc) hH (by simp only [List.size_toArray]; omega) (by simpa using hcap)
end Go.Proofs
namespace Go.Am
open Go Go.Proofs
def aroundV1 (h : List UInt8) (v : V) : Option V :=
 match v with
 | .own _ 1 .flat xs => match strsOf xs with
  | some l => if l.length ≤ 1099511627776 then some (.own 0 1 .flat (rStr (l.filter fun s => !(s == h)))) else none
  | none => none
 | _ => none
def aroundV (d : List V → Option V) : List V → Option V
 | [.agg [.sl a1 b1 c1, .sl a2 b2 c2, .sl a3 b3 c3, .int k n], .str h] => (d [.agg [.sl a1 b1 c1, .sl a2 b2 c2, .sl a3 b3 c3, .int k n], .str h]).bind (aroundV1 h)
 | _ => none
end Go.Am
namespace Go.Proofs
open Go Go.Am Go.Shelf Go.RowKit Go.Lib Go.Sort
theorem cell_alloc2 (w : World) (o : Obj) (x : Value) (ty : TypeId) : ((w.alloc o).alloc (.cells #[x] ty (0, 0))).cell? ⟨w.heap.size + 1, 0, none⟩ = some x := by
 have h := heap_alloc_eq (w.alloc o) (.cells #[x] ty (0, 0))
 rw [size_alloc] at h
 simp only [World.cell?, h]
 rfl
theorem kept_del {w0 w : World} {g o n : Nat} {d : Array (List UInt8)} (h : Kept w0 w) (hg : w0.heap.size ≤ g) : Kept w0 (putRow encStr (Sort.ahead w n) g o d) := by
 obtain ⟨h1, h2, h3, h4, h5⟩ := h
 refine ⟨h1, h2, h3, ?_, fun k hk => ?_⟩
 ·rw [size_putRow, heap_ahead]
  exact h4
 ·rw [← h5 k hk]
  simp [putRow, mapBlock, Sort.ahead, Array.getElem?_modify, show g ≠ k by omega]
theorem Try.aroundTail {R : Nat → Prop} {w1 W : World} {v r : V} {x : Value} {h : List UInt8} {sp : ByteArray} {B : Nat} (hsp : sp.data.toList = h) (hans : Answer R w1 v x W) (hB : B < w1.heap.size) (hc : w1.cell? ⟨B, 0, none⟩ = some (.string sp)) (hsv : aroundV1 h v = some r) :
  Calls Try.prog 20 #[x, .func (.func 22) #[] #[.pointer (some ⟨B, 0, none⟩)]] W fun e W2 => ∃ y, e = .returned y ∧ ∀ w, Kept w w1 → Answer R w r y W2 := by
 have hK1 := Kept.of_answer hans
 have hBW : B < W.heap.size := Nat.lt_of_lt_of_le hB hK1.2.2.2.1
 have hcW : W.cell? ⟨B, 0, none⟩ = some (.string sp) := by
  rw [← hc]
  simp only [World.cell?, hK1.2.2.2.2 B hB]
 unfold aroundV1 at hsv
 split at hsv
 ·rename_i j xs
  split at hsv
  ·rename_i l hl
   split at hsv
   ·rename_i hlen
    injection hsv with hsv
    subst hsv
    have hxl := strsOf_inv hl
    rcases hans.own1 with ⟨h0, rfl⟩ | ⟨g, o, cap, cur, ty, rfl, hng, hgg, hcap, hm, hcs, hrow⟩
    ·have hl0 : l = [] := by
      rw [h0] at hxl
      cases l with
      | nil => rfl
      | cons a l => cases hxl
     subst hl0
     refine (Try.delE0 0 _ W).mono ?_
     rintro e W2 ⟨rfl, rfl⟩
     exact ⟨_, rfl, fun w hw => answer_ownNil (hw.trans hK1)⟩
    ·have hlx : xs.length = l.length := by rw [hxl]; simp
     have hlt : g < W.heap.size := by
      rcases Nat.lt_or_ge g W.heap.size with h | h
      ·exact h
      ·rw [Array.getElem?_eq_none h] at hgg; cases hgg
     have hH : Holds encStr W g o l.toArray := fun t ht => by
      have ht' : t < l.length := by simpa using ht
      obtain ⟨c, hc, y, hy, S, hrd⟩ := hrow t (.str l[t]) (by rw [hxl, List.getElem?_map, List.getElem?_eq_getElem ht']; rfl)
      simp only [V.cells, List.cons.injEq, and_true] at hc
      subst hc
      refine ⟨?_, by simp [World.frozen?, hgg]⟩
      rw [hy, rd_pr_str hrd]
      simp [ht', encStr]
     have hdel := Try.delE sp B g o cap l W hBW (by omega) hcW hH (by omega) (by omega)
     rw [hsp, ← hlx] at hdel
     refine hdel.mono ?_
     rintro e W2 ⟨rfl, q, rfl⟩
     refine ⟨_, rfl, fun w hw => ?_⟩
     have hfl : (l.filter fun s => !(s == h)).length ≤ l.length := List.length_filter_le _ _
     generalize l.filter (fun s => !(s == h)) = F at hfl ⊢
     rw [hlx]
     obtain ⟨cur2, hg2, hs2, hc2⟩ := block_putStr (w := Sort.ahead W q) (blk := g) (o := o) (d := (F ++ List.replicate (l.length - F.length) []).toArray) (cur := cur) (ty := ty) hgg (by simp only [List.size_toArray, List.length_append, List.length_replicate]; omega)
     have hkw : Kept w (putRow encStr (Sort.ahead W q) g o (F ++ List.replicate (l.length - F.length) []).toArray) := hw.trans (kept_del hK1 hng)
     have hc3 : ∀ t, t < F.length → cur2[o + t]? = some (encStr F[t]!) := fun t ht => by
      rw [hc2 t (by simp only [List.size_toArray, List.length_append, List.length_replicate]; omega)]
      congr 2
      simp [ht, List.getElem_append_left, show t < F.length + (l.length - F.length) by omega]
     generalize putRow encStr (Sort.ahead W q) g o (F ++ List.replicate (l.length - F.length) []).toArray = W3 at hg2 hkw ⊢
     have := answer_own (R := R) (s := 1) (q := .flat) (ys := rStr F) (o := o) (g := g) (cap := cap) (cur := cur2) (ty := ty) hkw (fun _ x hx c hc => by
      obtain ⟨p, _, rfl⟩ := List.mem_map.1 hx
      simp only [CK.enc, V.cells, List.mem_cons, List.not_mem_nil, or_false] at hc
      subst hc
      exact trivial) (Nat.le_trans hw.2.2.2.1 hng) hg2 (by rw [rStr_len]; omega) hm (by omega) ⟨fun x hx => by
       obtain ⟨p, _, rfl⟩ := List.mem_map.1 hx
       rfl, fun i _ => encStr F[i]!, fun i j hi hj => ?_, fun i x j c hx hc => ?_⟩
     ·rw [rStr_len] at this
      exact this
     ·rw [rStr_len] at hi
      have hj0 : j = 0 := by omega
      subst hj0
      refine ⟨?_, rfl⟩
      simp only [World.cell?, hg2, Nat.mul_one, Nat.add_zero]
      exact hc3 i hi
     ·have hi := (List.getElem?_eq_some_iff.1 hx).1
      rw [rStr_len] at hi
      have hx2 : x = .str F[i] := by
       rw [show rStr F = F.map V.str from rfl, List.getElem?_map, List.getElem?_eq_getElem hi] at hx
       injection hx with hx
       exact hx.symm
      subst hx2
      have hj0 : c = .str F[i] := by
       match j, hc with
       | 0, hc => injection hc with hc; exact hc.symm
       | j + 1, hc => simp [V.cells] at hc
      subst hj0
      show Rd _ _ _ (encStr F[i]!)
      have e5 : F[i]! = F[i] := by simp [hi]
      rw [e5]
      exact .str _ _ rfl
   ·cases hsv
  ·cases hsv
 ·cases hsv
set_option maxHeartbeats 2000000 in
set_option maxRecDepth 100000 in
theorem Try.around_ok {d : Nat → List V → Option V} (hA : Answers Try.prog d) : ExtOk Try.prog 7 (aroundV (d 21)) := by
 intro args r h
 refine ⟨⟨Try.f7, Try.func7, rfl, by decide⟩, fun R w vals hg hR hl hv => ?_⟩
 unfold aroundV at h
 split at h
 ·rename_i a1 b1 c1 a2 b2 c2 a3 b3 c3 k n hs
  obtain ⟨v, hd, hsv⟩ := bind_inv h
  obtain ⟨x, y, rfl, e0, e1⟩ := vals2 hl
  have hx := hv 0 _ _ rfl e0
  have hy := hv 1 _ _ rfl e1
  obtain ⟨sp, rfl, hsp⟩ := rd_str hy
  cases hx with
  | agg _ vs hlen hr =>
   obtain ⟨v0, v1, v2, v3, rfl⟩ : ∃ v0 v1 v2 v3, vs = #[v0, v1, v2, v3] := by
    obtain ⟨l⟩ := vs
    match l, hlen with
    | [v0, v1, v2, v3], _ => exact ⟨v0, v1, v2, v3, rfl⟩
   obtain ⟨p0, q0, r0, rfl⟩ := rd_sl (hr 0 _ v0 rfl rfl)
   obtain ⟨p1, q1, r1, rfl⟩ := rd_sl (hr 1 _ v1 rfl rfl)
   obtain ⟨p2, q2, r2, rfl⟩ := rd_sl (hr 2 _ v2 rfl rfl)
   obtain rfl := rd_int (hr 3 _ v3 rfl rfl)
   have hK0 := Kept.alloc w (.cells #[.slice p0 q0 r0, .slice p1 q1 r1, .slice p2 q2 r2, .int k n] 38 (0, 0))
   have hK := hK0.trans (Kept.alloc (w.alloc (.cells #[.slice p0 q0 r0, .slice p1 q1 r1, .slice p2 q2 r2, .int k n] 38 (0, 0))) (.cells #[.string sp] 9 (0, 0)))
   have hT0 := (hA 21 _ _ hd).2 R _ #[.agg #[.slice p0 q0 r0, .slice p1 q1 r1, .slice p2 q2 r2, .int k n], .string sp] (hK.glob hg) (hK.lt hR) rfl (fun i c v h1 h2 => hK.rd hR (hv i c v h1 h2))
   have hT : Calls Try.prog 21 #[.agg #[.slice p0 q0 r0, .slice p1 q1 r1, .slice p2 q2 r2, .int k n], .string sp] ((w.alloc (.cells #[.slice p0 q0 r0, .slice p1 q1 r1, .slice p2 q2 r2, .int k n] 38 (0, 0))).alloc (.cells #[.string sp] 9 (0, 0))) (fun e w' => ∃ x, e = .returned x ∧ Calls Try.prog 20 #[x, .func (.func 22) #[] #[.pointer (some ⟨w.heap.size + 1, 0, none⟩)]] w' fun e W2 => ∃ y, e = .returned y ∧ Answer R w r y W2) :=
    hT0.mono (fun e w' h => by
     cases e with
     | returned x => exact ⟨x, rfl, (Try.aroundTail hsp h (by simp) (cell_alloc2 _ _ _ _) hsv).mono (fun e W2 ⟨y, h1, h2⟩ => ⟨y, h1, h2 w hK⟩)⟩
     | _ => exact h.elim)
   clear hT0 hr hv hd hsv h hK hK0 hg hR hl e0 e1 hy hsp hlen
   go_enter Try.func7, Try.ntmps7
   go_wp2_with (first
    | (go_at_call 21; refine hT.mono ?_; rintro e w1 ⟨x1, rfl, hC⟩)
    | (go_at_call 20; refine hC.mono ?_; rintro e w2 ⟨y, rfl, hans⟩))
   go_ret
   exact hans
 ·cases h
end Go.Proofs
end
section
set_option linter.unusedVariables false
set_option linter.unusedSimpArgs false
namespace Go.Am
open Go Go.RowKit
structure Ag (n : Nat) (s : Nat → Value) (a : Act) : Prop where
  dz : a.defers = []
  sz : a.tmps.size = n
  at_ : ∀ i, a.tmps.getD i undef = s i
def upd (s : Nat → Value) (d : Nat) (x : Value) : Nat → Value := fun i => if i = d then x else s i
theorem upd_same {s : Nat → Value} {d : Nat} {x : Value} : upd s d x d = x := if_pos rfl
theorem upd_ne {s : Nat → Value} {d i : Nat} {x : Value} (h : i ≠ d) : upd s d x i = s i := if_neg h
def evs (s : Nat → Value) : Operand → Value
 | .tmp t => s t
 | .const v => v
 | .global g => .pointer (some ⟨g, 0, none⟩)
 | .func f => .func (.func f) #[] #[]
section
variable {P : Program} {n d : Nat} {s : Nat → Value} {a : Act} {w w' : World} {x : Value}
theorem Ag.eval (h : Ag n s a) : a.eval = evs s := by
 funext x
 cases x with
 | tmp t => exact h.at_ t
 | _ => rfl
theorem Ag.put (h : Ag n s a) (hd : d < n) : Ag n (upd s d x) (a.put (some d) x) := by
 refine ⟨h.dz, by simp [Act.put, h.sz], fun i => ?_⟩
 simp only [Act.put, Array.getD_eq_getD_getElem?, Array.getElem?_setIfInBounds]
 by_cases hi : i = d
 ·subst hi
  rw [upd_same, if_pos rfl, if_pos (by rw [h.sz]; exact hd)]
  rfl
 ·rw [upd_ne hi, if_neg (fun e => hi e.symm), ← Array.getD_eq_getD_getElem?]
  exact h.at_ i
theorem Ag.enter (args : Array Value) (m : Nat) : Ag (args.size + m) (fun i => args.getD i undef) { tmps := args ++ Array.replicate m undef, defers := [] } := by
 refine ⟨rfl, by simp, fun i => ?_⟩
 simp only [Array.getD_eq_getD_getElem?]
 rcases Nat.lt_or_ge i args.size with h | h
 ·rw [Array.getElem?_append_left h]
 ·rw [Array.getElem?_append_right h, Array.getElem?_eq_none h, Array.getElem?_replicate]
  split <;> rfl
def R (P : Program) (n : Nat) (ops : Array Oper) (l : List Oper) (s : Nat → Value) (w : World) (K : (Nat → Value) → World → Prop) : Prop :=
 ∀ (Q : Exit → Act → World → Prop), (∀ s' a' w', Ag n s' a' → K s' w' → Q .normal a' w') → ∀ a, Ag n s a → wpList P ops Q l a w
def W (P : Program) (n : Nat) (c : Code) (s : Nat → Value) (w : World) (K : Exit → (Nat → Value) → World → Prop) : Prop :=
 ∀ (Q : Exit → Act → World → Prop), (∀ e s' a' w', Ag n s' a' → K e s' w' → Q e a' w') → ∀ a, Ag n s a → c.wp P Q a w
variable {ops : Array Oper} {l : List Oper} {o : Oper} {K K' : (Nat → Value) → World → Prop} {c c1 c2 : Code} {J J' : Exit → (Nat → Value) → World → Prop}
theorem R.mono (h : R P n ops l s w K) (hk : ∀ s' w', K s' w' → K' s' w') : R P n ops l s w K' := fun Q hQ a ha => h Q (fun s' a' w' h1 h2 => hQ s' a' w' h1 (hk s' w' h2)) a ha
theorem W.mono (h : W P n c s w J) (hk : ∀ e s' w', J e s' w' → J' e s' w') : W P n c s w J' := fun Q hQ a ha => h Q (fun e s' a' w' h1 h2 => hQ e s' a' w' h1 (hk e s' w' h2)) a ha
theorem R.nil (h : K s w) : R P n ops [] s w K := fun Q hQ a ha => wpList_nil (hQ s a w ha h)
theorem R.step (hg : o.guard = none) (h : ∀ (a : Act) (Q : Exit → Act → World → Prop) (N : Act → World → Prop), (∀ s' a' w', Ag n s' a' → R P n ops l s' w' K → N a' w') → Ag n s a → o.wp P a w N Q) : R P n ops (o :: l) s w K := by
 intro Q hQ a ha
 refine wpList_step fun N hN => ?_
 rw [if_pos (by simp [Region.wanted, hg])]
 exact h a Q N (fun s' a' w' h1 h2 => hN _ _ (h2 Q hQ a' h1)) ha
theorem R.value (hg : o.guard = none) (hd : o.dst = some d) (hn : d < n) (he : (execOp (evs s) o).run P w = .ok (.value x) w') (h : R P n ops l (upd s d x) w' K) : R P n ops (o :: l) s w K := by
 refine R.step hg fun a Q N hN ha => ?_
 unfold Oper.wp
 rw [ha.eval, he, Oper.upon_value, hd]
 exact hN _ _ _ (ha.put hn) h
theorem R.skip (hg : o.guard = none) (hd : o.dst = none) (he : (execOp (evs s) o).run P w = .ok .skip w') (h : R P n ops l s w' K) : R P n ops (o :: l) s w K := by
 refine R.step hg fun a Q N hN ha => ?_
 unfold Oper.wp
 rw [ha.eval, he, Oper.upon_skip, hd]
 exact hN _ a _ ha h
theorem R.call {f : FuncId} {args : Array Value} (hg : o.guard = none) (hd : o.dst = some d) (hn : d < n) (he : (execOp (evs s) o).run P w = .ok (.enter f args) w)
  (hc : Calls P f args w fun e w' => ∃ x, e = .returned x ∧ R P n ops l (upd s d x) w' K) : R P n ops (o :: l) s w K := by
 refine R.step hg fun a Q N hN ha => ?_
 unfold Oper.wp
 rw [ha.eval, he, Oper.upon_enter]
 refine Calls.mono hc fun e w' h => ?_
 obtain ⟨x, rfl, h⟩ := h
 show N (a.put o.dst x) w'
 rw [hd]
 exact hN _ _ _ (ha.put hn) h
def Known (P : Program) (f : Nat) : Prop := ∃ fn, P.funcs[f]? = some fn ∧ fn.body.isNone = false ∧ (fn.name == "runtime.NumGoroutine") = false
theorem call_enter {f : Nat} {args : Array Operand} {ts : Array TypeId} (hk : Known P f) (ho : o.op = .call ⟨.value (.func f), args, ts⟩) : (execOp (evs s) o).run P w = .ok (.enter f (args.map (evs s))) w := by
 obtain ⟨fn, h1, h2, h3⟩ := hk
 have h3 : ¬ fn.name = "runtime.NumGoroutine" := by simpa using h3
 simp [execOp, ho, resolve, Deferred.ofValue, invoke, callFunc, evs, h1, h2, h3]
 intro hb
 simp [hb] at h2
def O1 (P : Program) (n : Nat) (o : Oper) (s : Nat → Value) (w : World) (K : (Nat → Value) → World → Prop) : Prop :=
 o.guard = none ∧ ∀ (a : Act) (Q : Exit → Act → World → Prop) (N : Act → World → Prop), (∀ s' a' w', Ag n s' a' → K s' w' → N a' w') → Ag n s a → o.wp P a w N Q
theorem O1.mono (h : O1 P n o s w K) (hk : ∀ s' w', K s' w' → K' s' w') : O1 P n o s w K' := ⟨h.1, fun a Q N hN ha => h.2 a Q N (fun s' a' w' h1 h2 => hN s' a' w' h1 (hk s' w' h2)) ha⟩
theorem R.one (h : O1 P n o s w (fun s' w' => R P n ops l s' w' K)) : R P n ops (o :: l) s w K := R.step h.1 h.2
theorem O1.value (hg : o.guard = none) (hd : o.dst = some d) (hn : d < n) (he : (execOp (evs s) o).run P w = .ok (.value x) w') (h : K (upd s d x) w') : O1 P n o s w K := by
 refine ⟨hg, fun a Q N hN ha => ?_⟩
 unfold Oper.wp
 rw [ha.eval, he, Oper.upon_value, hd]
 exact hN _ _ _ (ha.put hn) h
theorem O1.skip (hg : o.guard = none) (hd : o.dst = none) (he : (execOp (evs s) o).run P w = .ok .skip w') (h : K s w') : O1 P n o s w K := by
 refine ⟨hg, fun a Q N hN ha => ?_⟩
 unfold Oper.wp
 rw [ha.eval, he, Oper.upon_skip, hd]
 exact hN _ a _ ha h
theorem O1.call {f : FuncId} {args : Array Value} (hg : o.guard = none) (hd : o.dst = some d) (hn : d < n) (he : (execOp (evs s) o).run P w = .ok (.enter f args) w)
  (hc : Calls P f args w fun e w' => ∃ x, e = .returned x ∧ K (upd s d x) w') : O1 P n o s w K := by
 refine ⟨hg, fun a Q N hN ha => ?_⟩
 unfold Oper.wp
 rw [ha.eval, he, Oper.upon_enter]
 refine Calls.mono hc fun e w' h => ?_
 obtain ⟨x, rfl, h⟩ := h
 show N (a.put o.dst x) w'
 rw [hd]
 exact hN _ _ _ (ha.put hn) h
theorem any_gen (I : Array Bool → (Nat → Value) → World → Prop) {J0 : (Nat → Value) → World → Prop} (hback : ∀ (j : Nat) (o : Oper), ops[j]? = some o → ∀ e ∈ o.after.toList, e.on < j)
  (step : ∀ (listed : Array Bool) (s : Nat → Value) (w : World) (i : Nat) (o : Oper), I listed s w → ops[i]? = some o → listed.getD i true = false → listed.size = ops.size → (∀ e ∈ o.after.toList, Region.binds .any e = true → listed.getD e.on false = true) → O1 P n o s w (fun s' w' => I (listed.setIfInBounds i true) s' w'))
  (fin : ∀ (listed : Array Bool) (s : Nat → Value) (w : World), (∀ j, j < ops.size → listed.getD j true = true) → I listed s w → J0 s w) :
  ∀ (fuel : Nat) (listed : Array Bool) (s : Nat → Value) (w : World), I listed s w → listed.size = ops.size → (pend ops listed).length ≤ fuel → ∀ (Q : Exit → Act → World → Prop), (∀ s' a' w', Ag n s' a' → J0 s' w' → Q .normal a' w') → ∀ a, Ag n s a → wpAny P .any ops Q fuel listed a w := by
 have agree : ∀ (listed : Array Bool), listed.size = ops.size → ∀ j, j < ops.size → ∀ b, listed.getD j true = b → listed.getD j false = b := by
  intro listed hz j hj b h
  have : j < listed.size := by omega
  simpa [this] using h
 have hdone : ∀ (listed : Array Bool), listed.size = ops.size → Region.ready .any ops listed = [] → pend ops listed = [] := by
  intro listed hz hr
  cases hp : pend ops listed with
  | nil => rfl
  | cons j rest =>
   exfalso
   have hj := mem_pend.1 (show j ∈ pend ops listed by rw [hp]; simp)
   have hsome : ops[j]? = some ops[j] := by simp [hj.1]
   have : j ∈ Region.ready .any ops listed := by
    refine mem_ready.2 ⟨hj.2, ops[j], hsome, fun e he _ => ?_⟩
    have hlt := hback j _ hsome e (by simpa using he)
    have hlt2 : e.on < ops.size := by omega
    cases hb : listed.getD e.on true with
    | true => exact agree listed hz e.on hlt2 true hb
    | false =>
     exfalso
     have hm : e.on ∈ pend ops listed := mem_pend.2 ⟨hlt2, hb⟩
     have hs := pend_sorted (ops := ops) listed
     rw [hp] at hm hs
     rcases List.mem_cons.1 hm with h | h
     ·omega
     ·have := (List.pairwise_cons.1 hs).1 _ h
      omega
   rw [hr] at this
   cases this
 have hall : ∀ (listed : Array Bool), pend ops listed = [] → ∀ j, j < ops.size → listed.getD j true = true := by
  intro listed hp j hj
  cases hb : listed.getD j true with
  | true => rfl
  | false =>
   have := mem_pend.2 ⟨hj, hb⟩
   rw [hp] at this
   cases this
 intro fuel
 induction fuel with
 | zero =>
  intro listed s w hI hz hlen Q hQ a ha
  have hp : pend ops listed = [] := List.eq_nil_of_length_eq_zero (by omega)
  refine ⟨?_, hQ s a w ha (fin listed s w (hall listed hp) hI)⟩
  cases hr : Region.ready .any ops listed with
  | nil => rfl
  | cons i rest =>
   exfalso
   obtain ⟨h0, o, ho, _⟩ := mem_ready.1 (show i ∈ Region.ready .any ops listed by rw [hr]; simp)
   have : i ∈ pend ops listed := mem_pend.2 ⟨(Array.getElem?_eq_some_iff.1 ho).1, h0⟩
   rw [hp] at this
   cases this
 | succ fuel ih =>
  intro listed s w hI hz hlen Q hQ a ha
  refine ⟨fun hr => hQ s a w ha (fin listed s w (hall listed (hdone listed hz hr)) hI), fun i hi => ?_⟩
  obtain ⟨h0, o, ho, hedges⟩ := mem_ready.1 hi
  have hilt := (Array.getElem?_eq_some_iff.1 ho).1
  have hlen2 : (pend ops (listed.setIfInBounds i true)).length ≤ fuel := by
   have him : i ∈ pend ops listed := mem_pend.2 ⟨hilt, h0⟩
   obtain ⟨pre, suf, hsplit⟩ := List.append_of_mem him
   have hnd := pend_nodup (ops := ops) listed
   have hset : pend ops (listed.setIfInBounds i true) = pre ++ suf := by
    rw [pend_set, hsplit, filter_split (by rw [← hsplit]; exact hnd)]
   have : (pend ops listed).length = (pre ++ suf).length + 1 := by rw [hsplit]; simp; omega
   rw [hset]
   omega
  obtain ⟨g1, g2⟩ := step listed s w i o hI ho h0 hz (fun e he hb => hedges e (by simpa using he) hb)
  unfold wpOp
  rw [ho]
  simp only
  rw [if_pos (by simp [Region.wanted, g1])]
  exact .inl (g2 a Q _ (fun s' a' w' h1 h2 => ih _ s' w' h2 (by simpa using hz) hlen2 Q hQ a' h1) ha)
theorem W.drawn {i : Nat} (hm : P.follows .mixedOrders = true) (I : Array Bool → (Nat → Value) → World → Prop) (hback : ∀ (j : Nat) (o : Oper), ops[j]? = some o → ∀ e ∈ o.after.toList, e.on < j)
  (step : ∀ (listed : Array Bool) (s : Nat → Value) (w : World) (i : Nat) (o : Oper), I listed s w → ops[i]? = some o → listed.getD i true = false → listed.size = ops.size → (∀ e ∈ o.after.toList, Region.binds .any e = true → listed.getD e.on false = true) → O1 P n o s w (fun s' w' => I (listed.setIfInBounds i true) s' w'))
  (fin : ∀ (listed : Array Bool) (s : Nat → Value) (w : World), (∀ j, j < ops.size → listed.getD j true = true) → I listed s w → J .normal s w) (h0 : I (Array.replicate ops.size false) s { w with drawn := w.drawn + 1 }) : W P n (.region i ops true) s w J := by
 intro Q hQ a ha
 refine wp_region_any hm ?_
 exact any_gen I hback step fin ops.size _ s _ h0 (by simp) (by rw [pend_start]; simp) Q (fun s' a' w' h1 h2 => hQ _ _ _ _ h1 h2) a ha
theorem W.skip (h : J .normal s w) : W P n .skip s w J := fun Q hQ a ha => wp_skip (hQ _ _ _ _ ha h)
theorem W.exit {i : Nat} (h : J (.exit i) s w) : W P n (.exit i) s w J := fun Q hQ a ha => wp_exit (hQ _ _ _ _ ha h)
theorem W.ret (h : J .ret s w) : W P n .ret s w J := fun Q hQ a ha => wp_ret (hQ _ _ _ _ ha h)
theorem W.region {i : Nat} (h : R P n ops ops.toList s w (J .normal)) : W P n (.region i ops false) s w J := fun Q hQ a ha => wp_region_list (h Q (fun s' a' w' h1 h2 => hQ _ _ _ _ h1 h2) a ha)
def thenW (P : Program) (n : Nat) (c : Code) (J : Exit → (Nat → Value) → World → Prop) : Exit → (Nat → Value) → World → Prop
 | .normal, s, w => W P n c s w J
 | e, s, w => J e s w
theorem W.seq (h : W P n c1 s w (thenW P n c2 J)) : W P n (.seq c1 c2) s w J := by
 intro Q hQ a ha
 refine wp_seq (h _ (fun e s' a' w' h1 h2 => ?_) a ha)
 cases e with
 | normal => exact h2 Q hQ a' h1
 | _ => exact hQ _ _ _ _ h1 h2
theorem W.cond {y : Operand} {b : Bool} (hb : evs s y = .bool b) (h : W P n (if b then c1 else c2) s w J) : W P n (.cond y c1 c2) s w J := fun Q hQ a ha => wp_cond (by rw [ha.eval]; exact hb) (h Q hQ a ha)
def outW (i : Nat) (J : Exit → (Nat → Value) → World → Prop) : Exit → (Nat → Value) → World → Prop
 | .exit j, s, w => if j = i then J .normal s w else J (.exit j) s w
 | e, s, w => J e s w
theorem W.block {i : Nat} (h : W P n c s w (outW i J)) : W P n (.block i c) s w J := by
 intro Q hQ a ha
 refine wp_block (h _ (fun e s' a' w' h1 h2 => ?_) a ha)
 cases e with
 | exit j =>
  show (if j = i then _ else _)
  simp only [outW] at h2
  split
  ·rename_i e; rw [if_pos e] at h2; exact hQ _ _ _ _ h1 h2
  ·rename_i e; rw [if_neg e] at h2; exact hQ _ _ _ _ h1 h2
 | _ => exact hQ _ _ _ _ h1 h2
open Classical in
theorem W.loop (I : Nat → (Nat → Value) → World → Prop) {m : Nat} (h0 : I m s w) (round : ∀ m s w, I m s w → W P n c s w (fun e s' w' => match e with
   | .normal => ∃ m', m' < m ∧ I m' s' w'
   | e => J e s' w')) : W P n (.loop c) s w J := by
 intro Q hQ a ha
 have least : ∀ (p : Nat → Prop), (∃ m, p m) → ∃ m, p m ∧ ∀ k, p k → m ≤ k := by
  intro p ⟨m, hm⟩
  induction m using Nat.strongRecOn with
  | _ m ih =>
   by_cases h : ∃ k, k < m ∧ p k
   ·obtain ⟨k, hk, hp⟩ := h
    exact ih k hk hp
   ·exact ⟨m, hm, fun k hk => Nat.le_of_not_lt fun hlt => h ⟨k, hlt, hk⟩⟩
 let p : Act → World → Nat → Prop := fun a w m => ∃ s, Ag n s a ∧ I m s w
 refine wp_loop (fun a w => ∃ m, p a w m) (fun a w => if h : ∃ m, p a w m then (least _ h).choose else 0) ⟨m, s, ha, h0⟩ (fun a w h => ?_)
 obtain ⟨⟨s1, h1, h2⟩, h3⟩ := (least _ h).choose_spec
 refine round _ s1 w h2 _ (fun e s' a' w' g1 g2 => ?_) a h1
 cases e with
 | normal =>
  obtain ⟨m', hlt, hI⟩ := g2
  have hex : ∃ m, p a' w' m := ⟨m', s', g1, hI⟩
  refine ⟨hex, ?_⟩
  show (if h : ∃ m, p a' w' m then (least _ h).choose else 0) < (if h : ∃ m, p a w m then (least _ h).choose else 0)
  rw [dif_pos hex, dif_pos h]
  exact Nat.lt_of_le_of_lt ((least _ hex).choose_spec.2 m' ⟨s', g1, hI⟩) hlt
 | _ => exact hQ _ _ _ _ g1 g2
theorem calls_W {f : Nat} {fn : Func} {args : Array Value} {r : Nat} {B : Ending → World → Prop} (hf : P.funcs[f]? = some fn) (hb : fn.body = some c) (hr : fn.results = #[.tmp r]) (hn : args.size ≤ fn.ntmps)
  (h : W P fn.ntmps c (fun i => args.getD i undef) w (fun e s' w' => match e with
   | .ret => B (.returned (s' r)) w'
   | .normal => B (.returned (s' r)) w'
   | _ => False)) : Calls P f args w B := by
 refine calls_of_wp hf hb ?_
 have ha := Ag.enter args (fn.ntmps - args.size)
 rw [Nat.add_sub_cancel' hn] at ha
 have hres : ∀ (s' : Nat → Value) (a' : Act) (w' : World), Ag fn.ntmps s' a' → (results fn a'.tmps).run P w' = .ok (s' r) w' := by
  intro s' a' w' h
  simp only [results, hr]
  simp [h.at_]
 refine h _ (fun e s' a' w' h1 h2 => ?_) _ ha
 cases e with
 | ret => exact ⟨h1.dz, _, hres s' a' w' h1, h2⟩
 | normal => exact ⟨h1.dz, _, hres s' a' w' h1, h2⟩
 | _ => exact h2.elim
def flatC : Code → List Code
 | .seq a b => flatC a ++ flatC b
 | c => [c]
def WL (P : Program) (n : Nat) : List Code → (Nat → Value) → World → (Exit → (Nat → Value) → World → Prop) → Prop
 | [], s, w, J => J .normal s w
 | c :: cs, s, w, J => W P n c s w (fun e s' w' => match e with
  | .normal => WL P n cs s' w' J
  | e => J e s' w')
theorem WL.mono : ∀ {cs : List Code} {s : Nat → Value} {w : World} {J J' : Exit → (Nat → Value) → World → Prop}, WL P n cs s w J → (∀ e s' w', J e s' w' → J' e s' w') → WL P n cs s w J' := by
 intro cs
 induction cs with
 | nil => intro s w J J' h hk; exact hk _ _ _ h
 | cons c cs ih =>
  intro s w J J' h hk
  refine W.mono h (fun e s' w' h => ?_)
  cases e with
  | normal => exact ih h hk
  | _ => exact hk _ _ _ h
theorem WL.flat : ∀ (c : Code) (rest : List Code) (s : Nat → Value) (w : World) (J : Exit → (Nat → Value) → World → Prop), WL P n (flatC c ++ rest) s w J → WL P n (c :: rest) s w J := by
 intro c
 induction c with
 | seq a b iha ihb =>
  intro rest s w J h
  rw [flatC, List.append_assoc] at h
  have h := iha _ _ _ _ h
  refine W.seq (W.mono h (fun e s' w' h => ?_))
  cases e with
  | normal => exact ihb rest s' w' J h
  | _ => exact h
 | _ => intro rest s w J h; exact h
theorem WL.code (h : WL P n (flatC c) s w J) : W P n c s w J := by
 have := WL.flat c [] s w J (by rw [List.append_nil]; exact h)
 refine W.mono this (fun e s' w' h => ?_)
 cases e with
 | normal => exact h
 | _ => exact h
end
end Go.Am
end
section
set_option linter.unusedVariables false
set_option linter.unusedSimpArgs false
namespace Go.Am
open Go Go.RowKit
structure Mod (X : Nat → Prop) (w w' : World) : Prop where
  os : w'.os = w.os
  tape : w'.tape = w.tape
  output : w'.output = w.output
  size : w.heap.size ≤ w'.heap.size
  old : ∀ k, k < w.heap.size → ¬ X k → w'.heap[k]? = w.heap[k]?
theorem Mod.refl {X : Nat → Prop} (w : World) : Mod X w w := ⟨rfl, rfl, rfl, Nat.le_refl _, fun _ _ _ => rfl⟩
theorem Mod.trans {X : Nat → Prop} {w w1 w2 : World} (h : Mod X w w1) (h' : Mod X w1 w2) : Mod X w w2 :=
 ⟨h'.os.trans h.os, h'.tape.trans h.tape, h'.output.trans h.output, Nat.le_trans h.size h'.size, fun k hk hx => (h'.old k (Nat.lt_of_lt_of_le hk h.size) hx).trans (h.old k hk hx)⟩
theorem Mod.of_kept {X : Nat → Prop} {w w' : World} (h : Kept w w') : Mod X w w' := ⟨h.1, h.2.1, h.2.2.1, h.2.2.2.1, fun k hk _ => h.2.2.2.2 k hk⟩
theorem Mod.mono {X Y : Nat → Prop} {w w' : World} (h : Mod X w w') (hx : ∀ k, X k → Y k) : Mod Y w w' := ⟨h.os, h.tape, h.output, h.size, fun k hk hy => h.old k hk (fun e => hy (hx k e))⟩
theorem Mod.glob {X : Nat → Prop} {w w' : World} (h : Mod X w w') (hx : ∀ k, X k → globN ≤ k) (hg : globOk w) : globOk w' :=
 ⟨globStable _ _ hg.1 (fun k hk => h.old k (Nat.lt_of_lt_of_le hk hg.2) (fun e => absurd (hx k e) (Nat.not_le.2 hk))), Nat.le_trans hg.2 h.size⟩
theorem Kept.glob' {w w' : World} (h : Kept w w') (hg : globOk w) : globOk w' := Mod.glob (X := fun _ => False) (Mod.of_kept h) (fun _ h => h.elim) hg
theorem Kept.tr {w w1 w2 : World} (h : Kept w w1) (h' : Kept w1 w2) : Kept w w2 :=
 ⟨h'.1.trans h.1, h'.2.1.trans h.2.1, h'.2.2.1.trans h.2.2.1, Nat.le_trans h.2.2.2.1 h'.2.2.2.1, fun k hk => (h'.2.2.2.2 k (Nat.lt_of_lt_of_le hk h.2.2.2.1)).trans (h.2.2.2.2 k hk)⟩
theorem Kept.al (w : World) (o : Obj) : Kept w (w.alloc o) := ⟨rfl, rfl, rfl, by rw [size_alloc]; omega, fun k hk => heap_alloc_lt w o hk⟩
structure Stored (w w' : World) (g : Nat) (cur : Array Value) (ty : TypeId) : Prop where
  mod : Mod (fun k => k = g) w w'
  at_ : w'.heap[g]? = some (.cells cur ty (0, 0))
theorem Stored.other {w w' : World} {g : Nat} {cur : Array Value} {ty : TypeId} (h : Stored w w' g cur ty) {k : Nat} (hk : k < w.heap.size) (hne : k ≠ g) : w'.heap[k]? = w.heap[k]? := h.mod.old k hk hne
theorem seg_one {cur : Array Value} {o : Nat} {x : Value} (h : o < cur.size) : (cur.toList.take o ++ [x] ++ cur.toList.drop (o + 1)).toArray = cur.setIfInBounds o x := by
 apply Array.ext_getElem?
 intro j
 have := seg_get cur.toList [x] o j (by simp; omega)
 simp only [List.length_singleton] at this
 rw [List.getElem?_toArray, this, Array.getElem?_setIfInBounds]
 by_cases e : o = j
 ·subst e
  rw [if_pos ⟨Nat.le_refl _, Nat.lt_succ_self _⟩, if_pos rfl, if_pos h]
  simp
 ·rw [if_neg (by omega), if_neg e]
  simp
theorem run_storeOne (P : Program) (w : World) (g o : Nat) (t ty : TypeId) (ti : TypeInfo) (cur : Array Value) (x : Value) (hg : w.heap[g]? = some (.cells cur t (0, 0))) (hi : P.info? ty = some ti) (h1 : ti.size = 1) (hx : x.cells = #[x]) (ho : x.oneCell' = true) (hfit : o < cur.size) :
  ∃ w', (Instr.storeAt ty (.pointer (some ⟨g, o, none⟩)) x).run P w = .ok () w' ∧ Stored w w' g (cur.setIfInBounds o x) t := by
 have hr := run_storeVar_at P w g o t ty ti cur x hg hi (by rw [hx, h1]; rfl) (by rw [hx]; exact hfit) (by rw [hx]; intro v hv; simp at hv; subst hv; exact ho)
 refine ⟨_, hr, ⟨rfl, rfl, rfl, by rw [setRow_size]; exact Nat.le_refl _, fun k _ hk => setRow_other w g k _ hk⟩, ?_⟩
 have e : (cur.toList.take o ++ x.cells.toList ++ cur.toList.drop (o + x.cells.size)).toArray = cur.setIfInBounds o x := by rw [hx]; exact seg_one hfit
 rw [e]
 exact setRow_heap w g cur _ t _ hg
theorem blk_lt {W : World} {g : Nat} {ob : Obj} (h : W.heap[g]? = some ob) : g < W.heap.size := (Array.getElem?_eq_some_iff.1 h).1
inductive Kd where
  | str
  | int
  | bool
  | sl (ks : List Kd)
def Kd.leaf : Kd → Bool
 | .sl _ => false
 | _ => true
def leafIs : Kd → Value → Prop
 | .str, x => ∃ b : ByteArray, x = .string b
 | .int, x => ∃ n : Int, x = .int .i64 n
 | .bool, x => ∃ b : Bool, x = .bool b
 | .sl _, _ => False
def markIs (mt : Nat → List UInt8) : Kd → Nat → Value → Prop
 | .str, k, x => ∃ b : ByteArray, x = .string b ∧ b.data.toList = mt k
 | .int, k, x => x = .int .i64 (k : Int)
 | .bool, k, x => x = .bool (k % 3 == 0)
 | .sl _, _, _ => False
theorem markIs.leaf {mt : Nat → List UInt8} {kd : Kd} {k : Nat} {x : Value} (h : markIs mt kd k x) : leafIs kd x := by
 cases kd with
 | str => obtain ⟨b, h, _⟩ := h; exact ⟨b, h⟩
 | int => exact ⟨_, h⟩
 | bool => exact ⟨_, h⟩
 | sl ks => exact h.elim
def sumN (N : Nat → Nat) : Nat → Nat
 | 0 => 0
 | p + 1 => sumN N p + N p
theorem sumN_le {N : Nat → Nat} {p q : Nat} (h : p ≤ q) : sumN N p ≤ sumN N q := by
  induction q with
  | zero => obtain rfl : p = 0 := by omega
            exact Nat.le_refl _
  | succ q ih =>
    by_cases e : p = q + 1
    · subst e; exact Nat.le_refl _
    · exact Nat.le_trans (ih (by omega)) (Nat.le_add_right _ _)
inductive MT (mt : Nat → List UInt8) (mk : Bool) (w : World) : Kd → Value → Nat → Nat → (Nat → Prop) → Prop
  | leaf (kd : Kd) (x : Value) (k0 : Nat) (T : Nat → Prop) (h : leafIs kd x) (hm : mk = true → markIs mt kd k0 x) : MT mt mk w kd x k0 1 T
  | nil (ks : List Kd) (a : Option Addr) (cap k0 : Nat) (T : Nat → Prop) : MT mt mk w (.sl ks) (.slice a 0 cap) k0 0 T
  | sl (ks : List Kd) (k o m cap k0 : Nat) (cur : Array Value) (ty : TypeId) (N : Nat → Nat) (Ts : Nat → Nat → Prop) (T : Nat → Prop) (h0 : 0 < m) (hm : m ≤ 1152921504606846976) (hb : w.heap[k]? = some (.cells cur ty (0, 0))) (hsz : o + m * ks.length ≤ cur.size)
      (hc : ∀ (p : Nat) (kd : Kd) (v : Value), p < m * ks.length → ks[p % ks.length]? = some kd → cur[o + p]? = some v → MT mt mk w kd v (k0 + sumN N p) (N p) (Ts p))
      (hd : ∀ p p' x, Ts p x → Ts p' x → p = p') (hk : ∀ p, ¬ Ts p k) (hTk : T k) (hT : ∀ p x, Ts p x → T x) : MT mt mk w (.sl ks) (.slice (some ⟨k, o, none⟩) m cap) k0 (sumN N (m * ks.length)) T
section
variable {mt : Nat → List UInt8} {mk : Bool} {w w' : World} {kd : Kd} {x : Value} {k0 n : Nat} {T T' : Nat → Prop}
theorem MT.mono (h : MT mt mk w kd x k0 n T) (hw : ∀ b, T b → w'.heap[b]? = w.heap[b]?) : MT mt mk w' kd x k0 n T := by
 induction h with
 | leaf kd x k0 T h hm => exact .leaf kd x k0 T h hm
 | nil ks a cap k0 T => exact .nil ks a cap k0 T
 | sl ks k o m cap k0 cur ty N Ts T h0 hm hb hsz hc hd hk hTk hT ih => exact .sl ks k o m cap k0 cur ty N Ts T h0 hm ((hw k hTk).trans hb) hsz (fun p kd v hp h1 h2 => ih p kd v hp h1 h2 (fun b hb => hw b (hT p b hb))) hd hk hTk hT
theorem MT.weaken (h : MT mt mk w kd x k0 n T) (hT : ∀ b, T b → T' b) : MT mt mk w kd x k0 n T' := by
 cases h with
 | leaf _ _ _ _ h hm => exact .leaf kd x k0 T' h hm
 | nil ks a cap _ _ => exact .nil ks a cap k0 T'
 | sl ks k o m cap _ cur ty N Ts _ h0 hm hb hsz hc hd hk hTk hT' => exact .sl ks k o m cap k0 cur ty N Ts T' h0 hm hb hsz hc hd hk (hT k hTk) (fun p x hx => hT x (hT' p x hx))
theorem MT.start (h : MT mt false w kd x k0 n T) : ∀ k1, MT mt false w kd x k1 n T := by
 induction h with
 | leaf kd x k0 T h hm => exact fun k1 => .leaf kd x k1 T h (fun e => by cases e)
 | nil ks a cap k0 T => exact fun k1 => .nil ks a cap k1 T
 | sl ks k o m cap k0 cur ty N Ts T h0 hm hb hsz hc hd hk hTk hT ih => exact fun k1 => .sl ks k o m cap k1 cur ty N Ts T h0 hm hb hsz (fun p kd v hp h1 h2 => ih p kd v hp h1 h2 _) hd hk hTk hT
theorem MT.one (h : MT mt mk w kd x k0 n T) (hl : kd.leaf = true) : n = 1 ∧ leafIs kd x ∧ (mk = true → markIs mt kd k0 x) := by
 cases h with
 | leaf _ _ _ _ h hm => exact ⟨rfl, h, hm⟩
 | nil => cases hl
 | sl => cases hl
structure SlInv (mt : Nat → List UInt8) (w0 w : World) (ks : List Kd) (bk o m : Nat) (cur : Array Value) (ty : TypeId) (N : Nat → Nat) (Ts : Nat → Nat → Prop) (k0 p : Nat) : Prop where
  hb : w.heap[bk]? = some (.cells cur ty (0, 0))
  hsz : o + m * ks.length ≤ cur.size
  done : ∀ (q : Nat) (kd : Kd) (v : Value), q < p → q < m * ks.length → ks[q % ks.length]? = some kd → cur[o + q]? = some v → MT mt true w kd v (k0 + sumN N q) (N q) (Ts q)
  todo : ∀ (q : Nat) (kd : Kd) (v : Value), p ≤ q → q < m * ks.length → ks[q % ks.length]? = some kd → cur[o + q]? = some v → MT mt false w kd v 0 (N q) (Ts q)
  mod : Mod (fun x => x = bk ∨ ∃ q, Ts q x) w0 w
  hd : ∀ p p' x, Ts p x → Ts p' x → p = p'
  hk : ∀ p, ¬ Ts p bk
  lt : ∀ p x, Ts p x → x < w.heap.size
variable {w0 : World} {ks : List Kd} {bk o m p : Nat} {cur : Array Value} {ty : TypeId} {N : Nat → Nat} {Ts : Nat → Nat → Prop} {v : Value}
theorem SlInv.kept (h : SlInv mt w0 w ks bk o m cur ty N Ts k0 p) (hk : Kept w w') : SlInv mt w0 w' ks bk o m cur ty N Ts k0 p := by
 have hold : ∀ q b, Ts q b → w'.heap[b]? = w.heap[b]? := fun q b hq => hk.2.2.2.2 b (h.lt q b hq)
 exact ⟨(hk.2.2.2.2 bk (blk_lt h.hb)).trans h.hb, h.hsz, fun q kd v h1 h2 h3 h4 => (h.done q kd v h1 h2 h3 h4).mono (hold q), fun q kd v h1 h2 h3 h4 => (h.todo q kd v h1 h2 h3 h4).mono (hold q), h.mod.trans (Mod.of_kept hk), h.hd, h.hk, fun q x hx => Nat.lt_of_lt_of_le (h.lt q x hx) hk.2.2.2.1⟩
theorem SlInv.leaf (h : SlInv mt w0 w ks bk o m cur ty N Ts k0 p) (hp : p < m * ks.length) (hkd : ks[p % ks.length]? = some kd) (hl : kd.leaf = true) (hv : markIs mt kd (k0 + sumN N p) v) (hst : Stored w w' bk (cur.setIfInBounds (o + p) v) ty) :
  N p = 1 ∧ SlInv mt w0 w' ks bk o m (cur.setIfInBounds (o + p) v) ty N Ts k0 (p + 1) := by
 have hlt : o + p < cur.size := by have := h.hsz; omega
 obtain ⟨u, hu⟩ : ∃ u, cur[o + p]? = some u := ⟨_, Array.getElem?_eq_getElem hlt⟩
 have h1 := ((h.todo p kd u (Nat.le_refl _) hp hkd hu).one hl).1
 have hold : ∀ q b, Ts q b → w'.heap[b]? = w.heap[b]? := fun q b hq => hst.other (h.lt q b hq) (fun e => h.hk q (e ▸ hq))
 refine ⟨h1, hst.at_, by rw [Array.size_setIfInBounds]; exact h.hsz, fun q kd' v' g1 g2 g3 g4 => ?_, fun q kd' v' g1 g2 g3 g4 => ?_, h.mod.trans (hst.mod.mono (fun k e => .inl e)), h.hd, h.hk, fun q x hx => Nat.lt_of_lt_of_le (h.lt q x hx) hst.mod.size⟩
 ·by_cases e : q = p
  ·subst e
   rw [hkd] at g3
   injection g3 with g3
   subst g3
   rw [Array.getElem?_setIfInBounds_self_of_lt hlt] at g4
   injection g4 with g4
   subst g4
   rw [h1]
   exact .leaf kd v _ _ hv.leaf (fun _ => hv)
  ·rw [Array.getElem?_setIfInBounds_ne (by omega)] at g4
   exact (h.done q kd' v' (by omega) g2 g3 g4).mono (hold q)
 ·rw [Array.getElem?_setIfInBounds_ne (by omega)] at g4
  exact (h.todo q kd' v' (by omega) g2 g3 g4).mono (hold q)
theorem SlInv.sub (h : SlInv mt w0 w ks bk o m cur ty N Ts k0 p) (hp : p < m * ks.length) (hkd : ks[p % ks.length]? = some kd) (hv : cur[o + p]? = some v) (hm : Mod (Ts p) w w') (ht : MT mt true w' kd v (k0 + sumN N p) (N p) (Ts p)) :
  SlInv mt w0 w' ks bk o m cur ty N Ts k0 (p + 1) := by
 have hold : ∀ q, q ≠ p → ∀ b, Ts q b → w'.heap[b]? = w.heap[b]? := fun q hq b hb => hm.old b (h.lt q b hb) (fun e => hq (h.hd q p b hb e))
 refine ⟨(hm.old bk (blk_lt h.hb) (h.hk p)).trans h.hb, h.hsz, fun q kd' v' g1 g2 g3 g4 => ?_, fun q kd' v' g1 g2 g3 g4 => ?_, h.mod.trans (hm.mono (fun k hk => .inr ⟨p, hk⟩)), h.hd, h.hk, fun q x hx => Nat.lt_of_lt_of_le (h.lt q x hx) hm.size⟩
 ·by_cases e : q = p
  ·subst e
   rw [hkd] at g3
   injection g3 with g3
   subst g3
   rw [hv] at g4
   injection g4 with g4
   subst g4
   exact ht
  ·exact (h.done q kd' v' (by omega) g2 g3 g4).mono (hold q e)
 ·exact (h.todo q kd' v' (by omega) g2 g3 g4).mono (hold q (by omega))
end
def MarkOk (P : Program) (mt : Nat → List UInt8) (f : Nat) (kd : Kd) : Prop := Known P f ∧ ∀ (T : Nat → Prop) (x : Value) (n k0 : Nat) (w : World), globOk w → (∀ b, T b → globN ≤ b ∧ b < w.heap.size) → MT mt false w kd x 0 n T → k0 + n ≤ 1152921504606846976 →
 Calls P f #[x, .int .i64 (k0 : Int)] w fun e w' => e = .returned (.int .i64 ((k0 + n : Nat) : Int)) ∧ Mod T w w' ∧ MT mt true w' kd x k0 n T
def HeldOk (P : Program) (mt : Nat → List UInt8) (f : Nat) (kd : Kd) : Prop := Known P f ∧ ∀ (T : Nat → Prop) (x : Value) (n k0 : Nat) (w : World), globOk w → (∀ b, T b → b < w.heap.size) → MT mt true w kd x k0 n T → k0 + n ≤ 1152921504606846976 →
 Calls P f #[x, .int .i64 (k0 : Int)] w fun e w' => e = .returned (.int .i64 ((k0 + n : Nat) : Int)) ∧ Kept w w'
def TextOk (P : Program) (mt : Nat → List UInt8) (f : Nat) : Prop := Known P f ∧ ∀ (k : Nat) (w : World), k < 4611686018427387904 → globOk w →
 Calls P f #[.int .i64 (k : Int)] w fun e w' => ∃ b : ByteArray, e = .returned (.string b) ∧ b.data.toList = mt k ∧ Kept w w'
end Go.Am
end

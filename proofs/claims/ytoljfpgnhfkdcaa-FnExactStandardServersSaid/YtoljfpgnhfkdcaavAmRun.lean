/-
  A region whose order is given; a loop's head.
-/
import Derived.Test.YtoljfpgnhfkdcaavAmStep
section
set_option linter.unusedVariables false
set_option linter.unusedSimpArgs false
namespace Go.Am
open Go Go.RowKit
def KeptBut (p : Nat → Prop) (w w' : World) : Prop := w'.os = w.os ∧ w'.tape = w.tape ∧ w'.output = w.output ∧ w.heap.size ≤ w'.heap.size ∧ ∀ k, k < w.heap.size → ¬ p k → w'.heap[k]? = w.heap[k]?
def WrFn (P : Program) (f : Nat) (g : Wr) : Prop :=
 (∃ fn, P.funcs[f]? = some fn ∧ fn.body.isNone = false ∧ (fn.name == "runtime.NumGoroutine") = false) ∧
 ∀ xs ys n, g.g xs = some (ys, n) → ys.length = xs.length ∧ n ≤ xs.length ∧ (∀ x ∈ ys, ∀ c ∈ x.cells, noSl c) ∧
  (xs = [] → ∀ w, globOk w → Calls P f #[.slice none 0 0] w fun e w' => e = .returned (match g.v with
   | true => .slice none 0 0
   | false => .tuple #[]) ∧ KeptBut (fun _ => False) w w') ∧
  ∀ (w : World) (b o cap : Nat) (cur : Array Value) (ty : TypeId), globOk w → globN ≤ b → w.heap[b]? = some (.cells cur ty (0, 0)) → xs.length ≤ cap → cap ≤ maxLen → o + cap * g.s ≤ cur.size → Rows w (fun _ => False) g.s xs b o → (∀ x ∈ xs, ∀ c ∈ x.cells, noSl c) →
   Calls P f #[.slice (some ⟨b, o, none⟩) xs.length cap] w fun e w' => e = .returned (match g.v with
    | true => .slice (some ⟨b, o, none⟩) n cap
    | false => .tuple #[]) ∧ KeptBut (fun k => k = b) w w' ∧ (∃ cur' ty', w'.heap[b]? = some (.cells cur' ty' (0, 0)) ∧ cur'.size = cur.size) ∧ Rows w' (fun _ => False) g.s ys b o
def WrOk (P : Program) (c : Cfg) : Prop := ∀ f g, c.wr f = some g → WrFn P f g
theorem wrOk_none {P : Program} {c : Cfg} (h : ∀ f, c.wr f = none) : WrOk P c := fun f g hg => by
 rw [h f] at hg
 cases hg
section
variable {P : Program} {c : Cfg} {Γ Γ' : Ctx} {st : St} {a : Act} {w w' : World} {den : Nat → List V → Option V} {η : Nat → Option V} {d : Nat}
theorem Rows.plain {S S' : Nat → Prop} {s : Nat} {xs : List V} {k o : Nat} (h : Rows w S s xs k o) (hn : ∀ x ∈ xs, ∀ c ∈ x.cells, noSl c) : Rows w S' s xs k o := by
 obtain ⟨h1, g, h2, h3⟩ := h
 exact ⟨h1, g, h2, fun i x j c hx hc => noSl_rd (h3 i x j c hx hc) (hn x (mem_of_get hx) c (mem_of_get hc))⟩
theorem Rows.take {S : Nat → Prop} {s : Nat} {xs : List V} {k o : Nat} (n : Nat) (h : Rows w S s xs k o) : Rows w S s (xs.take n) k o := by
 obtain ⟨h1, g, h2, h3⟩ := h
 refine ⟨fun x hx => h1 x (List.mem_of_mem_take hx), g, fun i j hi hj => h2 i j (by rw [List.length_take] at hi; omega) hj, fun i x j c hx hc => ?_⟩
 rw [List.getElem?_take] at hx
 split at hx
 ·exact h3 i x j c hx hc
 ·cases hx
theorem Sim.renewed (hs : Sim Γ st a w) {b : Nat} {ys : List V} {cur cur' : Array Value} {ty ty' : TypeId} (hb : Γ.has b) (hdead : st.dead b = false) (hk : KeptBut (fun k => k = Γ.blk b) w w')
  (hcur : w.heap[Γ.blk b]? = some (.cells cur ty (0, 0))) (hcur' : w'.heap[Γ.blk b]? = some (.cells cur' ty' (0, 0))) (hsz : cur'.size = cur.size)
  (hrows : Rows w' (fun _ => False) (Γ.sz b) ys (Γ.blk b) (Γ.off b)) (hfl : ∀ x ∈ ys, ∀ c ∈ x.cells, noSl c) (hlen : ys.length = Γ.ln b) : Sim Γ (st.sweep (renew b .flat ys)) a w' := by
 have g := hs.good
 obtain ⟨k1, k2, k3, k4, k5⟩ := hk
 have hS : ¬ Γ.S (Γ.blk b) := hs.nds b hb hdead
 have hgood : Good Γ w' := by
  refine ⟨k1.trans g.os, k2.trans g.tape, k3.trans g.output, Nat.le_trans g.size k4, fun k hk hF => ?_, g.new, fun k hk => Nat.lt_of_lt_of_le (g.slt k hk) k4, fun b' hb' => ?_, g.baseInj, fun d hd => ?_, g.boxInj, g.baseBox, g.sr, g.gl, g.bz, fun k hk => ?_, g.ns, g.h9⟩
  ·rw [k5 k (Nat.lt_of_lt_of_le hk g.size) (fun e => hF (by rw [e]; exact (g.base b hb).1))]
   exact g.old k hk hF
  ·obtain ⟨b1, b2, b3, cu, e, b4, b5⟩ := g.base b' hb'
   refine ⟨b1, Nat.lt_of_lt_of_le b2 k4, b3, ?_⟩
   by_cases hbb : Γ.blk b' = Γ.blk b
   ·rw [hbb] at b4 ⊢
    rw [hcur] at b4
    injection b4 with b4
    injection b4 with b4 b6
    subst b4
    exact ⟨cur', ty', hcur', by rw [hsz]; exact b5⟩
   ·exact ⟨cu, e, (k5 _ b2 hbb).trans b4, b5⟩
  ·obtain ⟨b1, b2, b3⟩ := g.box d hd
   exact ⟨b1, b2, Nat.lt_of_lt_of_le b3 k4⟩
  ·obtain ⟨z1, z2, cu, e, z3⟩ := g.zf k hk
   refine ⟨z1, Nat.lt_of_lt_of_le z2 k4, ?_⟩
   by_cases hkk : k = Γ.blk b
   ·subst hkk
    exact ⟨cur', ty', hcur'⟩
   ·exact ⟨cu, e, (k5 k z2 hkk).trans z3⟩
 have keep : ∀ {u : V} {y : Value}, VR Γ w u y → u.anyB (fun b' => b' == b) = false → VR Γ w' u y := fun {u y} hu hp => by
  refine VR.mono (Γ := Γ) (Γ' := Γ) (w := w) (w' := w') (p := fun b' => b' == b) (r := fun _ => false) (fun h => h) (fun _ h => h) (fun _ h => h) (fun k hk => cell?_of_heap (k5 k (g.slt k hk) (fun e => hS (e ▸ hk))))
   (fun b' hb' => ⟨Iff.rfl, fun hh => ⟨rfl, rfl, rfl, rfl, rfl, fun _ h => h, cell?_of_heap (k5 _ (g.base b' hh).2.1 (fun e => ?_))⟩⟩) (fun _ _ => ⟨fun h => h, rfl⟩) hu hp (anyP_false _)
  have := g.baseInj b' b hh hb e
  subst this
  simp at hb'
 have hflat : flatOk .flat ys := fun _ => hfl
 have hcap : ∀ {xs : List V}, xs.length ≤ Γ.cap b ∧ xs.length = Γ.ln b → ys.length ≤ Γ.cap b ∧ ys.length = Γ.ln b := fun h => ⟨by omega, hlen⟩
 refine Sim.sweep (f := renew b .flat ys) (dead := st.dead) (dup := st.dup) hs ?_ (renew_one b _ ys) hgood (fun _ h => h) (fun _ => rfl) (fun k' hk' => k5 _ (g.box k' hk').2.2 (fun e => g.baseBox b k' hb hk' e.symm)) hs.nds hs.du hs.nd
 intro u y hleaf hu
 cases u with
 | own b' s' q' zs =>
  simp only [renew]
  split
  ·rename_i hbb
   subst hbb
   simp only [Option.getD_some]
   rcases hu.own_inv with ⟨_, _, h3⟩ | ⟨h1, _, h3, h4, _⟩
   ·exact absurd hb h3
   ·have hzl : zs.length = ys.length := by rw [hlen, h4.2]
    have := VR.own (Γ := Γ) (w := w') b' s' .flat ys hb h3 (hcap h4) (by rw [h3]; exact hrows.plain hfl) hflat (fun h => by cases h)
    rw [h1, hzl]
    exact this
  ·rename_i hbb
   exact keep hu (by simpa [V.anyB] using hbb)
 | view b' s' q' zs =>
  simp only [renew]
  split
  ·exact VR.undef_ _
  ·rename_i hbb
   exact keep hu (by simpa [V.anyB] using hbb)
 | eptr b' s' q' zs i' o' =>
  simp only [renew]
  split
  ·exact VR.undef_ _
  ·rename_i hbb
   exact keep hu (by simpa [V.anyB] using hbb)
 | vptr b' z o' =>
  simp only [renew]
  split
  ·exact VR.undef_ _
  ·rename_i hbb
   exact keep hu (by simpa [V.anyB] using hbb)
 | agg _ => cases hleaf
 | tup _ => cases hleaf
 | clo _ _ => cases hleaf
 | _ => exact keep hu rfl
theorem Sim.renewed0 (hs : Sim Γ st a w) {b : Nat} (hb : ¬ Γ.has b) (hk : KeptBut (fun _ => False) w w') : Sim Γ (st.sweep (renew b .flat [])) a w' := by
 have g := hs.good
 obtain ⟨k1, k2, k3, k4, k5⟩ := hk
 have hold : ∀ k, k < w.heap.size → w'.heap[k]? = w.heap[k]? := fun k hk => k5 k hk (fun h => h)
 have hgood : Good Γ w' := by
  refine ⟨k1.trans g.os, k2.trans g.tape, k3.trans g.output, Nat.le_trans g.size k4, fun k hk hF => ?_, g.new, fun k hk => Nat.lt_of_lt_of_le (g.slt k hk) k4, fun b' hb' => ?_, g.baseInj, fun d hd => ?_, g.boxInj, g.baseBox, g.sr, g.gl, g.bz, fun k hk => ?_, g.ns, g.h9⟩
  ·rw [hold k (Nat.lt_of_lt_of_le hk g.size)]
   exact g.old k hk hF
  ·obtain ⟨b1, b2, b3, cu, e, b4, b5⟩ := g.base b' hb'
   exact ⟨b1, Nat.lt_of_lt_of_le b2 k4, b3, cu, e, (hold _ b2).trans b4, b5⟩
  ·obtain ⟨b1, b2, b3⟩ := g.box d hd
   exact ⟨b1, b2, Nat.lt_of_lt_of_le b3 k4⟩
  ·obtain ⟨z1, z2, cu, e, z3⟩ := g.zf k hk
   exact ⟨z1, Nat.lt_of_lt_of_le z2 k4, cu, e, (hold k z2).trans z3⟩
 have keep : ∀ {u : V} {y : Value}, VR Γ w u y → VR Γ w' u y := fun {u y} hu => by
  have hu0 : u.anyB (fun _ => false) = false := anyB_false _
  exact VR.mono (Γ := Γ) (Γ' := Γ) (w := w) (w' := w') (p := fun _ => false) (r := fun _ => false) (fun h => h) (fun _ h => h) (fun _ h => h) (fun k hk => cell?_of_heap (hold k (g.slt k hk)))
   (fun b' hb' => ⟨Iff.rfl, fun hh => ⟨rfl, rfl, rfl, rfl, rfl, fun _ h => h, cell?_of_heap (hold _ (g.base b' hh).2.1)⟩⟩) (fun _ _ => ⟨fun h => h, rfl⟩) hu hu0 (anyP_false _)
 refine Sim.sweep (f := renew b .flat []) (dead := st.dead) (dup := st.dup) hs ?_ (renew_one b _ []) hgood (fun _ h => h) (fun _ => rfl) (fun k' hk' => hold _ (g.box k' hk').2.2) hs.nds hs.du hs.nd
 intro u y hleaf hu
 cases u with
 | own b' s' q' zs =>
  simp only [renew]
  split
  ·rename_i hbb
   subst hbb
   simp only [Option.getD_some]
   rcases hu.own_inv with ⟨h1, _, _⟩ | ⟨_, h2, _⟩
   ·rw [h1]
    exact .ownNil _ _ _ hb
   ·exact absurd h2 hb
  ·exact keep hu
 | view b' s' q' zs =>
  simp only [renew]
  split
  ·exact VR.undef_ _
  ·exact keep hu
 | eptr b' s' q' zs i' o' =>
  simp only [renew]
  split
  ·exact VR.undef_ _
  ·exact keep hu
 | vptr b' z o' =>
  simp only [renew]
  split
  ·exact VR.undef_ _
  ·exact keep hu
 | agg _ => cases hleaf
 | tup _ => cases hleaf
 | clo _ _ => cases hleaf
 | _ => exact keep hu
theorem sound_wr (hW : WrOk P c) (hs : Sim Γ st a w) {o : Oper} {g : Wr} {x : Operand} {st' : St} (ho : wrOf c o.op = some (g, x)) (h : wrStep st o.dst g x = some st')
  (next : Act → World → Prop) (Q : Exit → Act → World → Prop) (hn : ∀ a' w', Sims Γ st' a' w' → next a' w') : o.wp P a w next Q := by
 unfold wrOf at ho
 split at ho
 ·rename_i f args ts hop
  split at ho
  ·rename_i g' x' hg hargs
   simp only [Option.some.injEq, Prod.mk.injEq] at ho
   obtain ⟨rfl, rfl⟩ := ho
   have hargs : args = #[x'] := by
    obtain ⟨l⟩ := args
    simp only at hargs
    rw [hargs]
   subst hargs
   obtain ⟨⟨fn, hfn, hbody, hname⟩, hcon⟩ := hW f g' hg
   have ef : a.eval (.func f) = .func (.func f) #[] #[] := by
    obtain ⟨cv, ef, hcl, _⟩ := (show VR Γ w (.clo f []) (a.eval (.func f)) from hs.ev (.func f)).clo_inv
    rw [ef]
    congr 1
    exact Array.eq_empty_of_size_eq_zero (by simpa using hcl.symm)
   have hexec : (execOp a.eval o).run P w = .ok (.enter f #[a.eval x']) w := by
    simp [execOp, hop, ef, resolve, Deferred.ofValue, invoke, callFunc, hfn, hbody]
    have : ¬ fn.name = "runtime.NumGoroutine" := by simpa using hname
    simp [this]
    intro hb
    simp [hb] at hbody
   unfold Oper.wp
   rw [hexec, Oper.upon_enter]
   unfold wrStep at h
   split at h
   ·rename_i b s q xs d hx hd
    split at h
    ·rename_i hc
     obtain ⟨hdead, hb9, rfl, rfl⟩ := hc
     split at h
     ·rename_i ys n hg2
      simp only [Option.some.injEq] at h
      subst h
      obtain ⟨hyl, hnl, hfl, hnil, hown⟩ := hcon xs ys n hg2
      have hv := hs.ev x'
      rw [hx] at hv
      have hfx : ∀ z, VR Γ w (.own b g'.s .flat xs) z → ∀ x ∈ xs, ∀ c ∈ x.cells, noSl c := fun z hz => by
       cases hz with
       | rd _ _ h => cases h
       | ownNil _ _ _ _ => intro x hx; cases hx
       | own _ _ _ _ _ _ _ _ hq _ => exact hq rfl
      have hfx := hfx _ hv
      rcases hv.own_inv with ⟨h1, h2, h3⟩ | ⟨h1, hb, h3, h4, h5, h6⟩
      ·subst h2
       have hy0 : ys = [] := List.length_eq_zero_iff.1 (by simpa using hyl)
       subst hy0
       rw [h1]
       refine Calls.mono (hnil rfl w hs.good.glob) (fun e w' he => ?_)
       obtain ⟨rfl, hk⟩ := he
       refine hn _ _ ⟨Γ, ⟨rfl, rfl, rfl⟩, ?_⟩
       rw [hd]
       refine (hs.renewed0 h3 hk).put ?_
       cases g'.v with
       | true =>
        show VR Γ w' (.view b g'.s .flat (([] : List V).take n)) (.slice none 0 0)
        rw [List.take_nil]
        exact .view0 _ _ _ _ _
       | false => exact .tup [] #[] rfl (fun i c v h => by simp at h)
      ·obtain ⟨b1, b2, b3, cur, ty, b4, b5⟩ := hs.good.base b hb
       rw [h1]
       refine Calls.mono (hown w (Γ.blk b) (Γ.off b) (Γ.cap b) cur ty hs.good.glob (hs.good.gl.2 _ b1) b4 h4.1 b3 (by rw [h3]; exact b5) (h5.plain hfx) hfx) (fun e w' he => ?_)
       obtain ⟨rfl, hk, ⟨cur', ty', hc1, hc2⟩, hrows⟩ := he
       refine hn _ _ ⟨Γ, ⟨rfl, rfl, rfl⟩, ?_⟩
       rw [hd]
       refine (hs.renewed hb hdead hk b4 hc1 hc2 (by rw [← h3]; exact hrows) hfl (hyl.trans h4.2)).put ?_
       cases g'.v with
       | false => exact .tup [] #[] rfl (fun i c v h => by simp at h)
       | true =>
        have htl : (ys.take n).length = n := by rw [List.length_take]; omega
        rcases Nat.eq_zero_or_pos n with h0 | h0
        ·subst h0
         exact .view0 _ _ _ _ _
        ·have := VR.view (Γ := Γ) (w := w') b g'.s .flat (ys.take n) (Γ.off b) (Γ.cap b) hb (by omega) (by omega) (by rw [h3]; exact Nat.le_refl _) (Rows.take n (hrows.plain hfl)) (fun _ x hx => hfl x (List.mem_of_mem_take hx)) (fun h => by cases h)
         rw [htl] at this
         exact this
     ·cases h
    ·cases h
   ·cases h
  ·cases ho
 ·cases ho
end
end Go.Am
end
section
set_option linter.unusedVariables false
set_option linter.unusedSimpArgs false
namespace Go.Am
open Go Go.RowKit
section
variable {P : Program} {c : Cfg} {Γ Γ' : Ctx} {st : St} {a : Act} {w w' : World} {den : Nat → List V → Option V} {η : Nat → Option V} {d : Nat}
theorem wanted_ok {ops : Array Oper} (hs : Sim Γ st a w) {o : Oper} {b : Bool} (h : wanted ops st.t o = some b) : Region.wanted o (yielded ops a.tmps) = b := by
 unfold wanted at h
 unfold Region.wanted
 split at h
 ·rename_i hg
  simp only [Option.some.injEq] at h
  subst h
  simp [hg]
 ·rename_i j want hg
  simp only [hg]
  split at h
  ·rename_i d hd
   have hv : VR Γ w (st.t.getD d .undef) (a.tmps.getD d undef) := by simpa [Am.ev, Act.eval] using hs.ev (.tmp d)
   unfold yielded
   rw [hd]
   split at h
   ·rename_i b' hb
    simp only [Option.some.injEq] at h
    rw [hb] at hv
    have := hv.bool_inv
    cases ht : a.tmps[d]? with
    | none => simp [Array.getD_eq_getD_getElem?, ht] at this; cases this
    | some x =>
     simp [Array.getD_eq_getD_getElem?, ht] at this
     subst this
     simp [ht, ← h]
   ·rename_i hb
    simp only [Option.some.injEq] at h
    rw [hb] at hv
    obtain ⟨vs, e, _⟩ := hv.tup_inv
    cases ht : a.tmps[d]? with
    | none => simp [ht, ← h]
    | some x =>
     simp [Array.getD_eq_getD_getElem?, ht] at e
     subst e
     simp [ht, ← h]
   ·cases h
  ·rename_i hd
   simp only [Option.some.injEq] at h
   simp [yielded, hd, ← h]
theorem skip_ok (hs : Sim Γ st a w) (d : Nat) : Sim Γ { st with t := st.t.set d skipped } (a.put (some d) undef) w :=
 hs.put (v := skipped) (x := undef) (.tup [] #[] rfl (fun i c v h => by simp at h))
theorem sound_stepW (hA : Agree P c) (hW : WrOk P c) (hD : Answers P den) (hs : Sim Γ st a w) {o : Oper} {st' : St} (h : stepW c den st o = some st')
  (next : Act → World → Prop) (Q : Exit → Act → World → Prop) (hn : ∀ a' w', Sims Γ st' a' w' → next a' w') : o.wp P a w next Q := by
 unfold stepW at h
 split at h
 ·rename_i g x hg
  exact sound_wr hW hs hg h next Q hn
 ·exact sound_step hA hD hs h next Q hn
theorem sound_runW (hA : Agree P c) (hW : WrOk P c) (hD : Answers P den) {ops : Array Oper} {Q : Exit → Act → World → Prop} : ∀ (l : List Oper) (Γ : Ctx) (st : St) (a : Act) (w : World) (st' : St), Sim Γ st a w → runOpsW c den ops l st = some st' →
  (∀ a' w', Sims Γ st' a' w' → Q .normal a' w') → wpList P ops Q l a w := by
 intro l
 induction l with
 | nil =>
  intro Γ st a w st' hs h hQ
  simp only [runOpsW, Option.some.injEq] at h
  subst h
  exact wpList_nil (hQ a w ⟨Γ, Same.rfl', hs⟩)
 | cons o l ih =>
  intro Γ st a w st' hs h hQ
  simp only [runOpsW] at h
  split at h
  ·cases h
  ·rename_i hw
   split at h
   ·rename_i s hst
    refine wpList_step fun K hK => ?_
    rw [if_pos (wanted_ok hs hw)]
    exact sound_stepW hA hW hD hs hst K Q (fun a' w' ⟨Γ', hsame, hs'⟩ => hK _ _ (ih Γ' s a' w' st' hs' h (fun a2 w2 h2 => hQ _ _ (Sims.of hsame h2))))
   ·cases h
  ·rename_i hw
   refine wpList_step fun K hK => ?_
   rw [if_neg (by rw [wanted_ok hs hw]; simp)]
   refine hK _ _ ?_
   split at h
   ·rename_i d hd
    rw [hd]
    exact ih Γ _ _ w st' (skip_ok hs d) h hQ
   ·rename_i hd
    rw [hd]
    exact ih Γ _ _ w st' hs h hQ
theorem forget_get (ds : List Nat) : ∀ (l : List V) (k i : Nat), (forget ds k l)[i]? = (l[i]?).map fun v => if ds.contains (k + i) then .undef else v := by
 intro l
 induction l with
 | nil => intro k i; rfl
 | cons v l ih =>
  intro k i
  rw [forget]
  cases i with
  | zero => simp
  | succ i =>
   simp only [List.getElem?_cons_succ, ih]
   rw [show k + 1 + i = k + (i + 1) by omega]
theorem forget_len (ds : List Nat) : ∀ (l : List V) (k : Nat), (forget ds k l).length = l.length := by
 intro l
 induction l with
 | nil => intro k; rfl
 | cons v l ih => intro k; rw [forget, List.length_cons, ih, List.length_cons]
theorem dropH_get (ds : List Nat) : ∀ (l : List (Option V)) (k i : Nat) (v : V), (dropH ds k l)[i]? = some (some v) → l[i]? = some (some v) := by
 intro l
 induction l with
 | nil => intro k i v h; simp [dropH] at h
 | cons x l ih =>
  intro k i v h
  rw [dropH] at h
  cases i with
  | zero =>
   simp only [List.getElem?_cons_zero, Option.some.injEq] at h ⊢
   split at h
   ·cases h
   ·exact h
  | succ i => exact ih _ _ _ (by simpa using h)
theorem Sim.sweepC {f : V → Option V} {dead : Nat → Bool} {dup : Bool} (C : V → Prop) (hagg : ∀ cs, C (.agg cs) → ∀ u ∈ cs, C u) (htup : ∀ cs, C (.tup cs) → ∀ u ∈ cs, C u) (hclo : ∀ g cs, C (.clo g cs) → ∀ u ∈ cs, C u)
  (hs : Sim Γ st a w) (hCt : ∀ u ∈ st.t, C u) (hCh : ∀ u, some u ∈ st.h → C u)
  (hl : ∀ v x, (match v with
   | .agg _ => False
   | .tup _ => False
   | .clo _ _ => False
   | _ => True) → C v → VR Γ w v x → VR Γ' w' ((f v).getD v) x) (hf : ∀ v u, f v = some u → u.cells = [u]) (hg : Good Γ' w') (hlb : ∀ k, Γ.lb k → Γ'.lb k) (hbox : ∀ k, Γ'.box k = Γ.box k)
  (hw : ∀ k, Γ.lb k → w'.heap[Γ.box k]? = w.heap[Γ.box k]?) (hn : ∀ b, Γ'.has b → dead b = false → ¬ Γ'.S (Γ'.blk b))
  (hdu : dup = false → Γ'.U) (hnd : Γ'.U → ∀ b b', Γ'.has b → Γ'.has b' → dead b = false → dead b' = false → b ≠ b' → ∀ m, Γ'.N b m → Γ'.N b' m → False) : Sim Γ' { st.sweep f with dead := dead, dup := dup } a w' := by
 refine ⟨hg, hs.dz, ?_, fun i v h => ?_, fun k v h => ?_, hn, hdu, hnd⟩
 ·show _ = (V.mapBs f st.t).length
  rw [mapBs_len]; exact hs.len
 ·change (V.mapBs f st.t)[i]? = some v at h
  rw [mapBs_get] at h
  cases hc : st.t[i]? with
  | none => rw [hc] at h; cases h
  | some u =>
   rw [hc] at h
   simp only [Option.map_some, Option.some.injEq] at h
   subst h
   obtain ⟨x, h1, h2⟩ := hs.tm i u hc
   exact ⟨x, h1, VR.sweepC C hagg htup hclo hl u x (hCt u (mem_of_get hc)) h2⟩
 ·change (mapBo f st.h)[k]? = some (some v) at h
  rw [mapBo_get] at h
  cases hc : st.h[k]? with
  | none => rw [hc] at h; cases h
  | some uo =>
   cases uo with
   | none => rw [hc] at h; cases h
   | some u =>
    rw [hc] at h
    simp only [Option.map_some, Option.some.injEq] at h
    subst h
    obtain ⟨h1, cur, e, h2, h3, h4⟩ := hs.bx k u hc
    have hCu := hCh u (mem_of_get hc)
    refine ⟨hlb k h1, cur, e, by rw [hbox, hw k h1]; exact h2, ?_, fun j z hz => ?_⟩
    ·rw [mapB_cells f hf, mapBs_len]; exact h3
    ·rw [mapB_cells f hf, mapBs_get] at hz
     cases hu : u.cells[j]? with
     | none => rw [hu] at hz; cases hz
     | some y =>
      rw [hu] at hz
      simp only [Option.map_some, Option.some.injEq] at hz
      subst hz
      obtain ⟨x, e1, e2⟩ := h4 j y hu
      refine ⟨x, e1, VR.sweepC C hagg htup hclo hl y x ?_ e2⟩
      cases u with
      | agg cs => exact hagg cs hCu y (mem_of_get hu)
      | _ =>
       obtain rfl : j = 0 := by
        cases j with
        | zero => rfl
        | succ j => simp [V.cells] at hu
       simp only [V.cells, List.getElem?_cons_zero, Option.some.injEq] at hu
       subst hu
       exact hCu
theorem settle_one (dead : Nat → Bool) : ∀ v u, settle dead v = some u → u.cells = [u] := by
 intro v u h
 cases v <;> simp only [settle] at h <;> first
  | (cases h; done)
  | (split at h <;> first
    | (simp only [Option.some.injEq] at h; subst h; first | rfl | (split <;> rfl))
    | cases h)
theorem rename_one (l : List Nat) : ∀ v u, rename l v = some u → u.cells = [u] := by
 intro v u h
 cases v <;> simp only [rename] at h <;> first
  | (cases h; done)
  | (simp only [Option.some.injEq] at h; subst h; rfl)
theorem dropBox_one (l : List Nat) : ∀ v u, dropBox l v = some u → u.cells = [u] := by
 intro v u h
 cases v <;> simp only [dropBox] at h <;> first
  | (cases h; done)
  | (split at h <;> first
    | (simp only [Option.some.injEq] at h; subst h; rfl)
    | cases h)
def Ctx.settled (Γ : Ctx) (dead : Nat → Bool) : Ctx := { Γ with S := fun k => Γ.S k ∨ ∃ b, Γ.has b ∧ dead b = true ∧ k = Γ.blk b, has := fun b => Γ.has b ∧ dead b = false }
theorem Good.settled {dead : Nat → Bool} (g : Good Γ w) : Good (Γ.settled dead) w := by
 refine ⟨g.os, g.tape, g.output, g.size, g.old, g.new, ?_, fun b hb => g.base b hb.1, fun b b' hb hb' => g.baseInj b b' hb.1 hb'.1, fun k hk => ?_, g.boxInj, fun b k hb hk => g.baseBox b k hb.1 hk, ?_, g.gl, fun b hb => g.bz b hb.1, g.zf, fun b hb m hm => ⟨.inl (g.ns b hb.1 m hm).1, (g.ns b hb.1 m hm).2⟩, fun h => g.h9 h.1⟩
 ·rintro k (h | ⟨b, hb, _, rfl⟩)
  ·exact g.slt k h
  ·exact (g.base b hb).2.1
 ·obtain ⟨h1, h2, h3⟩ := g.box k hk
  refine ⟨h1, ?_, h3⟩
  rintro (h | ⟨b, hb, _, h⟩)
  ·exact h2 h
  ·exact g.baseBox b k hb hk h.symm
 ·rintro k (h | ⟨b, hb, _, rfl⟩)
  ·exact g.sr k h
  ·exact .inr (g.base b hb).1
theorem Sq_settled {dead : Nat → Bool} {q : Q} {k : Nat} (h : Γ.Sq q k) : (Γ.settled dead).Sq q k := by
 cases q with
 | any => exact .inl h
 | flat => exact ⟨.inl h.1, h.2⟩
 | clean => exact ⟨.inl h.1, h.2⟩
theorem leaf_settle {dead : Nat → Bool} (g : Good Γ w) : LeafOk Γ (Γ.settled dead) w w (settle dead) := by
 have rr : ∀ {q : Q} {s k o : Nat} {xs : List V}, Rows w (Γ.Sq q) s xs k o → Rows w ((Γ.settled dead).Sq q) s xs k o := fun h => h.mono (fun _ => Sq_settled) (fun _ _ _ => rfl) (fun _ _ _ => rfl)
 have rs : ∀ {q : Q} {s k o : Nat} {xs : List V}, Rows w (Γ.Sq q) s xs k o → Rows w (Γ.settled dead).S s xs k o := fun h => h.mono (fun k hk => .inl (Sq_le hk)) (fun _ _ _ => rfl) (fun _ _ _ => rfl)
 have uu : ∀ {q : Q} {b s k o : Nat} {xs : List V}, Γ.Uq w q b s xs k o → (Γ.settled dead).Uq w q b s xs k o := fun h => Ctx.Uq.mono (Γ := Γ) (Γ' := Γ.settled dead) (fun h => h) (fun _ h => h) (fun _ h => .inl h) (fun _ _ _ => rfl) (fun _ _ _ => rfl) h
 have rd : ∀ {u : V} {y : Value}, Rd w Γ.S u y → Rd w (Γ.settled dead).S u y := fun h => h.mono (fun k hk => .inl hk) (fun _ _ _ => rfl)
 intro u y hleaf hu
 cases u with
 | undef => exact VR.undef_ _
 | bool b => rw [hu.bool_inv]; exact .rd _ _ (.bool b)
 | int k m => rw [hu.int_inv]; exact .rd _ _ (.int k m)
 | str s => obtain ⟨z, rfl, hz⟩ := hu.str_inv; exact .rd _ _ (.str s z hz)
 | nil => rw [hu.nil_inv]; exact .rd _ _ .nil
 | sl s f xs => exact .rd _ _ (rd hu.sl_inv)
 | iptr z o =>
  cases hu with
  | rd _ _ h => exact .rd _ _ (rd h)
 | ptr d n =>
  obtain ⟨rfl, h⟩ := hu.ptr_inv
  exact .ptr (Γ := Γ.settled dead) d n h
 | agg _ => cases hleaf
 | tup _ => cases hleaf
 | clo _ _ => cases hleaf
 | own b s q xs =>
  simp only [settle]
  split
  ·rename_i hdb
   simp only [Option.getD_some]
   rcases hu.own_inv with ⟨rfl, rfl, h3⟩ | ⟨rfl, h1, h2, h3, h4, h5⟩
   ·exact .rd _ _ (.empty _ _ _ _)
   ·exact .rd _ _ (Rd.sl_of (rs h4) h5 h3.1 (.inr ⟨b, h1, hdb, rfl⟩))
  ·rename_i hdb
   simp only [Option.getD_none]
   have huq := hu.own_uq
   rcases hu.own_inv with ⟨rfl, rfl, h3⟩ | ⟨rfl, h1, h2, h3, h4, h5⟩
   ·exact .ownNil _ _ _ (fun h => h3 h.1)
   ·exact .own (Γ := Γ.settled dead) b s q xs ⟨h1, by simpa using hdb⟩ h2 h3 (rr h4) h5 (uu huq)
 | view b s q xs =>
  simp only [settle]
  split
  ·rename_i hdb
   simp only [Option.getD_some]
   rcases hu.view_inv with ⟨ad, cap, rfl, rfl⟩ | ⟨o, cap, rfl, h1, hx, h3, hfit, h4, h5⟩
   ·exact .rd _ _ (.empty _ _ _ _)
   ·exact .rd _ _ (Rd.sl_of (rs h4) h5 h3 (.inr ⟨b, h1, hdb, rfl⟩))
  ·rename_i hdb
   simp only [Option.getD_none]
   have hu0 := hu
   rcases hu.view_inv with ⟨ad, cap, rfl, rfl⟩ | ⟨o, cap, rfl, h1, hx, h3, hfit, h4, h5⟩
   ·exact .view0 _ _ _ _ _
   ·exact .view (Γ := Γ.settled dead) b s q xs o cap ⟨h1, by simpa using hdb⟩ hx h3 hfit (rr h4) h5 (uu hu0.view_uq)
 | eptr b s q xs i o =>
  have huq := hu.eptr_uq
  obtain ⟨rfl, h1, h2, h3, h4, h5, h6⟩ := hu.eptr_inv
  simp only [settle]
  split
  ·rename_i hdb
   simp only [Option.getD_some]
   split
   ·rename_i z hz
    obtain ⟨r1, gg, r2, r3⟩ := h5
    refine .rd _ _ (.iptr z (Γ.blk b) (Γ.off b + i * s) o (gg i) (.inr ⟨b, h1, hdb, rfl⟩) (fun j hj => (r2 i j h4 (by rw [← r1 z (mem_of_get hz)]; exact hj)).1) (fun j u hu => ?_))
    exact (r3 i z j u hz hu).mono (fun k hk => .inl (Sq_le hk)) (fun _ _ _ => rfl)
   ·exact VR.undef_ _
  ·rename_i hdb
   simp only [Option.getD_none]
   exact .eptr (Γ := Γ.settled dead) b s q xs i o ⟨h1, by simpa using hdb⟩ h2 h3 h4 (rr h5) h6 (uu huq)
 | vptr b z o =>
  obtain ⟨o', gg, rfl, h1, h2, h3⟩ := hu.vptr_inv
  simp only [settle]
  split
  ·rename_i hdb
   simp only [Option.getD_some]
   exact .rd _ _ (.iptr z (Γ.blk b) o' o gg (.inr ⟨b, h1, hdb, rfl⟩) h2 (fun j u hu => rd (h3 j u hu)))
  ·rename_i hdb
   simp only [Option.getD_none]
   exact .vptr (Γ := Γ.settled dead) b z o' o gg ⟨h1, by simpa using hdb⟩ h2 (fun j u hu => rd (h3 j u hu))
def Ctx.renamed (Γ : Ctx) (l : List Nat) : Ctx := { Γ with has := fun b' => ∃ i b, b' = canonBase i ∧ l[i]? = some b ∧ l.idxOf b = i ∧ Γ.has b, blk := fun b' => Γ.blk (l.getD (b' - 1000000) 0),
                                                           off := fun b' => Γ.off (l.getD (b' - 1000000) 0), cap := fun b' => Γ.cap (l.getD (b' - 1000000) 0), sz := fun b' => Γ.sz (l.getD (b' - 1000000) 0), ln := fun b' => Γ.ln (l.getD (b' - 1000000) 0), N := fun b' => Γ.N (l.getD (b' - 1000000) 0) }
theorem renamed_at {l : List Nat} {i b : Nat} (h : l[i]? = some b) : l.getD (canonBase i - 1000000) 0 = b := by
 unfold canonBase
 rw [show 1000000 + i - 1000000 = i by omega, List.getD_eq_getElem?_getD, h]
 rfl
theorem renamed_has {l : List Nat} {b : Nat} (hb : b ∈ l) : (Γ.renamed l).has (canonBase (l.idxOf b)) ↔ Γ.has b := by
 have hi : l[l.idxOf b]? = some b := by
  rw [List.getElem?_eq_getElem (List.idxOf_lt_length_of_mem hb), List.getElem_idxOf]
 constructor
 ·rintro ⟨i, b', h1, h2, h3, h4⟩
  have : i = l.idxOf b := by unfold canonBase at h1; omega
  subst this
  rw [hi] at h2
  injection h2 with h2
  rw [h2]; exact h4
 ·intro h
  exact ⟨_, b, rfl, hi, rfl, h⟩
theorem Good.renamed {l : List Nat} (g : Good Γ w) : Good (Γ.renamed l) w := by
 refine ⟨g.os, g.tape, g.output, g.size, g.old, g.new, g.slt, ?_, ?_, g.box, g.boxInj, ?_, g.sr, g.gl, ?_, g.zf, ?_, fun ⟨i, b, h, _⟩ => by unfold canonBase at h; omega⟩
 ·rintro _ ⟨i, b, rfl, h1, _, h2⟩
  show Γ.F (Γ.blk (l.getD _ 0)) ∧ Γ.blk (l.getD _ 0) < _ ∧ Γ.cap (l.getD _ 0) ≤ _ ∧ ∃ cur e, w.heap[Γ.blk (l.getD _ 0)]? = _ ∧ Γ.off (l.getD _ 0) + Γ.cap (l.getD _ 0) * Γ.sz (l.getD _ 0) ≤ _
  rw [renamed_at h1]
  exact g.base b h2
 ·rintro _ _ ⟨i, b, rfl, h1, h2, h3⟩ ⟨i', b', rfl, h1', h2', h3'⟩ he
  change Γ.blk (l.getD _ 0) = Γ.blk (l.getD _ 0) at he
  rw [renamed_at h1, renamed_at h1'] at he
  have := g.baseInj b b' h3 h3' he
  subst this
  rw [← h2, ← h2']
 ·rintro _ k ⟨i, b, rfl, h1, _, h2⟩ hk
  show Γ.blk (l.getD _ 0) ≠ _
  rw [renamed_at h1]
  exact g.baseBox b k h2 hk
 ·rintro _ ⟨i, b, rfl, h1, _, h2⟩
  show Γ.Z (Γ.blk (l.getD _ 0))
  rw [renamed_at h1]
  exact g.bz b h2
 ·rintro _ ⟨i, b, rfl, h1, _, h2⟩ m hm
  change Γ.N (l.getD _ 0) m at hm
  rw [renamed_at h1] at hm
  exact g.ns b h2 m hm
theorem idx_at {l : List Nat} {b : Nat} (hb : b ∈ l) : l.getD (canonBase (l.idxOf b) - 1000000) 0 = b :=
 renamed_at (by rw [List.getElem?_eq_getElem (List.idxOf_lt_length_of_mem hb), List.getElem_idxOf])
theorem leaf_rename {l : List Nat} : ∀ v x, (match v with
   | .agg _ => False
   | .tup _ => False
   | .clo _ _ => False
   | _ => True) → (∀ b, v.anyB (fun b' => b' == b) = true → b ∈ l) → VR Γ w v x → VR (Γ.renamed l) w ((rename l v).getD v) x := by
 intro u y hleaf hc hu
 have e1 : ∀ {b : Nat}, b ∈ l → (Γ.renamed l).blk (canonBase (l.idxOf b)) = Γ.blk b := fun {b} hb => by show Γ.blk (l.getD _ 0) = _; rw [idx_at hb]
 have e2 : ∀ {b : Nat}, b ∈ l → (Γ.renamed l).off (canonBase (l.idxOf b)) = Γ.off b := fun {b} hb => by show Γ.off (l.getD _ 0) = _; rw [idx_at hb]
 have e3 : ∀ {b : Nat}, b ∈ l → (Γ.renamed l).cap (canonBase (l.idxOf b)) = Γ.cap b := fun {b} hb => by show Γ.cap (l.getD _ 0) = _; rw [idx_at hb]
 have e4 : ∀ {b : Nat}, b ∈ l → (Γ.renamed l).sz (canonBase (l.idxOf b)) = Γ.sz b := fun {b} hb => by show Γ.sz (l.getD _ 0) = _; rw [idx_at hb]
 have e5 : ∀ {b : Nat}, b ∈ l → (Γ.renamed l).ln (canonBase (l.idxOf b)) = Γ.ln b := fun {b} hb => by show Γ.ln (l.getD _ 0) = _; rw [idx_at hb]
 have e6 : ∀ {b : Nat}, b ∈ l → (Γ.renamed l).N (canonBase (l.idxOf b)) = Γ.N b := fun {b} hb => by show Γ.N (l.getD _ 0) = _; rw [idx_at hb]
 have uu : ∀ {q : Q} {b s k o : Nat} {xs : List V}, b ∈ l → Γ.Uq w q b s xs k o → (Γ.renamed l).Uq w q (canonBase (l.idxOf b)) s xs k o := fun hb h hq hU => (h hq hU).mono (fun m hm => ⟨by rw [e6 hb]; exact hm.1, hm.2⟩) (fun _ _ _ => rfl) (fun _ _ _ => rfl)
 have sq : ∀ q k, Γ.Sq q k → (Γ.renamed l).Sq q k := fun q k h => by cases q <;> exact h
 have rr : ∀ {q : Q} {s k o : Nat} {xs : List V}, Rows w (Γ.Sq q) s xs k o → Rows w ((Γ.renamed l).Sq q) s xs k o := fun h => h.mono (sq _) (fun _ _ _ => rfl) (fun _ _ _ => rfl)
 cases u with
 | undef => exact VR.undef_ _
 | bool b => rw [hu.bool_inv]; exact .rd _ _ (.bool b)
 | int k m => rw [hu.int_inv]; exact .rd _ _ (.int k m)
 | str s => obtain ⟨z, rfl, hz⟩ := hu.str_inv; exact .rd _ _ (.str s z hz)
 | nil => rw [hu.nil_inv]; exact .rd _ _ .nil
 | sl s f xs => exact .rd _ _ hu.sl_inv
 | iptr z o =>
  cases hu with
  | rd _ _ h => exact .rd _ _ h
 | ptr d n =>
  obtain ⟨rfl, h⟩ := hu.ptr_inv
  exact .ptr (Γ := Γ.renamed l) d n h
 | agg _ => cases hleaf
 | tup _ => cases hleaf
 | clo _ _ => cases hleaf
 | own b s q xs =>
  have hb := hc b (by simp [V.anyB])
  simp only [rename, Option.getD_some]
  have huq := hu.own_uq
  rcases hu.own_inv with ⟨rfl, rfl, h3⟩ | ⟨rfl, h1, h2, h3, h4, h5⟩
  ·exact .ownNil _ _ _ (fun h => h3 ((renamed_has hb).1 h))
  ·have := VR.own (Γ := Γ.renamed l) (w := w) (canonBase (l.idxOf b)) s q xs ((renamed_has hb).2 h1) (by rw [e4 hb]; exact h2) (by rw [e3 hb, e5 hb]; exact h3) (by rw [e1 hb, e2 hb]; exact rr h4) h5 (by rw [e1 hb, e2 hb]; exact uu hb huq)
   rwa [e1 hb, e2 hb, e3 hb] at this
 | view b s q xs =>
  have hb := hc b (by simp [V.anyB])
  simp only [rename, Option.getD_some]
  have hu0 := hu
  rcases hu.view_inv with ⟨ad, cap, rfl, rfl⟩ | ⟨o, cap, rfl, h1, hx, h3, hfit, h4, h5⟩
  ·exact .view0 _ _ _ _ _
  ·have := VR.view (Γ := Γ.renamed l) (w := w) (canonBase (l.idxOf b)) s q xs o cap ((renamed_has hb).2 h1) hx h3 (by rw [e2 hb, e3 hb, e4 hb]; exact hfit) (by rw [e1 hb]; exact rr h4) h5 (by rw [e1 hb]; exact uu hb hu0.view_uq)
   rwa [e1 hb] at this
 | eptr b s q xs i o =>
  have hb := hc b (by simp [V.anyB])
  have huq := hu.eptr_uq
  obtain ⟨rfl, h1, h2, h3, h4, h5, h6⟩ := hu.eptr_inv
  have := VR.eptr (Γ := Γ.renamed l) (w := w) (canonBase (l.idxOf b)) s q xs i o ((renamed_has hb).2 h1) (by rw [e4 hb]; exact h2) (by rw [e3 hb, e5 hb]; exact h3) h4 (by rw [e1 hb, e2 hb]; exact rr h5) h6 (by rw [e1 hb, e2 hb]; exact uu hb huq)
  rwa [e1 hb, e2 hb] at this
 | vptr b z o =>
  have hb := hc b (by simp [V.anyB])
  obtain ⟨o', gg, rfl, h1, h2, h3⟩ := hu.vptr_inv
  have := VR.vptr (Γ := Γ.renamed l) (w := w) (canonBase (l.idxOf b)) z o' o gg ((renamed_has hb).2 h1) (by rw [e1 hb]; exact h2) h3
  rwa [e1 hb] at this
theorem baseso_mem (b : Nat) : ∀ (hs : List (Option V)) (l : List Nat), (b ∈ l ∨ ∃ u, some u ∈ hs ∧ u.anyB (fun b' => b' == b) = true) → b ∈ baseso l hs := by
 intro hs
 induction hs with
 | nil =>
  rintro l (h | ⟨u, hu, _⟩)
  ·exact h
  ·cases hu
 | cons x hs ih =>
  intro l h
  cases x with
  | none =>
   refine ih l (h.imp id ?_)
   rintro ⟨u, hu, hb⟩
   exact ⟨u, (List.mem_cons.1 hu).resolve_left (by simp), hb⟩
  | some y =>
   refine ih _ ?_
   rcases h with h | ⟨u, hu, hb⟩
   ·exact .inl (bases_mem b y l (.inl h))
   ·rcases List.mem_cons.1 hu with e | hu
    ·injection e with e
     subst e
     exact .inl (bases_mem b u l (.inr hb))
    ·exact .inr ⟨u, hu, hb⟩
theorem Sim.canon (hs : Sim Γ st a w) (hd : ∀ b, Γ.has b → ¬ Γ.S (Γ.blk b)) (hnd : Γ.U → ∀ b b', Γ.has b → Γ.has b' → b ≠ b' → ∀ m, Γ.N b m → Γ.N b' m → False) : Sim (Γ.renamed (baseso (V.basess [] st.t) st.h)) st.canon a w := by
 have e : st.canon = { st.sweep (rename (baseso (V.basess [] st.t) st.h)) with dead := fun _ => false, dup := st.dup } := rfl
 rw [e]
 refine Sim.sweepC (f := rename (baseso (V.basess [] st.t) st.h)) (fun v => ∀ b, v.anyB (fun b' => b' == b) = true → b ∈ baseso (V.basess [] st.t) st.h) (fun cs h u hu b hb => h b (anyBs_any hu hb)) (fun cs h u hu b hb => h b (anyBs_any hu hb)) (fun _ cs h u hu b hb => h b (anyBs_any hu hb))
  hs (fun u hu b hb => baseso_mem b _ _ (.inl (bases_mem b (.agg st.t) [] (.inr (anyBs_any hu hb))))) (fun u hu b hb => baseso_mem b _ _ (.inr ⟨u, hu, hb⟩)) leaf_rename (rename_one _) hs.good.renamed (fun _ h => h) (fun _ => rfl) (fun _ _ => rfl) ?_ hs.du ?_
 ·rintro _ ⟨i, b, rfl, h1, _, h2⟩ _
  show ¬ Γ.S (Γ.blk (List.getD _ _ 0))
  rw [renamed_at h1]
  exact hd b h2
 ·rintro hU _ _ ⟨i, b, rfl, h1, k1, h2⟩ ⟨i', b', rfl, h1', k1', h2'⟩ _ _ hne m hm hm'
  change Γ.N (List.getD _ _ 0) m at hm hm'
  rw [renamed_at h1] at hm
  rw [renamed_at h1'] at hm'
  exact hnd hU b b' h2 h2' (fun e => hne (by rw [← k1, ← k1', e])) m hm hm'
theorem ownIn_ok {i s j : Nat} {q : Q} {v : V} {x : Value} (hi : ¬ Γ.has i) (h : VR Γ w v x) : VR Γ w (ownIn i s q j v) x := by
 cases v with
 | agg cs =>
  simp only [ownIn]
  split
  ·rename_i hj
   obtain ⟨vs, rfl, h1, h2⟩ := h.agg_inv
   refine .agg _ vs (by rw [List.length_set]; exact h1) (fun k c y e1 e2 => ?_)
   rw [List.getElem?_set] at e1
   split at e1
   ·rename_i hjk
    subst hjk
    split at e1
    ·injection e1 with e1
     subst e1
     have := h2 j _ y hj e2
     rw [this.nil_inv]
     exact .ownNil _ _ _ hi
    ·cases e1
   ·exact h2 k c y e1 e2
  ·exact h
 | nil =>
  rw [h.nil_inv]
  exact .ownNil _ _ _ hi
 | _ => exact h
theorem ownIn_cells {i s j : Nat} {q : Q} {v : V} : (ownIn i s q j v).cells.length = v.cells.length := by
 cases v <;> simp only [ownIn] <;> first | rfl | (split <;> simp [V.cells])
theorem ownIn_get {i s j k : Nat} {q : Q} {v c : V} (h : (ownIn i s q j v).cells[k]? = some c) : ∃ u, v.cells[k]? = some u ∧ (c = u ∨ (u = .nil ∧ c = .own i s q [])) := by
 cases v with
 | agg cs =>
  simp only [ownIn] at h
  split at h
  ·rename_i hj
   simp only [V.cells] at h ⊢
   rw [List.getElem?_set] at h
   split at h
   ·rename_i hjk
    subst hjk
    split at h
    ·injection h with h
     exact ⟨.nil, hj, .inr ⟨rfl, h.symm⟩⟩
    ·cases h
   ·exact ⟨c, h, .inl rfl⟩
  ·exact ⟨c, h, .inl rfl⟩
 | nil =>
  cases k with
  | zero =>
   simp only [ownIn, V.cells, List.getElem?_cons_zero, Option.some.injEq] at h
   exact ⟨.nil, rfl, .inr ⟨rfl, h.symm⟩⟩
  | succ k => simp [ownIn, V.cells] at h
 | _ => exact ⟨c, h, .inl rfl⟩
theorem Sim.own1 (hs : Sim Γ st a w) {i n : Nat} (hi : ¬ Γ.has i) : Sim Γ (st.own1 i n) a w := by
 unfold St.own1
 split
 ·refine ⟨hs.good, hs.dz, by simp [hs.len], fun k v h => ?_, hs.bx, hs.nds, hs.du, hs.nd⟩
  simp only at h
  rw [List.getElem?_set] at h
  split at h
  ·rename_i hk
   subst hk
   split at h
   ·rename_i hlt
    injection h with h
    subst h
    have hg : st.t[n / 2000000 % 1000]? = some (st.t.getD (n / 2000000 % 1000) .undef) := by
     rw [List.getD_eq_getElem?_getD, List.getElem?_eq_getElem hlt]; rfl
    obtain ⟨x, h1, h2⟩ := hs.tm _ _ hg
    exact ⟨x, h1, ownIn_ok hi h2⟩
   ·cases h
  ·exact hs.tm k v h
 ·split
  ·rename_i r hr
   refine ⟨hs.good, hs.dz, hs.len, hs.tm, fun k v h => ?_, hs.nds, hs.du, hs.nd⟩
   simp only at h
   rw [List.getElem?_set] at h
   split at h
   ·rename_i hk
    subst hk
    split at h
    ·injection h with h
     injection h with h
     subst h
     have hr' : st.h[n / 2000000 % 1000]? = some (some r) := by
      rw [List.getD_eq_getElem?_getD] at hr
      cases h : st.h[n / 2000000 % 1000]? with
      | none => rw [h] at hr; cases hr
      | some y => rw [h] at hr; exact congrArg _ hr
     obtain ⟨h1, cur, e, h2, h3, h4⟩ := hs.bx _ r hr'
     refine ⟨h1, cur, e, h2, by rw [ownIn_cells]; exact h3, fun k c hc => ?_⟩
     obtain ⟨u, hu, hor⟩ := ownIn_get hc
     obtain ⟨x, e1, e2⟩ := h4 k u hu
     refine ⟨x, e1, ?_⟩
     rcases hor with rfl | ⟨rfl, rfl⟩
     ·exact e2
     ·rw [e2.nil_inv]; exact .ownNil _ _ _ hi
    ·cases h
   ·exact hs.bx k v h
  ·exact hs
theorem Sim.owns : ∀ (ns : List Nat) (i : Nat) (st : St), (∀ j, j < 999 → ¬ Γ.has j) → Sim Γ st a w → Sim Γ (St.owns ns i st) a w := by
 intro ns
 induction ns with
 | nil => intro i st _ h; exact h
 | cons n ns ih =>
  intro i st hi hs
  refine ih (i + 1) _ hi ?_
  split
  ·rename_i h9
   exact hs.own1 (hi i h9)
  ·exact hs
theorem Sim.head0 (hs : Sim Γ st a w) (fs : List Nat × List Nat) : Sims Γ (st.head0 fs) a w := by
 have h1 : Sim Γ ({ st with t := forget fs.1 0 st.t } : St) a w := by
  refine ⟨hs.good, hs.dz, by rw [forget_len]; exact hs.len, fun i v h => ?_, hs.bx, hs.nds, hs.du, hs.nd⟩
  simp only [forget_get] at h
  cases hc : st.t[i]? with
  | none => rw [hc] at h; cases h
  | some u =>
   rw [hc] at h
   simp only [Option.map_some, Option.some.injEq] at h
   obtain ⟨x, e1, e2⟩ := hs.tm i u hc
   refine ⟨x, e1, ?_⟩
   split at h
   ·subst h; exact VR.undef_ _
   ·subst h; exact e2
 have h2 : Sim Γ (({ st with t := forget fs.1 0 st.t } : St).sweep (dropBox fs.2)) a w := by
  have := Sim.sweep (f := dropBox fs.2) (dead := st.dead) (Γ' := Γ) (w' := w) h1 (fun u y hleaf hu => ?_) (dropBox_one _) hs.good (fun _ h => h) (fun _ => rfl) (fun _ _ => rfl) hs.nds hs.du hs.nd
  ·exact this
  ·cases u with
   | ptr d n =>
    simp only [dropBox]
    split
    ·exact VR.undef_ _
    ·exact hu
   | agg _ => cases hleaf
   | tup _ => cases hleaf
   | clo _ _ => cases hleaf
   | _ => exact hu
 have h3 : Sim Γ ({ ({ st with t := forget fs.1 0 st.t } : St).sweep (dropBox fs.2) with h := dropH fs.2 0 (({ st with t := forget fs.1 0 st.t } : St).sweep (dropBox fs.2)).h } : St) a w :=
  ⟨h2.good, h2.dz, h2.len, h2.tm, fun k v h => h2.bx k v (dropH_get _ _ _ _ _ h), h2.nds, h2.du, h2.nd⟩
 have h4 := Sim.sweep (f := settle st.dead) (dead := st.dead) (Γ' := Γ.settled st.dead) (w' := w) h3 (leaf_settle hs.good) (settle_one _) hs.good.settled (fun _ h => h) (fun _ => rfl) (fun _ _ => rfl) (fun b hb _ => ?_) hs.du (fun hU b b' hb hb' _ _ hne m => hs.nd hU b b' hb.1 hb'.1 hb.2 hb'.2 hne m)
 ·have h5 := h4.canon (fun b hb => by
   rintro (h | ⟨b', hb', hdd, h⟩)
   ·exact hs.nds b hb.1 hb.2 h
   ·have := hs.good.baseInj b b' hb.1 hb' h
    subst this
    rw [hb.2] at hdd
    cases hdd) (fun hU b b' hb hb' hne m => hs.nd hU b b' hb.1 hb'.1 hb.2 hb'.2 hne m)
  show Sims Γ (match nilCodes fs.2 with
   | [] => _
   | ns => _) a w
  split
  ·exact ⟨(Γ.settled st.dead).renamed _, ⟨rfl, rfl, rfl⟩, h5⟩
  ·have h9 : ∀ (l : List Nat) (j : Nat), j < 999 → ¬ ((Γ.settled st.dead).renamed l).has j := fun l j hj ⟨i, b, e, _⟩ => by unfold canonBase at e; omega
   have h6 := Sim.owns (nilCodes fs.2) 0 _ (h9 _) h5
   have h7 := h6.canon (fun b hb => h5.nds b hb rfl) (fun hU b b' hb hb' hne m => h5.nd hU b b' hb hb' rfl rfl hne m)
   exact ⟨((Γ.settled st.dead).renamed _).renamed _, ⟨rfl, rfl, rfl⟩, h7⟩
 ·rintro (h | ⟨b', hb', hdd, h⟩)
  ·exact hs.nds b hb.1 hb.2 h
  ·have := hs.good.baseInj b b' hb.1 hb' h
   subst this
   rw [hb.2] at hdd
   cases hdd
def Ctx.coarse (Γ : Ctx) (dup : Bool) : Ctx := { Γ with U := True, N := fun b m => dup = false ∧ Γ.N b m }
theorem leaf_coarse {dup : Bool} (hU : dup = false → Γ.U) : LeafOk Γ (Γ.coarse dup) w w (coarse dup) := by
 have rr : ∀ {q : Q} {s k o : Nat} {xs : List V}, Rows w (Γ.Sq q) s xs k o → Rows w ((Γ.coarse dup).Sq q) s xs k o := fun {q} _ _ _ _ h => h.mono (fun k hk => by cases q <;> exact hk) (fun _ _ _ => rfl) (fun _ _ _ => rfl)
 have ra : ∀ {q : Q} {s k o : Nat} {xs : List V}, Rows w (Γ.Sq q) s xs k o → Rows w ((Γ.coarse dup).Sq .any) s xs k o := fun h => h.mono (fun k hk => Sq_le hk) (fun _ _ _ => rfl) (fun _ _ _ => rfl)
 have uu : ∀ {q : Q} {b s k o : Nat} {xs : List V}, Γ.Uq w q b s xs k o → (q = .clean → dup = false) → (Γ.coarse dup).Uq w q b s xs k o := fun h hd hq _ => (h hq (hU (hd hq))).mono (fun m hm => ⟨⟨hd hq, hm.1⟩, hm.2⟩) (fun _ _ _ => rfl) (fun _ _ _ => rfl)
 have ua : ∀ {b s k o : Nat} {xs : List V}, (Γ.coarse dup).Uq w .any b s xs k o := fun hq => by cases hq
 intro u y hleaf hu
 cases u with
 | undef => exact VR.undef_ _
 | bool b => rw [hu.bool_inv]; exact .rd _ _ (.bool b)
 | int k m => rw [hu.int_inv]; exact .rd _ _ (.int k m)
 | str s => obtain ⟨z, rfl, hz⟩ := hu.str_inv; exact .rd _ _ (.str s z hz)
 | nil => rw [hu.nil_inv]; exact .rd _ _ .nil
 | sl s f xs => exact .rd _ _ hu.sl_inv
 | iptr z o =>
  cases hu with
  | rd _ _ h => exact .rd _ _ h
 | ptr d n =>
  obtain ⟨rfl, h⟩ := hu.ptr_inv
  exact .ptr (Γ := Γ.coarse dup) d n h
 | agg _ => cases hleaf
 | tup _ => cases hleaf
 | clo _ _ => cases hleaf
 | own b s q xs =>
  have huq := hu.own_uq
  have keep : (q = .clean → dup = false) → VR (Γ.coarse dup) w (.own b s q xs) y := fun hd => by
   rcases hu.own_inv with ⟨rfl, rfl, h3⟩ | ⟨rfl, h1, h2, h3, h4, h5⟩
   ·exact .ownNil _ _ _ h3
   ·exact .own (Γ := Γ.coarse dup) b s q xs h1 h2 h3 (rr h4) h5 (uu huq hd)
  cases q with
  | flat => exact keep (fun e => by cases e)
  | any => exact keep (fun e => by cases e)
  | clean =>
   simp only [coarse]
   split
   ·simp only [Option.getD_some]
    rcases hu.own_inv with ⟨rfl, rfl, h3⟩ | ⟨rfl, h1, h2, h3, h4, h5⟩
    ·exact .ownNil _ _ _ h3
    ·exact .own (Γ := Γ.coarse dup) b s .any xs h1 h2 h3 (ra h4) (fun e => by cases e) ua
   ·rename_i hd
    exact keep (fun _ => by simpa using hd)
 | view b s q xs =>
  have hu0 := hu
  have keep : (q = .clean → dup = false) → VR (Γ.coarse dup) w (.view b s q xs) y := fun hd => by
   rcases hu.view_inv with ⟨ad, cap, rfl, rfl⟩ | ⟨o, cap, rfl, h1, hx, h3, hfit, h4, h5⟩
   ·exact .view0 _ _ _ _ _
   ·exact .view (Γ := Γ.coarse dup) b s q xs o cap h1 hx h3 hfit (rr h4) h5 (uu hu0.view_uq hd)
  cases q with
  | flat => exact keep (fun e => by cases e)
  | any => exact keep (fun e => by cases e)
  | clean =>
   simp only [coarse]
   split
   ·simp only [Option.getD_some]
    rcases hu.view_inv with ⟨ad, cap, rfl, rfl⟩ | ⟨o, cap, rfl, h1, hx, h3, hfit, h4, h5⟩
    ·exact .view0 _ _ _ _ _
    ·exact .view (Γ := Γ.coarse dup) b s .any xs o cap h1 hx h3 hfit (ra h4) (fun e => by cases e) ua
   ·rename_i hd
    exact keep (fun _ => by simpa using hd)
 | eptr b s q xs i o =>
  simp only [coarse]
  split
  ·exact VR.undef_ _
  ·rename_i hd
   have huq := hu.eptr_uq
   obtain ⟨rfl, h1, h2, h3, h4, h5, h6⟩ := hu.eptr_inv
   exact .eptr (Γ := Γ.coarse dup) b s q xs i o h1 h2 h3 h4 (rr h5) h6 (uu huq (fun _ => by simpa using hd))
 | vptr b z o =>
  obtain ⟨o', gg, rfl, h1, h2, h3⟩ := hu.vptr_inv
  exact .vptr (Γ := Γ.coarse dup) b z o' o gg h1 h2 h3
theorem Good.coarse {dup : Bool} (g : Good Γ w) : Good (Γ.coarse dup) w :=
 ⟨g.os, g.tape, g.output, g.size, g.old, g.new, g.slt, g.base, g.baseInj, g.box, g.boxInj, g.baseBox, g.sr, g.gl, g.bz, g.zf, fun b hb m hm => g.ns b hb m hm.2, g.h9⟩
theorem coarse_one (dup : Bool) : ∀ v u, coarse dup v = some u → u.cells = [u] := by
 intro v u h
 unfold coarse at h
 split at h <;> first
  | (cases h; done)
  | (split at h <;> first
    | (simp only [Option.some.injEq] at h; subst h; rfl)
    | cases h)
theorem Sim.calm (hs : Sim Γ st a w) : Sims Γ st.calm a w := by
 unfold St.calm
 split
 ·rename_i hd
  refine ⟨Γ.coarse true, ⟨rfl, rfl, rfl⟩, ?_⟩
  exact Sim.sweep (f := Go.Am.coarse true) (dead := st.dead) (dup := false) hs (leaf_coarse (fun e => by cases e)) (coarse_one true) hs.good.coarse (fun _ h => h) (fun _ => rfl) (fun _ _ => rfl) hs.nds (fun _ => trivial) (fun _ b b' _ _ _ _ _ m hm => by cases hm.1)
 ·exact ⟨Γ, Same.rfl', hs⟩
theorem Sim.head (hs : Sim Γ st a w) (fs : List Nat × List Nat) : Sims Γ (st.head fs) a w :=
 let ⟨_, h1, h2⟩ := hs.calm
 Sims.of h1 (h2.head0 fs)
end
end Go.Am
end

/-
  Code, a function's body, the answers: what the machine answers is what the program answers.
-/
import Derived.Test.YtgfiinkdogbelaaGreatDoorwAmWr
section
set_option linter.unusedVariables false
set_option linter.unusedSimpArgs false
namespace Go.Am
open Go Go.RowKit
section
variable {P : Program} {c : Cfg} {J J' : Ctx} {st : St} {a : Act} {w w' : World} {den : Nat -> List V -> Option V} {η : Nat -> Option V} {d : Nat}
theorem wanted_ok {ops : Array Oper} (hs : Sim J st a w) {o : Oper} {b : Bool} (h : wanted ops st.t o = some b) : Region.wanted o (yielded ops a.tmps) = b := by
 unfold wanted at h
 unfold Region.wanted
 split at h
 ·rename_i hg
  simp only [sj_] at h
  subst h
  simp [hg]
 ·rename_i j want hg
  simp only [hg]
  split at h
  ·rename_i d hd
   have hv : VR J w (st.t.getD d .undef) (a.tmps.getD d undef) := by simpa [Am.ev, Act.eval] using hs.ev (.tmp d)
   unfold yielded
   rw [hd]
   split at h
   ·rename_i b' hb
    simp only [sj_] at h
    rw [hb] at hv
    have := hv.bool_inv
    cases ht : a.tmps[d]? with
    | none => simp [Array.getD_eq_getD_getElem?, ht] at this; cases this
    | some x =>
     simp [Array.getD_eq_getD_getElem?, ht] at this
     subst this
     simp [ht, <- h]
   ·rename_i hb
    simp only [sj_] at h
    rw [hb] at hv
    obtain ⟨vs, e, _⟩ := hv.tup_inv
    cases ht : a.tmps[d]? with
    | none => simp [ht, <- h]
    | some x =>
     simp [Array.getD_eq_getD_getElem?, ht] at e
     subst e
     simp [ht, <- h]
   ·cases h
  ·rename_i hd
   simp only [sj_] at h
   simp [yielded, hd, <- h]
theorem skip_ok (hs : Sim J st a w) (d : Nat) : Sim J { st with t := st.t.set d skipped } (a.put (some d) undef) w :=
 hs.put (v := skipped) (x := undef) (.tup [] #[] rfl (fun i c v h => by simp at h))
theorem sound_stepW (hA : Agree P c) (hW : WrOk P c) (hD : Answers P den) (hs : Sim J st a w) {o : Oper} {st' : St} (h : stepW c den st o = some st')
  (next : Act -> World -> Prop) (Q : Exit -> Act -> World -> Prop) (hn : ∀ a' w', Sims J st' a' w' -> next a' w') : o.wp P a w next Q := by
 unfold stepW at h
 split at h
 ·rename_i g x hg
  exact sound_wr hW hs hg h next Q hn
 ·exact sound_step hA hD hs h next Q hn
theorem sound_runW (hA : Agree P c) (hW : WrOk P c) (hD : Answers P den) {ops : Array Oper} {Q : Exit -> Act -> World -> Prop} : ∀ (l : List Oper) (J : Ctx) (st : St) (a : Act) (w : World) (st' : St), Sim J st a w -> runOpsW c den ops l st = some st' ->
  (∀ a' w', Sims J st' a' w' -> Q .normal a' w') -> wpList P ops Q l a w := by
 intro l
 induction l with
 | nil =>
  intro J st a w st' hs h hQ
  simp only [runOpsW, sj_] at h
  subst h
  exact wpList_nil (hQ a w ⟨J, Same.rfl', hs⟩)
 | cons o l ih =>
  intro J st a w st' hs h hQ
  simp only [runOpsW] at h
  split at h
  ·cases h
  ·rename_i hw
   split at h
   ·rename_i s hst
    refine wpList_step fun K hK => ?_
    rw [if_pos (wanted_ok hs hw)]
    exact sound_stepW hA hW hD hs hst K Q (fun a' w' ⟨J', hsame, hs'⟩ => hK _ _ (ih J' s a' w' st' hs' h (fun a2 w2 h2 => hQ _ _ (Sims.of hsame h2))))
   ·cases h
  ·rename_i hw
   refine wpList_step fun K hK => ?_
   rw [if_neg (by rw [wanted_ok hs hw]; simp)]
   refine hK _ _ ?_
   split at h
   ·rename_i d hd
    rw [hd]
    exact ih J _ _ w st' (skip_ok hs d) h hQ
   ·rename_i hd
    rw [hd]
    exact ih J _ _ w st' hs h hQ
theorem forget_get (ds : List Nat) : ∀ (l : List V) (k i : Nat), (forget ds k l)[i]? = (l[i]?).map fun v => if ds.contains (k + i) then .undef else v := by
 intro l
 induction l with
 | nil => intro k i; rfl
 | cons v l ih =>
  intro k i
  rw [forget]
  cases i with
  | zero => simp
  | succ i =>
   simp only [List.getElem?_cons_succ, ih]
   rw [show k + 1 + i = k + (i + 1) by omega]
theorem forget_len (ds : List Nat) : ∀ (l : List V) (k : Nat), (forget ds k l).length = l.length := by
 intro l
 induction l with
 | nil => intro k; rfl
 | cons v l ih => intro k; rw [forget, List.length_cons, ih, List.length_cons]
theorem dropH_get (ds : List Nat) : ∀ (l : List (Option V)) (k i : Nat) (v : V), (dropH ds k l)[i]? = some (some v) -> l[i]? = some (some v) := by
 intro l
 induction l with
 | nil => intro k i v h; simp [dropH] at h
 | cons x l ih =>
  intro k i v h
  rw [dropH] at h
  cases i with
  | zero =>
   simp only [List.getElem?_cons_zero, sj_] at h ⊢
   split at h
   ·cases h
   ·exact h
  | succ i => exact ih _ _ _ (by simpa using h)
theorem Sim.sweepC {f : V -> Option V} {dead : Nat -> Bool} {dup : Bool} (C : V -> Prop) (hagg : ∀ cs, C (.agg cs) -> ∀ u ∈ cs, C u) (htup : ∀ cs, C (.tup cs) -> ∀ u ∈ cs, C u) (hclo : ∀ g cs, C (.clo g cs) -> ∀ u ∈ cs, C u)
  (hs : Sim J st a w) (hCt : ∀ u ∈ st.t, C u) (hCh : ∀ u, some u ∈ st.h -> C u)
  (hl : ∀ v x, (match v with
   | .agg _ => False
   | .tup _ => False
   | .clo _ _ => False
   | _ => True) -> C v -> VR J w v x -> VR J' w' ((f v).getD v) x) (hf : ∀ v u, f v = some u -> u.cells = [u]) (hg : Good J' w') (hlb : ∀ k, J.lb k -> J'.lb k) (hbox : ∀ k, J'.box k = J.box k)
  (hw : ∀ k, J.lb k -> w'.heap[J.box k]? = w.heap[J.box k]?) (hn : ∀ b, J'.has b -> dead b = false -> ¬ J'.S (J'.blk b))
  (hdu : dup = false -> J'.U) (hnd : J'.U -> ∀ b b', J'.has b -> J'.has b' -> dead b = false -> dead b' = false -> b ≠ b' -> ∀ m, J'.N b m -> J'.N b' m -> False) : Sim J' { st.sweep f with dead := dead, dup := dup } a w' := by
 refine ⟨hg, hs.dz, ?_, fun i v h => ?_, fun k v h => ?_, hn, hdu, hnd⟩
 ·show _ = (V.mapBs f st.t).length
  rw [mapBs_len]; exact hs.len
 ·change (V.mapBs f st.t)[i]? = some v at h
  rw [mapBs_get] at h
  cases hc : st.t[i]? with
  | none => rw [hc] at h; cases h
  | some u =>
   rw [hc] at h
   simp only [Option.map_some, sj_] at h
   subst h
   obtain ⟨x, h1, h2⟩ := hs.tm i u hc
   exact ⟨x, h1, VR.sweepC C hagg htup hclo hl u x (hCt u (mem_of_get hc)) h2⟩
 ·change (mapBo f st.h)[k]? = some (some v) at h
  rw [mapBo_get] at h
  cases hc : st.h[k]? with
  | none => rw [hc] at h; cases h
  | some uo =>
   cases uo with
   | none => rw [hc] at h; cases h
   | some u =>
    rw [hc] at h
    simp only [Option.map_some, sj_] at h
    subst h
    obtain ⟨h1, cur, e, h2, h3, h4⟩ := hs.bx k u hc
    have hCu := hCh u (mem_of_get hc)
    refine ⟨hlb k h1, cur, e, by rw [hbox, hw k h1]; exact h2, ?_, fun j z hz => ?_⟩
    ·rw [mapB_cells f hf, mapBs_len]; exact h3
    ·rw [mapB_cells f hf, mapBs_get] at hz
     cases hu : u.cells[j]? with
     | none => rw [hu] at hz; cases hz
     | some y =>
      rw [hu] at hz
      simp only [Option.map_some, sj_] at hz
      subst hz
      obtain ⟨x, e1, e2⟩ := h4 j y hu
      refine ⟨x, e1, VR.sweepC C hagg htup hclo hl y x ?_ e2⟩
      cases u with
      | agg cs => exact hagg cs hCu y (mem_of_get hu)
      | _ =>
       obtain rfl : j = 0 := by
        cases j with
        | zero => rfl
        | succ j => simp [V.cells] at hu
       simp only [V.cells, List.getElem?_cons_zero, sj_] at hu
       subst hu
       exact hCu
theorem settle_one (dead : Nat -> Bool) : ∀ v u, settle dead v = some u -> u.cells = [u] := by
 intro v u h
 cases v <;> simp only [settle] at h <;> first
  | (cases h; done)
  | (split at h <;> first
    | (simp only [sj_] at h; subst h; first | rfl | (split <;> rfl))
    | cases h)
theorem rename_one (l : List Nat) : ∀ v u, rename l v = some u -> u.cells = [u] := by
 intro v u h
 cases v <;> simp only [rename] at h <;> first
  | (cases h; done)
  | (simp only [sj_] at h; subst h; rfl)
theorem dropBox_one (l : List Nat) : ∀ v u, dropBox l v = some u -> u.cells = [u] := by
 intro v u h
 cases v <;> simp only [dropBox] at h <;> first
  | (cases h; done)
  | (split at h <;> first
    | (simp only [sj_] at h; subst h; rfl)
    | cases h)
def Ctx.settled (J : Ctx) (dead : Nat -> Bool) : Ctx := { J with S := fun k => J.S k \/ ∃ b, J.has b /\ dead b = true /\ k = J.blk b, has := fun b => J.has b /\ dead b = false }
theorem Good.settled {dead : Nat -> Bool} (g : Good J w) : Good (J.settled dead) w := by
 refine ⟨g.os, g.tape, g.output, g.size, g.old, g.new, ?_, fun b hb => g.base b hb.1, fun b b' hb hb' => g.baseInj b b' hb.1 hb'.1, fun k hk => ?_, g.boxInj, fun b k hb hk => g.baseBox b k hb.1 hk, ?_, g.gl, fun b hb => g.bz b hb.1, g.zf, fun b hb m hm => ⟨.inl (g.ns b hb.1 m hm).1, (g.ns b hb.1 m hm).2⟩, fun h => g.h9 h.1⟩
 ·rintro k (h | ⟨b, hb, _, rfl⟩)
  ·exact g.slt k h
  ·exact (g.base b hb).2.1
 ·obtain ⟨h1, h2, h3⟩ := g.box k hk
  refine ⟨h1, ?_, h3⟩
  rintro (h | ⟨b, hb, _, h⟩)
  ·exact h2 h
  ·exact g.baseBox b k hb hk h.symm
 ·rintro k (h | ⟨b, hb, _, rfl⟩)
  ·exact g.sr k h
  ·exact .inr (g.base b hb).1
theorem Sq_settled {dead : Nat -> Bool} {q : Q} {k : Nat} (h : J.Sq q k) : (J.settled dead).Sq q k := by
 cases q with
 | any => exact .inl h
 | flat => exact ⟨.inl h.1, h.2⟩
 | clean => exact ⟨.inl h.1, h.2⟩
theorem leaf_settle {dead : Nat -> Bool} (g : Good J w) : LeafOk J (J.settled dead) w w (settle dead) := by
 have rr : ∀ {q : Q} {s k o : Nat} {xs : List V}, Rows w (J.Sq q) s xs k o -> Rows w ((J.settled dead).Sq q) s xs k o := fun h => h.mono (fun _ => Sq_settled) (fun _ _ _ => rfl) (fun _ _ _ => rfl)
 have rs : ∀ {q : Q} {s k o : Nat} {xs : List V}, Rows w (J.Sq q) s xs k o -> Rows w (J.settled dead).S s xs k o := fun h => h.mono (fun k hk => .inl (Sq_le hk)) (fun _ _ _ => rfl) (fun _ _ _ => rfl)
 have uu : ∀ {q : Q} {b s k o : Nat} {xs : List V}, J.Uq w q b s xs k o -> (J.settled dead).Uq w q b s xs k o := fun h => Ctx.Uq.mono (J := J) (J' := J.settled dead) (fun h => h) (fun _ h => h) (fun _ h => .inl h) (fun _ _ _ => rfl) (fun _ _ _ => rfl) h
 have rd : ∀ {u : V} {y : Value}, Rd w J.S u y -> Rd w (J.settled dead).S u y := fun h => h.mono (fun k hk => .inl hk) (fun _ _ _ => rfl)
 intro u y hleaf hu
 cases u with
 | undef => exact VR.undef_ _
 | bool b => rw [hu.bool_inv]; exact .rd _ _ (.bool b)
 | int k m => rw [hu.int_inv]; exact .rd _ _ (.int k m)
 | str s => obtain ⟨z, rfl, hz⟩ := hu.str_inv; exact .rd _ _ (.str s z hz)
 | nil => rw [hu.nil_inv]; exact .rd _ _ .nil
 | sl s f xs => exact .rd _ _ (rd hu.sl_inv)
 | iptr z o =>
  cases hu with
  | rd _ _ h => exact .rd _ _ (rd h)
 | ptr d n =>
  obtain ⟨rfl, h⟩ := hu.ptr_inv
  exact .ptr (J := J.settled dead) d n h
 | agg _ => cases hleaf
 | tup _ => cases hleaf
 | clo _ _ => cases hleaf
 | own b s q xs =>
  simp only [settle]
  split
  ·rename_i hdb
   simp only [Option.getD_some]
   rcases hu.own_inv with ⟨rfl, rfl, h3⟩ | ⟨rfl, h1, h2, h3, h4, h5⟩
   ·exact .rd _ _ (.empty _ _ _ _)
   ·exact .rd _ _ (Rd.sl_of (rs h4) h5 h3.1 (.inr ⟨b, h1, hdb, rfl⟩))
  ·rename_i hdb
   simp only [Option.getD_none]
   have huq := hu.own_uq
   rcases hu.own_inv with ⟨rfl, rfl, h3⟩ | ⟨rfl, h1, h2, h3, h4, h5⟩
   ·exact .ownNil _ _ _ (fun h => h3 h.1)
   ·exact .own (J := J.settled dead) b s q xs ⟨h1, by simpa using hdb⟩ h2 h3 (rr h4) h5 (uu huq)
 | view b s q xs =>
  simp only [settle]
  split
  ·rename_i hdb
   simp only [Option.getD_some]
   rcases hu.view_inv with ⟨ad, cap, rfl, rfl⟩ | ⟨o, cap, rfl, h1, hx, h3, hfit, h4, h5⟩
   ·exact .rd _ _ (.empty _ _ _ _)
   ·exact .rd _ _ (Rd.sl_of (rs h4) h5 h3 (.inr ⟨b, h1, hdb, rfl⟩))
  ·rename_i hdb
   simp only [Option.getD_none]
   have hu0 := hu
   rcases hu.view_inv with ⟨ad, cap, rfl, rfl⟩ | ⟨o, cap, rfl, h1, hx, h3, hfit, h4, h5⟩
   ·exact .view0 _ _ _ _ _
   ·exact .view (J := J.settled dead) b s q xs o cap ⟨h1, by simpa using hdb⟩ hx h3 hfit (rr h4) h5 (uu hu0.view_uq)
 | eptr b s q xs i o =>
  have huq := hu.eptr_uq
  obtain ⟨rfl, h1, h2, h3, h4, h5, h6⟩ := hu.eptr_inv
  simp only [settle]
  split
  ·rename_i hdb
   simp only [Option.getD_some]
   split
   ·rename_i z hz
    obtain ⟨r1, gg, r2, r3⟩ := h5
    refine .rd _ _ (.iptr z (J.blk b) (J.off b + i * s) o (gg i) (.inr ⟨b, h1, hdb, rfl⟩) (fun j hj => (r2 i j h4 (by rw [<- r1 z (mem_of_get hz)]; exact hj)).1) (fun j u hu => ?_))
    exact (r3 i z j u hz hu).mono (fun k hk => .inl (Sq_le hk)) (fun _ _ _ => rfl)
   ·exact VR.undef_ _
  ·rename_i hdb
   simp only [Option.getD_none]
   exact .eptr (J := J.settled dead) b s q xs i o ⟨h1, by simpa using hdb⟩ h2 h3 h4 (rr h5) h6 (uu huq)
 | vptr b z o =>
  obtain ⟨o', gg, rfl, h1, h2, h3⟩ := hu.vptr_inv
  simp only [settle]
  split
  ·rename_i hdb
   simp only [Option.getD_some]
   exact .rd _ _ (.iptr z (J.blk b) o' o gg (.inr ⟨b, h1, hdb, rfl⟩) h2 (fun j u hu => rd (h3 j u hu)))
  ·rename_i hdb
   simp only [Option.getD_none]
   exact .vptr (J := J.settled dead) b z o' o gg ⟨h1, by simpa using hdb⟩ h2 (fun j u hu => rd (h3 j u hu))
def Ctx.renamed (J : Ctx) (l : List Nat) : Ctx := { J with has := fun b' => ∃ i b, b' = canonBase i /\ l[i]? = some b /\ l.idxOf b = i /\ J.has b, blk := fun b' => J.blk (l.getD (b' - 1000000) 0),
                                                           off := fun b' => J.off (l.getD (b' - 1000000) 0), cap := fun b' => J.cap (l.getD (b' - 1000000) 0), sz := fun b' => J.sz (l.getD (b' - 1000000) 0), ln := fun b' => J.ln (l.getD (b' - 1000000) 0), N := fun b' => J.N (l.getD (b' - 1000000) 0) }
theorem renamed_at {l : List Nat} {i b : Nat} (h : l[i]? = some b) : l.getD (canonBase i - 1000000) 0 = b := by
 unfold canonBase
 rw [show 1000000 + i - 1000000 = i by omega, List.getD_eq_getElem?_getD, h]
 rfl
theorem renamed_has {l : List Nat} {b : Nat} (hb : b ∈ l) : (J.renamed l).has (canonBase (l.idxOf b)) ↔ J.has b := by
 have hi : l[l.idxOf b]? = some b := by
  rw [List.getElem?_eq_getElem (List.idxOf_lt_length_of_mem hb), List.getElem_idxOf]
 constructor
 ·rintro ⟨i, b', h1, h2, h3, h4⟩
  have : i = l.idxOf b := by unfold canonBase at h1; omega
  subst this
  rw [hi] at h2
  injection h2 with h2
  rw [h2]; exact h4
 ·intro h
  exact ⟨_, b, rfl, hi, rfl, h⟩
theorem Good.renamed {l : List Nat} (g : Good J w) : Good (J.renamed l) w := by
 refine ⟨g.os, g.tape, g.output, g.size, g.old, g.new, g.slt, ?_, ?_, g.box, g.boxInj, ?_, g.sr, g.gl, ?_, g.zf, ?_, fun ⟨i, b, h, _⟩ => by unfold canonBase at h; omega⟩
 ·rintro _ ⟨i, b, rfl, h1, _, h2⟩
  show J.F (J.blk (l.getD _ 0)) /\ J.blk (l.getD _ 0) < _ /\ J.cap (l.getD _ 0) <= _ /\ ∃ cur e, w.heap[J.blk (l.getD _ 0)]? = _ /\ J.off (l.getD _ 0) + J.cap (l.getD _ 0) * J.sz (l.getD _ 0) <= _
  rw [renamed_at h1]
  exact g.base b h2
 ·rintro _ _ ⟨i, b, rfl, h1, h2, h3⟩ ⟨i', b', rfl, h1', h2', h3'⟩ he
  change J.blk (l.getD _ 0) = J.blk (l.getD _ 0) at he
  rw [renamed_at h1, renamed_at h1'] at he
  have := g.baseInj b b' h3 h3' he
  subst this
  rw [<- h2, <- h2']
 ·rintro _ k ⟨i, b, rfl, h1, _, h2⟩ hk
  show J.blk (l.getD _ 0) ≠ _
  rw [renamed_at h1]
  exact g.baseBox b k h2 hk
 ·rintro _ ⟨i, b, rfl, h1, _, h2⟩
  show J.Z (J.blk (l.getD _ 0))
  rw [renamed_at h1]
  exact g.bz b h2
 ·rintro _ ⟨i, b, rfl, h1, _, h2⟩ m hm
  change J.N (l.getD _ 0) m at hm
  rw [renamed_at h1] at hm
  exact g.ns b h2 m hm
theorem idx_at {l : List Nat} {b : Nat} (hb : b ∈ l) : l.getD (canonBase (l.idxOf b) - 1000000) 0 = b :=
 renamed_at (by rw [List.getElem?_eq_getElem (List.idxOf_lt_length_of_mem hb), List.getElem_idxOf])
theorem leaf_rename {l : List Nat} : ∀ v x, (match v with
   | .agg _ => False
   | .tup _ => False
   | .clo _ _ => False
   | _ => True) -> (∀ b, v.anyB (fun b' => b' == b) = true -> b ∈ l) -> VR J w v x -> VR (J.renamed l) w ((rename l v).getD v) x := by
 intro u y hleaf hc hu
 have e1 : ∀ {b : Nat}, b ∈ l -> (J.renamed l).blk (canonBase (l.idxOf b)) = J.blk b := fun {b} hb => by show J.blk (l.getD _ 0) = _; rw [idx_at hb]
 have e2 : ∀ {b : Nat}, b ∈ l -> (J.renamed l).off (canonBase (l.idxOf b)) = J.off b := fun {b} hb => by show J.off (l.getD _ 0) = _; rw [idx_at hb]
 have e3 : ∀ {b : Nat}, b ∈ l -> (J.renamed l).cap (canonBase (l.idxOf b)) = J.cap b := fun {b} hb => by show J.cap (l.getD _ 0) = _; rw [idx_at hb]
 have e4 : ∀ {b : Nat}, b ∈ l -> (J.renamed l).sz (canonBase (l.idxOf b)) = J.sz b := fun {b} hb => by show J.sz (l.getD _ 0) = _; rw [idx_at hb]
 have e5 : ∀ {b : Nat}, b ∈ l -> (J.renamed l).ln (canonBase (l.idxOf b)) = J.ln b := fun {b} hb => by show J.ln (l.getD _ 0) = _; rw [idx_at hb]
 have e6 : ∀ {b : Nat}, b ∈ l -> (J.renamed l).N (canonBase (l.idxOf b)) = J.N b := fun {b} hb => by show J.N (l.getD _ 0) = _; rw [idx_at hb]
 have uu : ∀ {q : Q} {b s k o : Nat} {xs : List V}, b ∈ l -> J.Uq w q b s xs k o -> (J.renamed l).Uq w q (canonBase (l.idxOf b)) s xs k o := fun hb h hq hU => (h hq hU).mono (fun m hm => ⟨by rw [e6 hb]; exact hm.1, hm.2⟩) (fun _ _ _ => rfl) (fun _ _ _ => rfl)
 have sq : ∀ q k, J.Sq q k -> (J.renamed l).Sq q k := fun q k h => by cases q <;> exact h
 have rr : ∀ {q : Q} {s k o : Nat} {xs : List V}, Rows w (J.Sq q) s xs k o -> Rows w ((J.renamed l).Sq q) s xs k o := fun h => h.mono (sq _) (fun _ _ _ => rfl) (fun _ _ _ => rfl)
 cases u with
 | undef => exact VR.undef_ _
 | bool b => rw [hu.bool_inv]; exact .rd _ _ (.bool b)
 | int k m => rw [hu.int_inv]; exact .rd _ _ (.int k m)
 | str s => obtain ⟨z, rfl, hz⟩ := hu.str_inv; exact .rd _ _ (.str s z hz)
 | nil => rw [hu.nil_inv]; exact .rd _ _ .nil
 | sl s f xs => exact .rd _ _ hu.sl_inv
 | iptr z o =>
  cases hu with
  | rd _ _ h => exact .rd _ _ h
 | ptr d n =>
  obtain ⟨rfl, h⟩ := hu.ptr_inv
  exact .ptr (J := J.renamed l) d n h
 | agg _ => cases hleaf
 | tup _ => cases hleaf
 | clo _ _ => cases hleaf
 | own b s q xs =>
  have hb := hc b (by simp [V.anyB])
  simp only [rename, Option.getD_some]
  have huq := hu.own_uq
  rcases hu.own_inv with ⟨rfl, rfl, h3⟩ | ⟨rfl, h1, h2, h3, h4, h5⟩
  ·exact .ownNil _ _ _ (fun h => h3 ((renamed_has hb).1 h))
  ·have := VR.own (J := J.renamed l) (w := w) (canonBase (l.idxOf b)) s q xs ((renamed_has hb).2 h1) (by rw [e4 hb]; exact h2) (by rw [e3 hb, e5 hb]; exact h3) (by rw [e1 hb, e2 hb]; exact rr h4) h5 (by rw [e1 hb, e2 hb]; exact uu hb huq)
   rwa [e1 hb, e2 hb, e3 hb] at this
 | view b s q xs =>
  have hb := hc b (by simp [V.anyB])
  simp only [rename, Option.getD_some]
  have hu0 := hu
  rcases hu.view_inv with ⟨ad, cap, rfl, rfl⟩ | ⟨o, cap, rfl, h1, hx, h3, hfit, h4, h5⟩
  ·exact .view0 _ _ _ _ _
  ·have := VR.view (J := J.renamed l) (w := w) (canonBase (l.idxOf b)) s q xs o cap ((renamed_has hb).2 h1) hx h3 (by rw [e2 hb, e3 hb, e4 hb]; exact hfit) (by rw [e1 hb]; exact rr h4) h5 (by rw [e1 hb]; exact uu hb hu0.view_uq)
   rwa [e1 hb] at this
 | eptr b s q xs i o =>
  have hb := hc b (by simp [V.anyB])
  have huq := hu.eptr_uq
  obtain ⟨rfl, h1, h2, h3, h4, h5, h6⟩ := hu.eptr_inv
  have := VR.eptr (J := J.renamed l) (w := w) (canonBase (l.idxOf b)) s q xs i o ((renamed_has hb).2 h1) (by rw [e4 hb]; exact h2) (by rw [e3 hb, e5 hb]; exact h3) h4 (by rw [e1 hb, e2 hb]; exact rr h5) h6 (by rw [e1 hb, e2 hb]; exact uu hb huq)
  rwa [e1 hb, e2 hb] at this
 | vptr b z o =>
  have hb := hc b (by simp [V.anyB])
  obtain ⟨o', gg, rfl, h1, h2, h3⟩ := hu.vptr_inv
  have := VR.vptr (J := J.renamed l) (w := w) (canonBase (l.idxOf b)) z o' o gg ((renamed_has hb).2 h1) (by rw [e1 hb]; exact h2) h3
  rwa [e1 hb] at this
theorem baseso_mem (b : Nat) : ∀ (hs : List (Option V)) (l : List Nat), (b ∈ l \/ ∃ u, some u ∈ hs /\ u.anyB (fun b' => b' == b) = true) -> b ∈ baseso l hs := by
 intro hs
 induction hs with
 | nil =>
  rintro l (h | ⟨u, hu, _⟩)
  ·exact h
  ·cases hu
 | cons x hs ih =>
  intro l h
  cases x with
  | none =>
   refine ih l (h.imp id ?_)
   rintro ⟨u, hu, hb⟩
   exact ⟨u, (List.mem_cons.1 hu).resolve_left (by simp), hb⟩
  | some y =>
   refine ih _ ?_
   rcases h with h | ⟨u, hu, hb⟩
   ·exact .inl (bases_mem b y l (.inl h))
   ·rcases List.mem_cons.1 hu with e | hu
    ·injection e with e
     subst e
     exact .inl (bases_mem b u l (.inr hb))
    ·exact .inr ⟨u, hu, hb⟩
theorem Sim.canon (hs : Sim J st a w) (hd : ∀ b, J.has b -> ¬ J.S (J.blk b)) (hnd : J.U -> ∀ b b', J.has b -> J.has b' -> b ≠ b' -> ∀ m, J.N b m -> J.N b' m -> False) : Sim (J.renamed (baseso (V.basess [] st.t) st.h)) st.canon a w := by
 have e : st.canon = { st.sweep (rename (baseso (V.basess [] st.t) st.h)) with dead := fun _ => false, dup := st.dup } := rfl
 rw [e]
 refine Sim.sweepC (f := rename (baseso (V.basess [] st.t) st.h)) (fun v => ∀ b, v.anyB (fun b' => b' == b) = true -> b ∈ baseso (V.basess [] st.t) st.h) (fun cs h u hu b hb => h b (anyBs_any hu hb)) (fun cs h u hu b hb => h b (anyBs_any hu hb)) (fun _ cs h u hu b hb => h b (anyBs_any hu hb))
  hs (fun u hu b hb => baseso_mem b _ _ (.inl (bases_mem b (.agg st.t) [] (.inr (anyBs_any hu hb))))) (fun u hu b hb => baseso_mem b _ _ (.inr ⟨u, hu, hb⟩)) leaf_rename (rename_one _) hs.good.renamed (fun _ h => h) (fun _ => rfl) (fun _ _ => rfl) ?_ hs.du ?_
 ·rintro _ ⟨i, b, rfl, h1, _, h2⟩ _
  show ¬ J.S (J.blk (List.getD _ _ 0))
  rw [renamed_at h1]
  exact hd b h2
 ·rintro hU _ _ ⟨i, b, rfl, h1, k1, h2⟩ ⟨i', b', rfl, h1', k1', h2'⟩ _ _ hne m hm hm'
  change J.N (List.getD _ _ 0) m at hm hm'
  rw [renamed_at h1] at hm
  rw [renamed_at h1'] at hm'
  exact hnd hU b b' h2 h2' (fun e => hne (by rw [<- k1, <- k1', e])) m hm hm'
theorem ownIn_ok {i s j : Nat} {q : Q} {v : V} {x : Value} (hi : ¬ J.has i) (h : VR J w v x) : VR J w (ownIn i s q j v) x := by
 cases v with
 | agg cs =>
  simp only [ownIn]
  split
  ·rename_i hj
   obtain ⟨vs, rfl, h1, h2⟩ := h.agg_inv
   refine .agg _ vs (by rw [List.length_set]; exact h1) (fun k c y e1 e2 => ?_)
   rw [List.getElem?_set] at e1
   split at e1
   ·rename_i hjk
    subst hjk
    split at e1
    ·injection e1 with e1
     subst e1
     have := h2 j _ y hj e2
     rw [this.nil_inv]
     exact .ownNil _ _ _ hi
    ·cases e1
   ·exact h2 k c y e1 e2
  ·exact h
 | nil =>
  rw [h.nil_inv]
  exact .ownNil _ _ _ hi
 | _ => exact h
theorem ownIn_cells {i s j : Nat} {q : Q} {v : V} : (ownIn i s q j v).cells.length = v.cells.length := by
 cases v <;> simp only [ownIn] <;> first | rfl | (split <;> simp [V.cells])
theorem ownIn_get {i s j k : Nat} {q : Q} {v c : V} (h : (ownIn i s q j v).cells[k]? = some c) : ∃ u, v.cells[k]? = some u /\ (c = u \/ (u = .nil /\ c = .own i s q [])) := by
 cases v with
 | agg cs =>
  simp only [ownIn] at h
  split at h
  ·rename_i hj
   simp only [V.cells] at h ⊢
   rw [List.getElem?_set] at h
   split at h
   ·rename_i hjk
    subst hjk
    split at h
    ·injection h with h
     exact ⟨.nil, hj, .inr ⟨rfl, h.symm⟩⟩
    ·cases h
   ·exact ⟨c, h, .inl rfl⟩
  ·exact ⟨c, h, .inl rfl⟩
 | nil =>
  cases k with
  | zero =>
   simp only [ownIn, V.cells, List.getElem?_cons_zero, sj_] at h
   exact ⟨.nil, rfl, .inr ⟨rfl, h.symm⟩⟩
  | succ k => simp [ownIn, V.cells] at h
 | _ => exact ⟨c, h, .inl rfl⟩
theorem Sim.own1 (hs : Sim J st a w) {i n : Nat} (hi : ¬ J.has i) : Sim J (st.own1 i n) a w := by
 unfold St.own1
 split
 ·refine ⟨hs.good, hs.dz, by simp [hs.len], fun k v h => ?_, hs.bx, hs.nds, hs.du, hs.nd⟩
  simp only at h
  rw [List.getElem?_set] at h
  split at h
  ·rename_i hk
   subst hk
   split at h
   ·rename_i hlt
    injection h with h
    subst h
    have hg : st.t[n / 2000000 % 1000]? = some (st.t.getD (n / 2000000 % 1000) .undef) := by
     rw [List.getD_eq_getElem?_getD, List.getElem?_eq_getElem hlt]; rfl
    obtain ⟨x, h1, h2⟩ := hs.tm _ _ hg
    exact ⟨x, h1, ownIn_ok hi h2⟩
   ·cases h
  ·exact hs.tm k v h
 ·split
  ·rename_i r hr
   refine ⟨hs.good, hs.dz, hs.len, hs.tm, fun k v h => ?_, hs.nds, hs.du, hs.nd⟩
   simp only at h
   rw [List.getElem?_set] at h
   split at h
   ·rename_i hk
    subst hk
    split at h
    ·injection h with h
     injection h with h
     subst h
     have hr' : st.h[n / 2000000 % 1000]? = some (some r) := by
      rw [List.getD_eq_getElem?_getD] at hr
      cases h : st.h[n / 2000000 % 1000]? with
      | none => rw [h] at hr; cases hr
      | some y => rw [h] at hr; exact congrArg _ hr
     obtain ⟨h1, cur, e, h2, h3, h4⟩ := hs.bx _ r hr'
     refine ⟨h1, cur, e, h2, by rw [ownIn_cells]; exact h3, fun k c hc => ?_⟩
     obtain ⟨u, hu, hor⟩ := ownIn_get hc
     obtain ⟨x, e1, e2⟩ := h4 k u hu
     refine ⟨x, e1, ?_⟩
     rcases hor with rfl | ⟨rfl, rfl⟩
     ·exact e2
     ·rw [e2.nil_inv]; exact .ownNil _ _ _ hi
    ·cases h
   ·exact hs.bx k v h
  ·exact hs
theorem Sim.owns : ∀ (ns : List Nat) (i : Nat) (st : St), (∀ j, j < 999 -> ¬ J.has j) -> Sim J st a w -> Sim J (St.owns ns i st) a w := by
 intro ns
 induction ns with
 | nil => intro i st _ h; exact h
 | cons n ns ih =>
  intro i st hi hs
  refine ih (i + 1) _ hi ?_
  split
  ·rename_i h9
   exact hs.own1 (hi i h9)
  ·exact hs
theorem Sim.head0 (hs : Sim J st a w) (fs : List Nat × List Nat) : Sims J (st.head0 fs) a w := by
 have h1 : Sim J ({ st with t := forget fs.1 0 st.t } : St) a w := by
  refine ⟨hs.good, hs.dz, by rw [forget_len]; exact hs.len, fun i v h => ?_, hs.bx, hs.nds, hs.du, hs.nd⟩
  simp only [forget_get] at h
  cases hc : st.t[i]? with
  | none => rw [hc] at h; cases h
  | some u =>
   rw [hc] at h
   simp only [Option.map_some, sj_] at h
   obtain ⟨x, e1, e2⟩ := hs.tm i u hc
   refine ⟨x, e1, ?_⟩
   split at h
   ·subst h; exact VR.undef_ _
   ·subst h; exact e2
 have h2 : Sim J (({ st with t := forget fs.1 0 st.t } : St).sweep (dropBox fs.2)) a w := by
  have := Sim.sweep (f := dropBox fs.2) (dead := st.dead) (J' := J) (w' := w) h1 (fun u y hleaf hu => ?_) (dropBox_one _) hs.good (fun _ h => h) (fun _ => rfl) (fun _ _ => rfl) hs.nds hs.du hs.nd
  ·exact this
  ·cases u with
   | ptr d n =>
    simp only [dropBox]
    split
    ·exact VR.undef_ _
    ·exact hu
   | agg _ => cases hleaf
   | tup _ => cases hleaf
   | clo _ _ => cases hleaf
   | _ => exact hu
 have h3 : Sim J ({ ({ st with t := forget fs.1 0 st.t } : St).sweep (dropBox fs.2) with h := dropH fs.2 0 (({ st with t := forget fs.1 0 st.t } : St).sweep (dropBox fs.2)).h } : St) a w :=
  ⟨h2.good, h2.dz, h2.len, h2.tm, fun k v h => h2.bx k v (dropH_get _ _ _ _ _ h), h2.nds, h2.du, h2.nd⟩
 have h4 := Sim.sweep (f := settle st.dead) (dead := st.dead) (J' := J.settled st.dead) (w' := w) h3 (leaf_settle hs.good) (settle_one _) hs.good.settled (fun _ h => h) (fun _ => rfl) (fun _ _ => rfl) (fun b hb _ => ?_) hs.du (fun hU b b' hb hb' _ _ hne m => hs.nd hU b b' hb.1 hb'.1 hb.2 hb'.2 hne m)
 ·have h5 := h4.canon (fun b hb => by
   rintro (h | ⟨b', hb', hdd, h⟩)
   ·exact hs.nds b hb.1 hb.2 h
   ·have := hs.good.baseInj b b' hb.1 hb' h
    subst this
    rw [hb.2] at hdd
    cases hdd) (fun hU b b' hb hb' hne m => hs.nd hU b b' hb.1 hb'.1 hb.2 hb'.2 hne m)
  show Sims J (match nilCodes fs.2 with
   | [] => _
   | ns => _) a w
  split
  ·exact ⟨(J.settled st.dead).renamed _, ⟨rfl, rfl, rfl⟩, h5⟩
  ·have h9 : ∀ (l : List Nat) (j : Nat), j < 999 -> ¬ ((J.settled st.dead).renamed l).has j := fun l j hj ⟨i, b, e, _⟩ => by unfold canonBase at e; omega
   have h6 := Sim.owns (nilCodes fs.2) 0 _ (h9 _) h5
   have h7 := h6.canon (fun b hb => h5.nds b hb rfl) (fun hU b b' hb hb' hne m => h5.nd hU b b' hb hb' rfl rfl hne m)
   exact ⟨((J.settled st.dead).renamed _).renamed _, ⟨rfl, rfl, rfl⟩, h7⟩
 ·rintro (h | ⟨b', hb', hdd, h⟩)
  ·exact hs.nds b hb.1 hb.2 h
  ·have := hs.good.baseInj b b' hb.1 hb' h
   subst this
   rw [hb.2] at hdd
   cases hdd
def Ctx.coarse (J : Ctx) (dup : Bool) : Ctx := { J with U := True, N := fun b m => dup = false /\ J.N b m }
theorem leaf_coarse {dup : Bool} (hU : dup = false -> J.U) : LeafOk J (J.coarse dup) w w (coarse dup) := by
 have rr : ∀ {q : Q} {s k o : Nat} {xs : List V}, Rows w (J.Sq q) s xs k o -> Rows w ((J.coarse dup).Sq q) s xs k o := fun {q} _ _ _ _ h => h.mono (fun k hk => by cases q <;> exact hk) (fun _ _ _ => rfl) (fun _ _ _ => rfl)
 have ra : ∀ {q : Q} {s k o : Nat} {xs : List V}, Rows w (J.Sq q) s xs k o -> Rows w ((J.coarse dup).Sq .any) s xs k o := fun h => h.mono (fun k hk => Sq_le hk) (fun _ _ _ => rfl) (fun _ _ _ => rfl)
 have uu : ∀ {q : Q} {b s k o : Nat} {xs : List V}, J.Uq w q b s xs k o -> (q = .clean -> dup = false) -> (J.coarse dup).Uq w q b s xs k o := fun h hd hq _ => (h hq (hU (hd hq))).mono (fun m hm => ⟨⟨hd hq, hm.1⟩, hm.2⟩) (fun _ _ _ => rfl) (fun _ _ _ => rfl)
 have ua : ∀ {b s k o : Nat} {xs : List V}, (J.coarse dup).Uq w .any b s xs k o := fun hq => by cases hq
 intro u y hleaf hu
 cases u with
 | undef => exact VR.undef_ _
 | bool b => rw [hu.bool_inv]; exact .rd _ _ (.bool b)
 | int k m => rw [hu.int_inv]; exact .rd _ _ (.int k m)
 | str s => obtain ⟨z, rfl, hz⟩ := hu.str_inv; exact .rd _ _ (.str s z hz)
 | nil => rw [hu.nil_inv]; exact .rd _ _ .nil
 | sl s f xs => exact .rd _ _ hu.sl_inv
 | iptr z o =>
  cases hu with
  | rd _ _ h => exact .rd _ _ h
 | ptr d n =>
  obtain ⟨rfl, h⟩ := hu.ptr_inv
  exact .ptr (J := J.coarse dup) d n h
 | agg _ => cases hleaf
 | tup _ => cases hleaf
 | clo _ _ => cases hleaf
 | own b s q xs =>
  have huq := hu.own_uq
  have keep : (q = .clean -> dup = false) -> VR (J.coarse dup) w (.own b s q xs) y := fun hd => by
   rcases hu.own_inv with ⟨rfl, rfl, h3⟩ | ⟨rfl, h1, h2, h3, h4, h5⟩
   ·exact .ownNil _ _ _ h3
   ·exact .own (J := J.coarse dup) b s q xs h1 h2 h3 (rr h4) h5 (uu huq hd)
  cases q with
  | flat => exact keep (fun e => by cases e)
  | any => exact keep (fun e => by cases e)
  | clean =>
   simp only [coarse]
   split
   ·simp only [Option.getD_some]
    rcases hu.own_inv with ⟨rfl, rfl, h3⟩ | ⟨rfl, h1, h2, h3, h4, h5⟩
    ·exact .ownNil _ _ _ h3
    ·exact .own (J := J.coarse dup) b s .any xs h1 h2 h3 (ra h4) (fun e => by cases e) ua
   ·rename_i hd
    exact keep (fun _ => by simpa using hd)
 | view b s q xs =>
  have hu0 := hu
  have keep : (q = .clean -> dup = false) -> VR (J.coarse dup) w (.view b s q xs) y := fun hd => by
   rcases hu.view_inv with ⟨ad, cap, rfl, rfl⟩ | ⟨o, cap, rfl, h1, hx, h3, hfit, h4, h5⟩
   ·exact .view0 _ _ _ _ _
   ·exact .view (J := J.coarse dup) b s q xs o cap h1 hx h3 hfit (rr h4) h5 (uu hu0.view_uq hd)
  cases q with
  | flat => exact keep (fun e => by cases e)
  | any => exact keep (fun e => by cases e)
  | clean =>
   simp only [coarse]
   split
   ·simp only [Option.getD_some]
    rcases hu.view_inv with ⟨ad, cap, rfl, rfl⟩ | ⟨o, cap, rfl, h1, hx, h3, hfit, h4, h5⟩
    ·exact .view0 _ _ _ _ _
    ·exact .view (J := J.coarse dup) b s .any xs o cap h1 hx h3 hfit (ra h4) (fun e => by cases e) ua
   ·rename_i hd
    exact keep (fun _ => by simpa using hd)
 | eptr b s q xs i o =>
  simp only [coarse]
  split
  ·exact VR.undef_ _
  ·rename_i hd
   have huq := hu.eptr_uq
   obtain ⟨rfl, h1, h2, h3, h4, h5, h6⟩ := hu.eptr_inv
   exact .eptr (J := J.coarse dup) b s q xs i o h1 h2 h3 h4 (rr h5) h6 (uu huq (fun _ => by simpa using hd))
 | vptr b z o =>
  obtain ⟨o', gg, rfl, h1, h2, h3⟩ := hu.vptr_inv
  exact .vptr (J := J.coarse dup) b z o' o gg h1 h2 h3
theorem Good.coarse {dup : Bool} (g : Good J w) : Good (J.coarse dup) w :=
 ⟨g.os, g.tape, g.output, g.size, g.old, g.new, g.slt, g.base, g.baseInj, g.box, g.boxInj, g.baseBox, g.sr, g.gl, g.bz, g.zf, fun b hb m hm => g.ns b hb m hm.2, g.h9⟩
theorem coarse_one (dup : Bool) : ∀ v u, coarse dup v = some u -> u.cells = [u] := by
 intro v u h
 unfold coarse at h
 split at h <;> first
  | (cases h; done)
  | (split at h <;> first
    | (simp only [sj_] at h; subst h; rfl)
    | cases h)
theorem Sim.calm (hs : Sim J st a w) : Sims J st.calm a w := by
 unfold St.calm
 split
 ·rename_i hd
  refine ⟨J.coarse true, ⟨rfl, rfl, rfl⟩, ?_⟩
  exact Sim.sweep (f := Go.Am.coarse true) (dead := st.dead) (dup := false) hs (leaf_coarse (fun e => by cases e)) (coarse_one true) hs.good.coarse (fun _ h => h) (fun _ => rfl) (fun _ _ => rfl) hs.nds (fun _ => trivial) (fun _ b b' _ _ _ _ _ m hm => by cases hm.1)
 ·exact ⟨J, Same.rfl', hs⟩
theorem Sim.head (hs : Sim J st a w) (fs : List Nat × List Nat) : Sims J (st.head fs) a w :=
 let ⟨_, h1, h2⟩ := hs.calm
 Sims.of h1 (h2.head0 fs)
end
end Go.Am
end
section
set_option linter.unusedVariables false
set_option linter.unusedSimpArgs false
namespace Go.Am
open Go Go.RowKit
section
variable {P : Program} {c : Cfg} {J J' : Ctx} {st : St} {a : Act} {w w' : World} {den : Nat -> List V -> Option V} {η : Nat -> Option V} {d : Nat}
def Clean (st : St) : Prop := ∀ d, d < 1000 -> V.anyBs (fun b => b / 1000 == d) st.t = false /\ anyBo (fun b => b / 1000 == d) st.h = false
def DrawOk (P : Program) (c : Cfg) (den : Nat -> List V -> Option V) : Prop := ∀ (id : Nat) (ops : Array Oper) (B : List Nat) (J : Ctx) (st st' : St) (a : Act) (w : World) (Q : Exit -> Act -> World -> Prop), Sim J st a w -> Clean st ->
 regionOk ops B = true -> entryOk ops B st = true -> runOps c den ops ops.toList st = some st' -> (∀ a' w', Sims J st' a' w' -> Q .normal a' w') -> (Code.region id ops true).wp P Q a w
theorem canon_name (d : Nat) (hd : d < 1000) (l : List Nat) (v : V) : (v.mapB (rename l)).anyB (fun b => b / 1000 == d) = false := by
 have hc : ∀ i, (canonBase i / 1000 == d) = false := by intro i; simp [canonBase]; omega
 refine V.rec (motive_1 := fun v => (v.mapB (rename l)).anyB (fun b => b / 1000 == d) = false) (motive_2 := fun vs => V.anyBs (fun b => b / 1000 == d) (V.mapBs (rename l) vs) = false)
  rfl (fun _ => rfl) (fun _ _ => rfl) (fun _ => rfl) rfl (fun _ _ _ _ => rfl) (fun b _ _ _ _ => hc _) (fun b _ _ _ _ => hc _) (fun _ _ => rfl) (fun b _ _ _ _ _ _ => hc _) (fun b _ _ _ => hc _) (fun _ _ _ => rfl)
  (fun _ h => h) (fun _ h => h) (fun _ _ h => h) rfl (fun _ _ h1 h2 => by rw [V.mapBs, V.anyBs, h1, h2]; rfl) v
theorem canon_names (d : Nat) (hd : d < 1000) (l : List Nat) (vs : List V) : V.anyBs (fun b => b / 1000 == d) (V.mapBs (rename l) vs) = false := canon_name d hd l (.agg vs)
theorem canon_nameo (d : Nat) (hd : d < 1000) (l : List Nat) : ∀ (hs : List (Option V)), anyBo (fun b => b / 1000 == d) (mapBo (rename l) hs) = false := by
 intro hs
 induction hs with
 | nil => rfl
 | cons x hs ih =>
  cases x with
  | none => exact ih
  | some v => rw [mapBo, anyBo, canon_name d hd, ih]; rfl
theorem head_clean (st : St) (fs : List Nat × List Nat) : Clean (st.head fs) := by
 intro d hd
 unfold St.head St.head0
 simp only
 split
 ·exact ⟨canon_names d hd _ _, canon_nameo d hd _ _⟩
 ·exact ⟨canon_names d hd _ _, canon_nameo d hd _ _⟩
def Ex.to : Ex -> Exit
 | .normal => .normal
 | .exit i => .exit i
 | .ret => .ret
theorem least {p : Nat -> Prop} (h : ∃ n, p n) : ∃ n, p n /\ ∀ m, p m -> n <= m := by
 obtain ⟨n, hn⟩ := h
 induction n using Nat.strongRecOn with
 | _ n ih =>
  by_cases h : ∃ m, m < n /\ p m
  ·obtain ⟨m, h1, h2⟩ := h
   exact ih m h1 h2
  ·refine ⟨n, hn, fun m hm => ?_⟩
   rcases Nat.lt_or_ge m n with h1 | h1
   ·exact absurd ⟨m, h1, hm⟩ h
   ·exact h1
open Classical in
theorem wp_iter {body : Code} {f : St -> Option (Ex × St)} {hd : St -> St} {J : Ctx} {st : St} {a : Act} {w : World} {ex : Ex} {st' : St} {k : Nat} {Q : Exit -> Act -> World -> Prop} (hs : Sims J st a w) (h : iter f hd k st = some (ex, st'))
  (hb : ∀ (J' : Ctx) (s : St) (a : Act) (w : World) (ex : Ex) (s' : St) (Q : Exit -> Act -> World -> Prop), Sim J' s a w -> f s = some (ex, s') -> (∀ a' w', Sims J' s' a' w' -> Q ex.to a' w') -> body.wp P Q a w)
  (hhd : ∀ (J' : Ctx) (s : St) (a : Act) (w : World), Sim J' s a w -> Sims J' (hd s) a w) (hQ : ∀ a' w', Sims J st' a' w' -> Q ex.to a' w') : (Code.loop body).wp P Q a w := by
 let I : Nat -> Act -> World -> Prop := fun j a w => ∃ s, Sims J s a w /\ iter f hd j s = some (ex, st')
 refine wp_loop (fun a w => ∃ j, I j a w) (fun a w => if h : ∃ j, I j a w then (least h).choose else 0) ⟨k, st, hs, h⟩ (fun a w hI => ?_)
 obtain ⟨s, hs1, hi⟩ := (least hI).choose_spec.1
 cases hj : (least hI).choose with
 | zero => rw [hj, iter] at hi; cases hi
 | succ j =>
  rw [hj, iter] at hi
  obtain ⟨J1, hsame, hs2⟩ := hs1
  obtain ⟨J2, hsame2, hs3⟩ := hhd J1 s a w hs2
  cases hf : f (hd s) with
  | none => rw [hf] at hi; cases hi
  | some z =>
   obtain ⟨e, s'⟩ := z
   rw [hf] at hi
   refine hb J2 (hd s) a w e s' _ hs3 hf (fun a' w' h' => ?_)
   have h'' : Sims J s' a' w' := Sims.of hsame (Sims.of hsame2 h')
   cases e with
   | normal =>
    have hI' : I j a' w' := ⟨s', h'', hi⟩
    refine ⟨⟨j, hI'⟩, ?_⟩
    have hex : ∃ j, I j a' w' := ⟨j, hI'⟩
    show (if h : ∃ j, I j a' w' then (least h).choose else 0) < (if h : ∃ j, I j a w then (least h).choose else 0)
    rw [dif_pos hex, dif_pos hI, hj]
    exact Nat.lt_succ_of_le ((least hex).choose_spec.2 j hI')
   | exit i =>
    simp only [sj_, Prod.mk.injEq] at hi
    obtain ⟨rfl, rfl⟩ := hi
    exact hQ _ _ h''
   | ret =>
    simp only [sj_, Prod.mk.injEq] at hi
    obtain ⟨rfl, rfl⟩ := hi
    exact hQ _ _ h''
theorem sound_exec (hA : Agree P c) (hW : WrOk P c) (hD : Answers P den) (hdraw : DrawOk P c den) {k : Nat} {g : Told} : ∀ (code : Code) (J : Ctx) (st : St) (a : Act) (w : World) (ex : Ex) (st' : St) (Q : Exit -> Act -> World -> Prop), Sim J st a w -> drawsOk g code = true ->
  exec c den (fun b hd st => iter b hd k st) g code st = some (ex, st') -> (∀ a' w', Sims J st' a' w' -> Q ex.to a' w') -> code.wp P Q a w := by
 intro code
 induction code with
 | skip =>
  intro J st a w ex st' Q hs hdr h hQ
  simp only [exec, sj_, Prod.mk.injEq] at h
  obtain ⟨rfl, rfl⟩ := h
  exact wp_skip (hQ a w ⟨J, Same.rfl', hs⟩)
 | region id ops draw =>
  intro J st a w ex st' Q hs hdr h hQ
  simp only [exec] at h
  cases draw with
  | true =>
   simp only [if_true] at h
   split at h
   ·rename_i hc
    cases hr : runOps c den ops ops.toList (st.head ([], [])) with
    | none => rw [hr] at h; cases h
    | some s =>
     rw [hr] at h
     simp only [Option.map_some, sj_, Prod.mk.injEq] at h
     obtain ⟨rfl, rfl⟩ := h
     obtain ⟨J', hsame, hs'⟩ := hs.head ([], [])
     exact hdraw id ops (g id).2.2 J' _ s a w Q hs' (head_clean _ _) (by simpa [drawsOk] using hdr) hc hr (fun a2 w2 h2 => hQ _ _ (Sims.of hsame h2))
   ·cases h
  | false =>
   simp only [Bool.false_eq_true, if_false] at h
   cases hr : runOpsW c den ops ops.toList st with
   | none => rw [hr] at h; cases h
   | some s =>
    rw [hr] at h
    simp only [Option.map_some, sj_, Prod.mk.injEq] at h
    obtain ⟨rfl, rfl⟩ := h
    exact wp_region_list (sound_runW hA hW hD _ J st a w s hs hr hQ)
 | seq x y ihx ihy =>
  intro J st a w ex st' Q hs hdr h hQ
  simp only [exec] at h
  cases hx : exec c den (fun b hd st => iter b hd k st) g x st with
  | none => rw [hx] at h; cases h
  | some z =>
   obtain ⟨e, s⟩ := z
   rw [hx] at h
   rw [drawsOk, Bool.and_eq_true] at hdr
   refine wp_seq (ihx J st a w e s _ hs hdr.1 hx (fun a' w' h' => ?_))
   cases e with
   | normal =>
    obtain ⟨J', hsame, hs'⟩ := h'
    exact ihy J' s a' w' ex st' Q hs' hdr.2 h (fun a2 w2 h2 => hQ _ _ (Sims.of hsame h2))
   | exit i =>
    simp only [sj_, Prod.mk.injEq] at h
    obtain ⟨rfl, rfl⟩ := h
    exact hQ _ _ h'
   | ret =>
    simp only [sj_, Prod.mk.injEq] at h
    obtain ⟨rfl, rfl⟩ := h
    exact hQ _ _ h'
 | cond x y z ihy ihz =>
  intro J st a w ex st' Q hs hdr h hQ
  simp only [exec] at h
  have hv := hs.ev x
  rw [drawsOk, Bool.and_eq_true] at hdr
  split at h
  ·rename_i hx
   rw [hx] at hv
   exact wp_cond_true hv.bool_inv (ihy J st a w ex st' Q hs hdr.1 h hQ)
  ·rename_i hx
   rw [hx] at hv
   exact wp_cond_false hv.bool_inv (ihz J st a w ex st' Q hs hdr.2 h hQ)
  ·cases h
 | block id y ih =>
  intro J st a w ex st' Q hs hdr h hQ
  simp only [exec] at h
  cases hx : exec c den (fun b hd st => iter b hd k st) g y st with
  | none => rw [hx] at h; cases h
  | some z =>
   obtain ⟨e, s⟩ := z
   rw [hx] at h
   refine wp_block (ih J st a w e s _ hs hdr hx (fun a' w' h' => ?_))
   cases e with
   | normal =>
    simp only [sj_, Prod.mk.injEq] at h
    obtain ⟨rfl, rfl⟩ := h
    exact hQ _ _ h'
   | exit i =>
    simp only at h
    show (if i = id then _ else _)
    split at h
    ·rename_i hi
     rw [if_pos hi]
     simp only [sj_, Prod.mk.injEq] at h
     obtain ⟨rfl, rfl⟩ := h
     exact hQ _ _ h'
    ·rename_i hi
     rw [if_neg hi]
     simp only [sj_, Prod.mk.injEq] at h
     obtain ⟨rfl, rfl⟩ := h
     exact hQ _ _ h'
   | ret =>
    simp only [sj_, Prod.mk.injEq] at h
    obtain ⟨rfl, rfl⟩ := h
    exact hQ _ _ h'
 | loop y ih =>
  intro J st a w ex st' Q hs hdr h hQ
  simp only [exec] at h
  cases hi : iter (exec c den (fun b hd st => iter b hd k st) g y) (fun s => s.head ((g (firstId y)).1, (g (firstId y)).2.1)) k st with
  | none => rw [hi] at h; cases h
  | some z =>
   rw [hi] at h
   simp only [Option.map_some, sj_, Prod.mk.injEq] at h
   obtain ⟨rfl, rfl⟩ := h
   exact wp_iter (ex := z.1) (st' := z.2) ⟨J, Same.rfl', hs⟩ hi (fun J' s a w ex s' Q hs h hQ => ih J' s a w ex s' Q hs hdr h hQ) (fun J' s a w hs => hs.head _)
    (fun a' w' h' => hQ a' w' (let ⟨_, h1, h2⟩ := h'; Sims.of h1 (h2.head _)))
 | exit i =>
  intro J st a w ex st' Q hs hdr h hQ
  simp only [exec, sj_, Prod.mk.injEq] at h
  obtain ⟨rfl, rfl⟩ := h
  exact wp_exit (hQ a w ⟨J, Same.rfl', hs⟩)
 | ret =>
  intro J st a w ex st' Q hs hdr h hQ
  simp only [exec, sj_, Prod.mk.injEq] at h
  obtain ⟨rfl, rfl⟩ := h
  exact wp_ret (hQ a w ⟨J, Same.rfl', hs⟩)
 | _ =>
  intro J st a w ex st' Q hs hdr h hQ
  simp only [exec] at h
  cases h
theorem resOf_ok (hA : Agree P c) (hs : Sim J st a w) {r : ResultVar} {v : V} (h : resOf c st r = some v) :
    ∃ y, (match r with
      | .tmp t => (pure (a.tmps.getD t undef) : Sem Value)
      | .cell p t => do loadVar t (<- asAddr (a.tmps.getD p undef))).run P w = .ok y w /\ VR J w v y := by
  cases r with
  | tmp t =>
    simp only [resOf, sj_] at h
    subst h
    exact ⟨a.tmps.getD t undef, by simp, by simpa [Am.ev, Act.eval] using hs.ev (.tmp t)⟩
  | cell p t =>
    simp only [resOf] at h
    split at h
    · rename_i i hi
      simp only [loadV] at h
      split at h
      · rename_i cs hc
        obtain ⟨ti, ai⟩ := hA _ _ hi
        have hv : VR J w (st.t.getD p .undef) (a.tmps.getD p undef) := by simpa [Am.ev, Act.eval] using hs.ev (.tmp p)
        obtain ⟨k, o', g, e, h1, h2⟩ := cellsAt_ok hs hv hc
        obtain ⟨y, hy, hv⟩ := packV_ok ai h h1 h2
        refine ⟨y, ?_, hv⟩
        simp only [e, asAddr, Sem.run_bind, Sem.run_pure, Result.andThen_ok, hy]
      · cases h
    · cases h
theorem ressOf_ok (hA : Agree P c) (hs : Sim J st a w) : ∀ (rs : List ResultVar) (vs : List V), ressOf c st rs = some vs ->
    ∃ ys : List Value, (rs.mapM (fun r : ResultVar => match r with
      | .tmp t => (pure (a.tmps.getD t undef) : Sem Value)
      | .cell p t => do loadVar t (<- asAddr (a.tmps.getD p undef)))).run P w = .ok ys w /\ ys.length = vs.length /\ ∀ (i : Nat) (v : V) (y : Value), vs[i]? = some v -> ys[i]? = some y -> VR J w v y := by
  intro rs
  induction rs with
  | nil =>
    intro vs h
    simp only [ressOf, sj_] at h
    subst h
    exact ⟨[], by simp, rfl, fun i v y h => by simp at h⟩
  | cons r rs ih =>
    intro vs h
    simp only [ressOf] at h
    cases h1 : resOf c st r with
    | none => rw [h1] at h; cases h
    | some v =>
      cases h2 : ressOf c st rs with
      | none => rw [h1, h2] at h; cases h
      | some vs0 =>
        rw [h1, h2] at h
        simp only [sj_] at h
        subst h
        obtain ⟨y, hy, hv⟩ := resOf_ok hA hs h1
        obtain ⟨ys, hys, hl, hr⟩ := ih vs0 h2
        refine ⟨y :: ys, ?_, by simp [hl], fun i v' y' e1 e2 => ?_⟩
        · rw [List.mapM_cons]
          simp only [Sem.run_bind, hy, Result.andThen_ok, hys, Sem.run_pure]
        · cases i with
          | zero =>
            simp only [List.getElem?_cons_zero, sj_] at e1 e2
            subst e1; subst e2
            exact hv
          | succ i => exact hr i v' y' (by simpa using e1) (by simpa using e2)
def Ctx.placed (J : Ctx) (l : List (List Nat)) : Ctx := { J with has := fun j => ∃ b, l[j]? = some [b] /\ l.idxOf [b] = j /\ J.has b, blk := fun j => J.blk ((l.getD j []).headD 0),
                                                                 off := fun j => J.off ((l.getD j []).headD 0), cap := fun j => J.cap ((l.getD j []).headD 0), sz := fun j => J.sz ((l.getD j []).headD 0), ln := fun j => J.ln ((l.getD j []).headD 0), lb := fun _ => False, N := fun j => J.N ((l.getD j []).headD 0) }
theorem placed_at {l : List (List Nat)} {j b : Nat} (h : l[j]? = some [b]) : (l.getD j []).headD 0 = b := by
 rw [List.getD_eq_getElem?_getD, h]
 rfl
theorem idx_mem {l : List (List Nat)} {b : Nat} (hb : [b] ∈ l) : l[l.idxOf [b]]? = some [b] := by
 rw [List.getElem?_eq_getElem (List.idxOf_lt_length_of_mem hb), List.getElem_idxOf]
theorem placed_has {l : List (List Nat)} {b : Nat} (hb : [b] ∈ l) : (J.placed l).has (l.idxOf [b]) ↔ J.has b := by
 constructor
 ·rintro ⟨b', h2, h3, h4⟩
  rw [idx_mem hb] at h2
  simp only [sj_, List.cons.injEq, and_true] at h2
  rw [h2]; exact h4
 ·intro h
  exact ⟨b, idx_mem hb, rfl, h⟩
theorem okRes_mem : ∀ {cs : List V}, okRes cs = true -> ∀ u ∈ cs, okCell u = true := by
 intro cs
 induction cs with
 | nil => intro _ u hu; cases hu
 | cons v vs ih =>
  intro h u hu
  rw [okRes, Bool.and_eq_true] at h
  rcases List.mem_cons.1 hu with rfl | hu
  ·exact h.1
  ·exact ih h.2 u hu
theorem cellsOf_mem : ∀ {vs : List V} {v u : V}, v ∈ vs -> u ∈ v.cells -> u ∈ cellsOf vs := by
 intro vs
 induction vs with
 | nil => intro v u hv; cases hv
 | cons x vs ih =>
  intro v u hv hu
  rw [cellsOf, List.mem_append]
  rcases List.mem_cons.1 hv with rfl | hv
  ·exact .inl hu
  ·exact .inr (ih hv hu)
theorem leaf_place {l : List (List Nat)} : ∀ v x, (match v with
   | .agg _ => False
   | .tup _ => False
   | .clo _ _ => False
   | _ => True) -> (∀ u ∈ v.cells, okCell u = true /\ ∀ b ∈ cellB u, [b] ∈ l) -> VR J w v x -> VR (J.placed l) w ((numB l v).getD v) x := by
 intro u y hleaf hc hu
 have e1 : ∀ {b : Nat}, [b] ∈ l -> (J.placed l).blk (l.idxOf [b]) = J.blk b := fun {b} hb => by show J.blk _ = _; rw [placed_at (idx_mem hb)]
 have e2 : ∀ {b : Nat}, [b] ∈ l -> (J.placed l).off (l.idxOf [b]) = J.off b := fun {b} hb => by show J.off _ = _; rw [placed_at (idx_mem hb)]
 have e3 : ∀ {b : Nat}, [b] ∈ l -> (J.placed l).cap (l.idxOf [b]) = J.cap b := fun {b} hb => by show J.cap _ = _; rw [placed_at (idx_mem hb)]
 have e4 : ∀ {b : Nat}, [b] ∈ l -> (J.placed l).sz (l.idxOf [b]) = J.sz b := fun {b} hb => by show J.sz _ = _; rw [placed_at (idx_mem hb)]
 have e5 : ∀ {b : Nat}, [b] ∈ l -> (J.placed l).ln (l.idxOf [b]) = J.ln b := fun {b} hb => by show J.ln _ = _; rw [placed_at (idx_mem hb)]
 have e6 : ∀ {b : Nat}, [b] ∈ l -> (J.placed l).N (l.idxOf [b]) = J.N b := fun {b} hb => by show J.N _ = _; rw [placed_at (idx_mem hb)]
 have uu : ∀ {q : Q} {b s k o : Nat} {xs : List V}, [b] ∈ l -> J.Uq w q b s xs k o -> (J.placed l).Uq w q (l.idxOf [b]) s xs k o := fun hb h hq hU => (h hq hU).mono (fun m hm => ⟨by rw [e6 hb]; exact hm.1, hm.2⟩) (fun _ _ _ => rfl) (fun _ _ _ => rfl)
 have sq : ∀ q k, J.Sq q k -> (J.placed l).Sq q k := fun q k h => by cases q <;> exact h
 have rr : ∀ {q : Q} {s k o : Nat} {xs : List V}, Rows w (J.Sq q) s xs k o -> Rows w ((J.placed l).Sq q) s xs k o := fun h => h.mono (sq _) (fun _ _ _ => rfl) (fun _ _ _ => rfl)
 cases u with
 | undef => exact VR.undef_ _
 | bool b => rw [hu.bool_inv]; exact .rd _ _ (.bool b)
 | int k m => rw [hu.int_inv]; exact .rd _ _ (.int k m)
 | str s => obtain ⟨z, rfl, hz⟩ := hu.str_inv; exact .rd _ _ (.str s z hz)
 | nil => rw [hu.nil_inv]; exact .rd _ _ .nil
 | sl s f xs => exact .rd _ _ hu.sl_inv
 | iptr z o =>
  cases hu with
  | rd _ _ h => exact .rd _ _ h
 | ptr d n => exact absurd (hc _ (List.mem_singleton.2 rfl)).1 (by simp [okCell])
 | eptr b s q xs i o => exact absurd (hc _ (List.mem_singleton.2 rfl)).1 (by simp [okCell])
 | vptr b z o => exact absurd (hc _ (List.mem_singleton.2 rfl)).1 (by simp [okCell])
 | agg _ => cases hleaf
 | tup _ => cases hleaf
 | clo _ _ => cases hleaf
 | own b s q xs =>
  have hb : [b] ∈ l := (hc _ (List.mem_singleton.2 rfl)).2 b (List.mem_singleton.2 rfl)
  simp only [numB, Option.getD_some]
  have huq := hu.own_uq
  rcases hu.own_inv with ⟨rfl, rfl, h3⟩ | ⟨rfl, h1, h2, h3, h4, h5⟩
  ·exact .ownNil _ _ _ (fun h => h3 ((placed_has hb).1 h))
  ·have := VR.own (J := J.placed l) (w := w) (l.idxOf [b]) s q xs ((placed_has hb).2 h1) (by rw [e4 hb]; exact h2) (by rw [e3 hb, e5 hb]; exact h3) (by rw [e1 hb, e2 hb]; exact rr h4) h5 (by rw [e1 hb, e2 hb]; exact uu hb huq)
   rwa [e1 hb, e2 hb, e3 hb] at this
 | view b s q xs =>
  have hb : [b] ∈ l := (hc _ (List.mem_singleton.2 rfl)).2 b (List.mem_singleton.2 rfl)
  simp only [numB, Option.getD_some]
  have hu0 := hu
  rcases hu.view_inv with ⟨ad, cap, rfl, rfl⟩ | ⟨o, cap, rfl, h1, hx, h3, hfit, h4, h5⟩
  ·exact .view0 _ _ _ _ _
  ·have := VR.view (J := J.placed l) (w := w) (l.idxOf [b]) s q xs o cap ((placed_has hb).2 h1) hx h3 (by rw [e2 hb, e3 hb, e4 hb]; exact hfit) (by rw [e1 hb]; exact rr h4) h5 (by rw [e1 hb]; exact uu hb hu0.view_uq)
   rwa [e1 hb] at this
theorem resCell_ok {j : Nat} {z v : V} {x : Value} (h : VR J w v x) (hn : v = .nil -> ¬ J.has j) : VR J w (resCell j z v) x := by
 unfold resCell
 split
 ·rw [h.nil_inv]; exact .ownNil _ _ _ (hn rfl)
 ·rw [h.nil_inv]; exact .view0 _ _ _ _ _
 ·rename_i b s q xs
  have huq := h.own_uq
  rcases h.own_inv with ⟨rfl, rfl, _⟩ | ⟨rfl, h1, h2, h3, h4, h5⟩
  ·exact .view0 _ _ _ _ _
  ·by_cases hx : xs = []
   ·subst hx; exact .view0 _ _ _ _ _
   ·exact .view b s q xs _ _ h1 (List.length_pos_iff.2 hx) h3.1 (by rw [h2]; exact Nat.le_refl _) h4 h5 huq
 ·rw [h.nil_inv]; exact .rd _ _ (.empty _ _ _ _)
 ·exact h
theorem resCells_len : ∀ (zs vs : List V) (j : Nat), (resCells j zs vs).length = vs.length := by
 intro zs
 induction zs with
 | nil => intro vs j; cases vs <;> rfl
 | cons z zs ih => intro vs j; cases vs with
  | nil => rfl
  | cons v vs => rw [resCells, List.length_cons, ih, List.length_cons]
theorem resCells_ok : ∀ (zs vs : List V) (j : Nat), (∀ k, vs[k]? = some .nil -> ¬ J.has (j + k)) -> ∀ (i : Nat) (u : V), (resCells j zs vs)[i]? = some u -> ∃ v, vs[i]? = some v /\ ∀ x, VR J w v x -> VR J w u x := by
 intro zs
 induction zs with
 | nil => intro vs j _ i u h; cases vs <;> exact ⟨u, h, fun _ h => h⟩
 | cons z zs ih =>
  intro vs j hn i u h
  cases vs with
  | nil => simp [resCells] at h
  | cons v vs =>
   rw [resCells] at h
   cases i with
   | zero =>
    simp only [List.getElem?_cons_zero, sj_] at h
    subst h
    exact ⟨v, rfl, fun x hx => resCell_ok hx (fun e => hn 0 (by rw [e]; rfl))⟩
   | succ i =>
    obtain ⟨y, h1, h2⟩ := ih vs (j + 1) (fun k hk => by have := hn (k + 1) (by simpa using hk); rwa [show j + 1 + k = j + (k + 1) by omega]) i u (by simpa using h)
    exact ⟨y, by simpa using h1, h2⟩
theorem resRow_ok {j : Nat} {zs : List V} {v : V} {x : Value} (h : VR J w v x) (hn : ∀ k, v.cells[k]? = some .nil -> ¬ J.has (j + k)) : VR J w (resRow j zs v) x := by
 cases v with
 | agg cs =>
  obtain ⟨vs, rfl, h1, h2⟩ := h.agg_inv
  refine .agg _ vs (by rw [resCells_len]; exact h1) (fun i c v e1 e2 => ?_)
  obtain ⟨y, hy, hu⟩ := resCells_ok (w := w) zs cs j hn i c e1
  exact hu v (h2 i y v hy e2)
 | _ =>
  unfold resRow
  split
  ·rename_i heq; cases heq
  ·split
   ·exact resCell_ok h (fun e => by have := hn 0 (by rw [e]; rfl); simpa using this)
   ·exact h
theorem resRows_len : ∀ (vs zs : List V) (j : Nat), (resRows j zs vs).length = vs.length := by
 intro vs
 induction vs with
 | nil => intro zs j; cases zs <;> rfl
 | cons v vs ih => intro zs j; rw [resRows, List.length_cons, ih, List.length_cons]
theorem resRows_get : ∀ (vs zs : List V) (j i : Nat) (u : V), (resRows j zs vs)[i]? = some u -> ∃ v j' zs', vs[i]? = some v /\ u = resRow (j + j') zs' v /\ ∀ k c, v.cells[k]? = some c -> (cellsOf vs)[j' + k]? = some c := by
 intro vs
 induction vs with
 | nil => intro zs j i u h; cases zs <;> simp [resRows] at h
 | cons v vs ih =>
  intro zs j i u h
  rw [resRows] at h
  cases i with
  | zero =>
   simp only [List.getElem?_cons_zero, sj_] at h
   refine ⟨v, 0, zs, rfl, h.symm, fun k c hk => ?_⟩
   rw [cellsOf, Nat.zero_add, List.getElem?_append_left (gs_ hk).1]
   exact hk
  | succ i =>
   obtain ⟨y, j', zs', h1, h2, h3⟩ := ih _ _ i u (by simpa using h)
   refine ⟨y, v.cells.length + j', zs', by simpa using h1, by rw [h2]; congr 1; omega, fun k c hk => ?_⟩
   rw [cellsOf, List.getElem?_append_right (by omega)]
   rw [<- h3 k c hk]
   congr 1
   omega
theorem cellsOf_numB (l : List (List Nat)) : ∀ (vs : List V), cellsOf (V.mapBs (numB l) vs) = V.mapBs (numB l) (cellsOf vs) := by
 have happ : ∀ (a b : List V), V.mapBs (numB l) (a ++ b) = V.mapBs (numB l) a ++ V.mapBs (numB l) b := by
  intro a b
  induction a with
  | nil => rfl
  | cons x a ih => rw [List.cons_append, V.mapBs, V.mapBs, ih, List.cons_append]
 intro vs
 induction vs with
 | nil => rfl
 | cons v vs ih =>
  rw [V.mapBs, cellsOf, cellsOf, ih, happ]
  congr 1
  cases v <;> rfl
theorem numB_nil {l : List (List Nat)} : ∀ {cs : List V} {k : Nat}, (V.mapBs (numB l) cs)[k]? = some .nil -> cs[k]? = some .nil := by
 intro cs k h
 rw [mapBs_get] at h
 cases hc : cs[k]? with
 | none => rw [hc] at h; cases h
 | some c =>
  rw [hc] at h
  simp only [Option.map_some, sj_] at h
  cases c <;> first | rfl | (simp only [V.mapB, numB, Option.getD_some, Option.getD_none] at h; cases h)
theorem finish_ok (hA : Agree P c) (hs : Sim J st a w) (hF : ∀ k, J.F k -> J.w0.heap.size <= k) {fn : Func} {zs : List V} {r : V} (h : finish c zs st fn.results.toList = some r) :
  ∃ x, (results fn a.tmps).run P w = .ok x w /\ Answer J.R J.w0 r x w := by
 unfold finish at h
 split at h
 ·rename_i vs hvs
  simp only at h
  split at h
  ·rename_i hok
   obtain ⟨ys, hys, hl, hr⟩ := ressOf_ok hA hs _ vs hvs
   let v1 := V.mapBs (settle st.dead) (V.mapBs (coarse st.dup) vs)
   let l := (cellsOf v1).map cellB
   let J1 := (J.coarse st.dup).settled st.dead
   have g : Good (J.coarse st.dup) w := hs.good.coarse
   have hg1 : Good J1 w := g.settled
   have key : ∀ (i : Nat) (v : V) (y : Value), (V.mapBs (numB l) v1)[i]? = some v -> ys[i]? = some y -> VR (J1.placed l) w v y := by
    intro i v y hv hy
    rw [mapBs_get] at hv
    cases hv1 : v1[i]? with
    | none => rw [hv1] at hv; cases hv
    | some u =>
     rw [hv1] at hv
     simp only [Option.map_some, sj_] at hv
     subst hv
     have hu1 := hv1
     simp only [v1] at hv1
     rw [mapBs_get, mapBs_get] at hv1
     cases hv0 : vs[i]? with
     | none => rw [hv0] at hv1; cases hv1
     | some z =>
      rw [hv0] at hv1
      simp only [Option.map_some, sj_] at hv1
      have hz : VR J1 w u y := by
       rw [<- hv1]
       exact VR.sweep (leaf_settle g) _ y (VR.sweep (leaf_coarse hs.du) z y (hr i z y hv0 hy))
      refine VR.sweepC (fun v => ∀ u ∈ v.cells, okCell u = true /\ ∀ b ∈ cellB u, [b] ∈ l) (fun cs h u hu => ?_) (fun cs h => ?_) (fun _ cs h => ?_) leaf_place u y (fun z hz => ⟨okRes_mem hok z (cellsOf_mem (mem_of_get hu1) hz), fun b hb => ?_⟩) hz
      ·have := h u hu
       have huc : u.cells = [u] := by cases u <;> first | rfl | (exact absurd this.1 (by simp [okCell]))
       rw [huc]
       intro u' hu'
       rw [List.mem_singleton.1 hu']
       exact this
      ·exact absurd (h _ (List.mem_singleton.2 rfl)).1 (by simp [okCell])
      ·exact absurd (h _ (List.mem_singleton.2 rfl)).1 (by simp [okCell])
      ·have : cellB z = [b] := by cases z <;> simp [cellB] at hb ⊢ <;> exact hb.symm
       rw [<- this]
       exact List.mem_map.2 ⟨z, cellsOf_mem (mem_of_get hu1) hz, rfl⟩
   have key : ∀ (i : Nat) (v : V) (y : Value), (resRows 0 zs (V.mapBs (numB l) v1))[i]? = some v -> ys[i]? = some y -> VR (J1.placed l) w v y := by
    intro i v y hv hy
    obtain ⟨u, j', zs', h1, rfl, h3⟩ := resRows_get _ _ _ _ _ hv
    refine resRow_ok (key i u y h1 hy) (fun k hk => ?_)
    have h4 := h3 k .nil hk
    rw [cellsOf_numB] at h4
    have h5 := numB_nil h4
    rintro ⟨b, hb, _⟩
    have h6 : l[j' + k]? = some [] := by
     show ((cellsOf v1).map cellB)[j' + k]? = some []
     rw [List.getElem?_map, h5]
     rfl
    rw [Nat.zero_add, h6] at hb
    cases hb
   have hlen : (resRows 0 zs (V.mapBs (numB l) v1)).length = ys.length := by rw [resRows_len, mapBs_len, mapBs_len, mapBs_len, hl]
   have hval : ∃ x, (results fn a.tmps).run P w = .ok x w /\ VR (J1.placed l) w r x := by
    have hrun : (results fn a.tmps).run P w = .ok (if h : ys.toArray.size = 1 then ys.toArray[0] else .tuple ys.toArray) w := by
     unfold results
     rw [Array.mapM_eq_mapM_toList]
     simp only [Sem.run_bind, Sem.run_map, Sem.run_pure]
     exact congrArg (fun q : Result (List Value) => (q.andThen fun a w' => Result.ok a.toArray w').andThen fun a w' => Result.ok (if h : a.size = 1 then a[0] else Value.tuple a) w') hys
    refine ⟨_, hrun, ?_⟩
    change (match resRows 0 zs (V.mapBs (numB l) v1) with
     | [w] => some w
     | ws => some (V.tup ws)) = some r at h
    cases hm : resRows 0 zs (V.mapBs (numB l) v1) with
    | nil =>
     rw [hm] at h hlen
     simp only [sj_] at h
     subst h
     have : ys = [] := List.eq_nil_of_length_eq_zero (by simpa using hlen.symm)
     subst this
     exact .tup [] #[] rfl (fun i c v h => by simp at h)
    | cons u us =>
     cases us with
     | nil =>
      rw [hm] at h hlen
      simp only [sj_] at h
      subst h
      cases ys with
      | nil => simp at hlen
      | cons y ys =>
       have : ys = [] := List.eq_nil_of_length_eq_zero (by simpa using hlen.symm)
       subst this
       exact key 0 u y (by rw [hm]; rfl) rfl
     | cons u2 us =>
      rw [hm] at h hlen
      simp only [sj_] at h
      subst h
      have h1 : ¬ ys.toArray.size = 1 := by simp at hlen; simp; omega
      rw [dif_neg h1]
      refine .tup _ _ (by simpa using hlen) (fun i z y hz hy => key i z y (by rw [hm]; exact hz) (by simpa using hy))
   obtain ⟨x, hx1, hx2⟩ := hval
   refine ⟨x, hx1, ⟨g.os, g.tape, g.output, g.size, fun k hk => g.old k hk (fun hF' => by have := hF k hF'; omega), J1.placed l, hx2, hF, fun k hk => ⟨?_, hg1.slt k hk⟩, ?_, ?_, ?bz, fun k hk => ?zf, trivial, ?ns, ?nd⟩⟩
   case ns =>
    rintro j ⟨b, h1, _, h3⟩ m hm
    change J1.N _ m at hm
    rw [placed_at h1] at hm
    exact hg1.ns b h3 m hm
   case nd =>
    rintro j j' ⟨b, h1, h2, h3⟩ ⟨b', h1', h2', h3'⟩ hne m hm hm'
    change J1.N _ m at hm hm'
    rw [placed_at h1] at hm
    rw [placed_at h1'] at hm'
    exact hs.nd (hs.du hm.1) b b' h3.1 h3'.1 h3.2 h3'.2 (fun e => hne (by rw [<- h2, <- h2', e])) m hm.2 hm'.2
   case bz =>
    rintro j ⟨b, h1, _, h3⟩
    show J1.Z (J.blk _)
    rw [placed_at h1]
    exact hg1.bz b h3
   case zf =>
    obtain ⟨z1, z2, z3⟩ := hg1.zf k hk
    exact ⟨hF k z1, z2, z3⟩
   ·rcases hg1.sr k hk with h | h
    ·exact .inl h
    ·exact .inr (hF k h)
   ·rintro j ⟨b, h1, _, h3⟩
    show _ <= J.blk _ /\ J.blk _ < _ /\ ¬ J1.S (J.blk _) /\ J.cap _ <= _ /\ ∃ cur e, w.heap[J.blk _]? = _ /\ J.off _ + J.cap _ * J.sz _ <= _
    rw [placed_at h1]
    obtain ⟨b1, b2, b3, b4⟩ := hg1.base b h3
    refine ⟨hF _ b1, b2, ?_, b3, b4⟩
    rintro (h | ⟨b', hb', hdd, h⟩)
    ·exact hs.nds b h3.1 h3.2 h
    ·have := g.baseInj b b' h3.1 hb' h
     subst this
     rw [h3.2] at hdd
     cases hdd
   ·rintro j j' ⟨b, h1, h2, h3⟩ ⟨b', h1', h2', h3'⟩ he
    change J.blk _ = J.blk _ at he
    rw [placed_at h1, placed_at h1'] at he
    have := g.baseInj b b' h3.1 h3'.1 he
    subst this
    rw [<- h2, <- h2']
  ·cases h
 ·cases h
theorem sound_fn (hA : Agree P c) (hW : WrOk P c) (hD : Answers P den) (hdraw : DrawOk P c den) {k f : Nat} {fn : Func} {args : List V} {r : V} (hf : P.funcs[f]? = some fn) (h : fnRun c den (fun b hd st => iter b hd k st) f fn args = some r)
  {R : Nat -> Prop} {w : World} {vals : Array Value} (hg : globOk w) (hR : ∀ k, R k -> k < w.heap.size) (hl : args.length = vals.size) (hv : ∀ (i : Nat) (c : V) (v : Value), args[i]? = some c -> vals[i]? = some v -> Rd w R c v) :
  Calls P f vals w fun
   | .returned x, w' => Answer R w r x w'
   | _, _ => False := by
 unfold fnRun at h
 split at h
 ·cases h
 ·rename_i code hcode
  split at h
  ·cases h
  rename_i hdr
  have hdr : drawsOk (c.fg f) code = true := by simpa using hdr
  refine calls_of_wp hf hcode ?_
  let J : Ctx := { w0 := w, F := fun k => w.heap.size <= k, S := R, has := fun _ => False, blk := fun _ => 0, off := fun _ => 0, cap := fun _ => 0, sz := fun _ => 0, ln := fun _ => 0, lb := fun _ => False, box := fun _ => 0, R := R, Z := fun _ => False, N := fun _ _ => False, U := True }
  have hgood : Good J w := ⟨rfl, rfl, rfl, Nat.le_refl _, fun _ _ _ => rfl, fun _ h => h, hR, fun _ h => h.elim, fun _ _ h => h.elim, fun _ h => h.elim, fun _ _ h => h.elim, fun _ _ h => h.elim, fun _ h => .inl h, ⟨hg, fun k h => Nat.le_trans hg.2 h⟩, fun _ h => h.elim, fun _ h => h.elim, fun _ h => h.elim, fun h => h⟩
  have hs : Sim J ⟨args ++ List.replicate (fn.ntmps - args.length) .undef, List.replicate fn.ntmps none, fun _ => false, false⟩ { tmps := vals ++ Array.replicate (fn.ntmps - vals.size) undef, defers := [] } w := by
   refine ⟨hgood, rfl, by simp [hl], fun i v hi => ?_, fun k v hk => ?_, fun _ h => h.elim, fun _ => trivial, fun _ _ _ h => h.elim⟩
   ·simp only at hi ⊢
    rcases Nat.lt_or_ge i args.length with h1 | h1
    ·rw [List.getElem?_append_left h1] at hi
     have h2 : i < vals.size := by omega
     refine ⟨vals[i], by rw [Array.getElem?_append_left h2]; simp [h2], .rd _ _ (hv i v vals[i] hi (by simp [h2]))⟩
    ·rw [List.getElem?_append_right h1, List.getElem?_replicate] at hi
     split at hi
     ·rename_i h3
      simp only [sj_] at hi
      subst hi
      refine ⟨undef, ?_, VR.undef_ _⟩
      rw [Array.getElem?_append_right (by omega), Array.getElem?_replicate, if_pos (by omega)]
     ·cases hi
   ·simp only [List.getElem?_replicate] at hk
    split at hk <;> cases hk
  split at h
  ·rename_i s hx
   refine sound_exec hA hW hD hdraw code J _ _ w _ s _ hs hdr hx (fun a' w' ⟨J', hsame, hs'⟩ => ?_)
   obtain ⟨x, h1, h2⟩ := finish_ok hA hs' (by rw [hsame.2.1, hsame.1]; exact fun _ h => h) h
   rw [hsame.2.2, hsame.1] at h2
   exact ⟨hs'.dz, x, h1, h2⟩
  ·rename_i s hx
   refine sound_exec hA hW hD hdraw code J _ _ w _ s _ hs hdr hx (fun a' w' ⟨J', hsame, hs'⟩ => ?_)
   obtain ⟨x, h1, h2⟩ := finish_ok hA hs' (by rw [hsame.2.1, hsame.1]; exact fun _ h => h) h
   rw [hsame.2.2, hsame.1] at h2
   exact ⟨hs'.dz, x, h1, h2⟩
  ·cases h
theorem sound_denN (hA : Agree P c) (hW : WrOk P c) (hdraw : ∀ den, Answers P den -> DrawOk P c den) {ext : Nat -> List V -> Option V} (hext : Answers P ext) : ∀ k, Answers P (denN P c ext k) := by
 intro k
 induction k with
 | zero => intro f args r h; cases h
 | succ k ih =>
  intro f args r h
  rw [denN] at h
  cases he : ext f args with
  | some x =>
   rw [he] at h
   simp only [sj_] at h
   subst h
   exact hext f args x he
  | none =>
   rw [he] at h
   simp only at h
   cases hf : P.funcs[f]? with
   | none => rw [hf] at h; cases h
   | some fn =>
    rw [hf] at h
    simp only at h
    split at h
    ·cases h
    ·rename_i hn
     refine ⟨⟨fn, rfl, ?_, by simpa using hn⟩, fun R w vals hg hR hl hv => sound_fn hA hW ih (hdraw _ ih) hf h hg hR hl hv⟩
     unfold fnRun at h
     cases hb : fn.body with
     | none => rw [hb] at h; cases h
     | some _ => rfl
theorem sound_den (hA : Agree P c) (hW : WrOk P c) (hdraw : ∀ den, Answers P den -> DrawOk P c den) {ext : Nat -> List V -> Option V} (hext : Answers P ext) : Answers P (Go.Am.den P c ext) := by
 intro f args r h
 obtain ⟨k, hk⟩ := den_some h
 exact sound_denN hA hW hdraw hext k f args r hk
end
end Go.Am
end

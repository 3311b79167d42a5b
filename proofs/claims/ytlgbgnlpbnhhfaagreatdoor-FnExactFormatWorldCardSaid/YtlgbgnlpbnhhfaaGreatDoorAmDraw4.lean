/-
  A drawn region: every order comes to the same state. No theorem about a Go program stands here.
-/
import Derived.Test.YtlgbgnlpbnhhfaaGreatDoorAmDraw3
set_option linter.unusedVariables false
set_option linter.unusedSimpArgs false
namespace Go.Am
open Go Go.RowKit
section
variable {P : Program} {c : Cfg} {Γ Γ' : Ctx} {st st2 st' s1 s2 : St} {a : Act} {w w' : World} {den : Nat → List V → Option V} {ops : Array Oper} {o : Oper} {B : List Nat}

/-- What is still to be run, in the region's own order. -/
def pend (ops : Array Oper) (listed : Array Bool) : List Nat := (List.range ops.size).filter fun i => !listed.getD i true

theorem mem_pend {listed : Array Bool} {j : Nat} : j ∈ pend ops listed ↔ j < ops.size ∧ listed.getD j true = false := by
  unfold pend
  rw [List.mem_filter, List.mem_range]
  simp only [Bool.not_eq_true']
theorem pend_start : pend ops (Array.replicate ops.size false) = List.range ops.size := by
  unfold pend
  rw [List.filter_eq_self]
  intro i hi
  have := List.mem_range.1 hi
  simp [this]
theorem pend_sorted (listed : Array Bool) : (pend ops listed).Pairwise (· < ·) := List.Pairwise.filter _ List.pairwise_lt_range
theorem pend_nodup (listed : Array Bool) : (pend ops listed).Nodup := (pend_sorted listed).imp (fun h => Nat.ne_of_lt h)
theorem filter_split {i : Nat} : ∀ {pre suf : List Nat}, (pre ++ i :: suf).Nodup → (pre ++ i :: suf).filter (fun j => j != i) = pre ++ suf := by
  intro pre suf h
  have h1 : ∀ j ∈ pre, j ≠ i := fun j hj e => by
    subst e
    exact (List.nodup_append.1 h).2.2 j hj j (by simp) rfl
  have h2 : ∀ j ∈ suf, j ≠ i := fun j hj e => by
    subst e
    exact (List.nodup_cons.1 (List.nodup_append.1 h).2.1).1 hj
  rw [List.filter_append, List.filter_cons]
  simp only [bne_self_eq_false, Bool.false_eq_true, if_false]
  rw [List.filter_eq_self.2 (fun j hj => by simpa using h1 j hj), List.filter_eq_self.2 (fun j hj => by simpa using h2 j hj)]
theorem pend_set {listed : Array Bool} {i : Nat} : pend ops (listed.setIfInBounds i true) = (pend ops listed).filter (fun j => j != i) := by
  unfold pend
  rw [List.filter_filter]
  refine List.filter_congr fun j _ => ?_
  by_cases h : j = i
  · subst h
    by_cases hl : j < listed.size
    · simp [hl]
    · simp [Array.getElem?_eq_none (Nat.le_of_not_lt hl)]
  · rw [getD_set_ne true (Ne.symm h)]
    simp [h]

theorem runI_drop : ∀ (m k : Nat) (st : St), k + m = ops.size → runI c den ops (List.range' k m) st = runOps c den ops (ops.toList.drop k) st := by
  intro m
  induction m with
  | zero =>
    intro k st h
    rw [List.drop_eq_nil_of_le (by simp; omega)]
    rfl
  | succ m ih =>
    intro k st h
    have hk : k < ops.size := by omega
    rw [List.range'_succ, List.drop_eq_getElem_cons (by simpa using hk), runOps_cons, runI_cons (x := ops[k]) (by simp [hk])]
    simp only [Array.getElem_toList]
    refine congrArg _ (funext fun s => ih (k + 1) s (by omega))
theorem runI_all (st : St) : runI c den ops (List.range ops.size) st = runOps c den ops ops.toList st := by
  rw [List.range_eq_range', runI_drop ops.size 0 st (by omega), List.drop_zero]

/-- One operation of a drawn region. -/
theorem wpOp_ok (hA : Agree P c) (hD : Answers P den) {i : Nat} (hi : ops[i]? = some o) (hs : Sim Γ st a w) (h : step1 c den ops st o = some st') {Q : Exit → Act → World → Prop} {K : Act → World → Prop} (hK : ∀ a' w', Sims Γ st' a' w' → K a' w') : wpOp P ops Q i K a w := by
  unfold wpOp
  simp only [hi]
  unfold step1 at h
  cases hw : wanted ops st.t o with
  | none => rw [hw] at h; cases h
  | some b =>
    rw [hw] at h
    rw [wanted_ok hs hw]
    cases b with
    | true =>
      simp only [if_true] at h ⊢
      exact .inl (sound_step hA hD hs h K Q hK)
    | false =>
      simp only [Bool.false_eq_true, if_false] at h ⊢
      cases hd : o.dst with
      | none => rw [hd] at h; simp only [Option.some.injEq] at h; subst h; exact hK _ _ ⟨Γ, Same.rfl', hs⟩
      | some d => rw [hd] at h; simp only [Option.some.injEq] at h; subst h; exact hK _ _ ⟨Γ, Same.rfl', skip_ok hs d⟩

theorem any_ok (hA : Agree P c) (hD : Answers P den) (hR : Reg ops B) {Q : Exit → Act → World → Prop} : ∀ (fuel : Nat) (listed : Array Bool) (Γ : Ctx) (st : St) (a : Act) (w : World) (st' : St), Sim Γ st a w → Inv ops B (pend ops listed) st → listed.size = ops.size →
    (∀ j o, listed.getD j false = true → ops[j]? = some o → ∀ e ∈ o.after.toList, Region.binds .any e = true → listed.getD e.on false = true) → (pend ops listed).length ≤ fuel → runI c den ops (pend ops listed) st = some st' →
    (∀ a' w', Sims Γ st' a' w' → Q .normal a' w') → wpAny P .any ops Q fuel listed a w := by
  intro fuel
  have agree : ∀ (listed : Array Bool), listed.size = ops.size → ∀ j, j < ops.size → ∀ b, listed.getD j true = b → listed.getD j false = b := by
    intro listed hz j hj b h
    have : j < listed.size := by omega
    simpa [this] using h
  -- where nothing is ready nothing is pending
  have hdone : ∀ (listed : Array Bool), listed.size = ops.size → Region.ready .any ops listed = [] → pend ops listed = [] := by
    intro listed hz hr
    cases hp : pend ops listed with
    | nil => rfl
    | cons j rest =>
      exfalso
      have hj := mem_pend.1 (show j ∈ pend ops listed by rw [hp]; simp)
      have hsome : ops[j]? = some ops[j] := by simp [hj.1]
      have : j ∈ Region.ready .any ops listed := by
        refine mem_ready.2 ⟨hj.2, ops[j], hsome, fun e he _ => ?_⟩
        have hlt := hR.back j _ hsome e (by simpa using he)
        have hlt2 : e.on < ops.size := by omega
        cases hb : listed.getD e.on true with
        | true => exact agree listed hz e.on hlt2 true hb
        | false =>
          exfalso
          have hm : e.on ∈ pend ops listed := mem_pend.2 ⟨hlt2, hb⟩
          have hs := pend_sorted (ops := ops) listed
          rw [hp] at hm hs
          rcases List.mem_cons.1 hm with h | h
          · omega
          · have := (List.pairwise_cons.1 hs).1 _ h
            omega
      rw [hr] at this
      cases this
  induction fuel with
  | zero =>
    intro listed Γ st a w st' hs hI hz hcl hlen h hQ
    have hp : pend ops listed = [] := List.eq_nil_of_length_eq_zero (by omega)
    rw [hp] at h
    simp only [runI, Option.some.injEq] at h
    subst h
    refine ⟨?_, hQ a w ⟨Γ, Same.rfl', hs⟩⟩
    cases hr : Region.ready .any ops listed with
    | nil => rfl
    | cons i rest =>
      exfalso
      obtain ⟨h0, o, ho, _⟩ := mem_ready.1 (show i ∈ Region.ready .any ops listed by rw [hr]; simp)
      have : i ∈ pend ops listed := mem_pend.2 ⟨(Array.getElem?_eq_some_iff.1 ho).1, h0⟩
      rw [hp] at this
      cases this
  | succ fuel ih =>
    intro listed Γ st a w st' hs hI hz hcl hlen h hQ
    refine ⟨fun hr => ?_, fun i hi => ?_⟩
    · rw [hdone listed hz hr] at h
      simp only [runI, Option.some.injEq] at h
      subst h
      exact hQ a w ⟨Γ, Same.rfl', hs⟩
    · obtain ⟨h0, o, ho, hall⟩ := mem_ready.1 hi
      have hilt := (Array.getElem?_eq_some_iff.1 ho).1
      have him : i ∈ pend ops listed := mem_pend.2 ⟨hilt, h0⟩
      obtain ⟨pre, suf, hsplit⟩ := List.append_of_mem him
      have hnd := pend_nodup (ops := ops) listed
      have hsrt := pend_sorted (ops := ops) listed
      have hset : pend ops (listed.setIfInBounds i true) = pre ++ suf := by
        rw [pend_set, hsplit, filter_split (by rw [← hsplit]; exact hnd)]
      have hI' := hI
      rw [hsplit] at h hnd hsrt hI'
      obtain ⟨s, h1, h2⟩ := bubble hA hD hR ho pre suf st st' hI' hnd (fun j hj y hy => by
        have hjp : j ∈ pend ops listed := by rw [hsplit]; simp [hj]
        have hji : j < i := (List.pairwise_append.1 hsrt).2.2 j hj i (by simp)
        rcases hR.ord j i y o hji hy ho with h | h
        · exact h
        · exfalso
          have hlj := prec_listed (listed := fun k => listed.getD k false) hcl ops.size i j o ho (fun e he hb => hall e (by simpa using he) hb) h
          have := agree listed hz j (by omega) false (mem_pend.1 hjp).2
          simp only [this] at hlj
          cases hlj) h
      refine wpOp_ok hA hD ho hs h1 (fun a' w' hs' => ?_)
      obtain ⟨Γ', hsame, hs''⟩ := hs'
      have hilt2 : i < listed.size := by omega
      refine ih (listed.setIfInBounds i true) Γ' s a' w' st' hs'' ?_ (by simpa using hz) ?_ ?_ (by rw [hset]; exact h2) (fun a2 w2 h' => hQ _ _ (Sims.of hsame h'))
      · refine hI.step hA hD hR ho h1 (fun k hk => ?_)
        rw [pend_set, List.mem_filter] at hk
        exact ⟨hk.1, by simpa using hk.2⟩
      · intro j oj hj hoj e he hb
        by_cases hji : j = i
        · subst hji
          rw [ho] at hoj
          injection hoj with hoj
          subst hoj
          exact getD_set_true (hall e (by simpa using he) hb)
        · rw [getD_set_ne false (Ne.symm hji)] at hj
          exact getD_set_true (hcl j oj hj hoj e he hb)
      · have : (pend ops listed).length = (pre ++ suf).length + 1 := by rw [hsplit]; simp; omega
        rw [hset]
        omega

theorem Sim.drawn (hs : Sim Γ st a w) (n : Nat) : Sim Γ st a { w with drawn := n } := by
  have hc : ∀ x : Addr, ({ w with drawn := n } : World).cell? x = w.cell? x := fun x => rfl
  have hvr : ∀ v x, VR Γ w v x → VR Γ { w with drawn := n } v x := fun v x h =>
    VR.mono (w := w) (w' := { w with drawn := n }) (Γ := Γ) (Γ' := Γ) (p := fun _ => false) (r := fun _ => false) (fun _ h => h) (fun _ h => h) (fun _ _ _ => rfl) (fun b _ => ⟨Iff.rfl, fun _ => ⟨rfl, rfl, rfl, rfl, rfl, fun _ => rfl⟩⟩) (fun d _ => ⟨fun h => h, rfl⟩) h (anyB_false v) (anyP_false v)
  have g := hs.good
  refine ⟨⟨g.os, g.tape, g.output, g.size, g.old, g.new, g.slt, g.base, g.baseInj, g.box, g.boxInj, g.baseBox, g.sr, g.gl⟩, hs.dz, hs.len, fun i v h => ?_, fun d v h => ?_, hs.nds⟩
  · obtain ⟨x, h1, h2⟩ := hs.tm i v h
    exact ⟨x, h1, hvr v x h2⟩
  · obtain ⟨h1, cur, e, h2, h3, h4⟩ := hs.bx d v h
    refine ⟨h1, cur, e, h2, h3, fun j u hj => ?_⟩
    obtain ⟨x, h5, h6⟩ := h4 j u hj
    exact ⟨x, h5, hvr u x h6⟩

theorem drawOk (hA : Agree P c) (hm : P.follows .mixedOrders = true) (hD : Answers P den) : DrawOk P c den := by
  intro id ops B Γ st st' a w Q hs hclean hreg hent h hQ
  have hR := reg_of hreg
  unfold entryOk at hent
  rw [Bool.and_eq_true, List.all_eq_true, List.all_eq_true] at hent
  obtain ⟨he1, he2⟩ := hent
  refine wp_region_any hm ?_
  have hs' := hs.drawn (w.drawn + 1)
  refine any_ok hA hD hR ops.size (Array.replicate ops.size false) Γ st a _ st' hs' ?_ (by simp) ?_ ?_ (by rw [pend_start, runI_all]; exact h) hQ
  · refine ⟨⟨Γ, a, w, hs⟩, fun i hi o e ho he => ?_, fun i hi o x ho hx => ?_⟩
    · have hlt := hR.lt i o e ho he
      obtain ⟨hc1, hc2⟩ := hclean e hlt
      have hmem : o ∈ ops.toList := List.mem_of_getElem? (i := i) (by simpa using ho)
      have hb := he2 o hmem
      simp only [he, Bool.or_eq_true, Bool.not_eq_true', Bool.and_eq_true] at hb
      intro v hv
      refine ⟨?_, ?_⟩
      · rcases hv with hv | hv
        · exact anyBs_mem hc1 v hv
        · exact anyBo_mem hc2 v hv
      · cases hbx : mkBox o.op with
        | false => simp only [Bool.false_and]; exact anyP_false v
        | true =>
          rw [hbx] at hb
          simp only [Bool.true_eq_false, false_or] at hb
          simp only [Bool.true_and]
          rcases hv with hv | hv
          · exact anyPs_mem hb.1 v hv
          · exact anyPo_mem hb.2 v hv
    · have := he1 i hi
      rw [ho] at this
      simp only [Option.bind_some, hx] at this
      split at this
      · rename_i d n hq; exact ⟨d, n, hq⟩
      · cases this
  · intro j o hj
    by_cases hjl : j < ops.size
    · simp [hjl] at hj
    · simp [hjl] at hj
  · rw [pend_start]; simp
end
end Go.Am

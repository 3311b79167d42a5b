/-
  What the looking form gives is what the machine gives. No theorem about a Go program stands here.
-/
import Derived.Test.YtcajalfelmgeiaaAmEv
set_option linter.unusedVariables false
set_option linter.unusedSimpArgs false
namespace Go.Am
open Go
section
variable {c : Cfg} {den : Nat → List V → Option V} {α : Type}

theorem ck_enc {k : CK} {v : V} {e : k.T} (h : k.dec v = some e) : k.enc e = v := by
  cases k <;> cases v <;> simp only [CK.dec] at h <;> first | (cases h; done) | skip
  · injection h with h; subst h; rfl
  · split at h
    · rename_i hk
      subst hk
      injection h with h; subst h; rfl
    · cases h
  · injection h with h; subst h; rfl
  · split at h
    · rename_i hk
      obtain ⟨rfl, rfl⟩ := hk
      injection h with h; subst h; rfl
    · cases h
theorem cells_enc : ∀ {ks : List CK} {vs : List V} {e : cellsT ks}, cellsDec ks vs = some e → cellsEnc ks e = vs ∧ vs.length = ks.length := by
  intro ks
  induction ks with
  | nil =>
    intro vs e h
    cases vs with
    | nil => exact ⟨rfl, rfl⟩
    | cons v vs => simp [cellsDec] at h
  | cons k ks ih =>
    intro vs e h
    cases vs with
    | nil => simp [cellsDec] at h
    | cons v vs =>
      simp only [cellsDec] at h
      split at h
      · rename_i a b ha hb
        injection h with h
        subst h
        obtain ⟨h1, h2⟩ := ih hb
        exact ⟨by show k.enc a :: cellsEnc ks b = _; rw [ck_enc ha, h1], by simp [h2]⟩
      · cases h
theorem row_enc {ag : Bool} {ks : List CK} {v : V} {e : cellsT ks} (h : rowDec ag ks v = some e) : rowEnc ag ks e = v := by
  cases ag with
  | true =>
    cases v <;> simp only [rowDec] at h <;> first | (cases h; done) | skip
    simp only [rowEnc, (cells_enc h).1]
  | false =>
    cases v <;> simp only [rowDec] at h <;> first | (cases h; done) | (simp only [rowEnc, (cells_enc h).1]; rfl)

theorem chk_some {p : Prop} [Decidable p] {x : Option α} {r : α} (h : chk p x = some r) : p ∧ x = some r := by
  unfold chk at h
  split at h
  · exact ⟨‹_›, h⟩
  · cases h
theorem idx_some {ag : Bool} {ks : List CK} {xs : List V} {i : Nat} {k : cellsT ks → Option α} {r : α} (h : idx ag ks xs i k = some r) : ∃ e, xs[i]? = some (rowEnc ag ks e) ∧ k e = some r := by
  unfold idx at h
  split at h
  · rename_i e he
    cases hx : xs[i]? with
    | none => rw [hx] at he; cases he
    | some v =>
      rw [hx] at he
      exact ⟨e, by rw [row_enc he], h⟩
  · cases h
theorem idxAt_some {ks : List CK} {xs : List V} {i o : Nat} {k : cellsT ks → Option α} {r : α} (h : idxAt ks xs i o k = some r) : ∃ e v, xs[i]? = some v ∧ (v.cells.drop o).take ks.length = cellsEnc ks e ∧ ks.length ≤ (v.cells.drop o).length ∧ k e = some r := by
  unfold idxAt at h
  split at h
  · rename_i e he
    cases hx : xs[i]? with
    | none => rw [hx] at he; cases he
    | some v =>
      rw [hx] at he
      obtain ⟨h1, h2⟩ := cells_enc he
      refine ⟨e, v, rfl, h1.symm, ?_, h⟩
      rw [List.length_take] at h2
      omega
  · cases h
theorem cutK_some {n : Nat} {lo hi : Option V} {k : Nat → Nat → Option α} {r : α} (h : cutK n lo hi k = some r) : ∃ l u, cutB n lo hi = some (l, u) ∧ k l u = some r := by
  have hB : cutB n lo hi = match boundI 0 lo, boundI n hi with
      | some l, some h => if 0 ≤ l ∧ l ≤ h ∧ h ≤ n then some (l.toNat, h.toNat) else none
      | _, _ => none := by
    unfold cutB
    cases lo with
    | none => cases hi with
      | none => rfl
      | some w => cases w <;> rfl
    | some v => cases v <;> (cases hi with
      | none => rfl
      | some w => cases w <;> rfl)
  unfold cutK at h
  split at h
  · rename_i l u hl hu
    obtain ⟨h1, h2⟩ := chk_some h
    refine ⟨l.toNat, u.toNat, ?_, h2⟩
    rw [hB, hl, hu]
    simp only
    rw [if_pos h1]
  · cases h
theorem binK_some {i : TyInfo} {op : BinOp} {x y : V} {k : V → Option α} {r : α} (h : binK i op x y k = some r) : ∃ v, binV i op x y = some v ∧ k v = some r := by
  unfold binK at h
  split at h
  · rename_i a b
    obtain ⟨h1, h2⟩ := chk_some h
    refine ⟨_, ?_, h2⟩
    simp only [binV, strOp]
    rw [if_pos h1]
  · rename_i kd a kd' b
    split at h
    · rename_i hk
      obtain ⟨h1, h2⟩ := chk_some h
      refine ⟨_, ?_, h2⟩
      simp only [binV, if_pos hk, intOp, cmpInt, arith]
      rw [if_neg h1]
      rfl
    · cases h
  · rename_i kd a kd' b
    split at h
    · rename_i hk
      obtain ⟨h1, h2⟩ := chk_some h
      refine ⟨_, ?_, h2⟩
      simp only [binV, if_pos hk, intOp]
      rw [if_neg h1]
    · cases h
  · split at h
    · rename_i v hv; exact ⟨v, hv, h⟩
    · cases h

/-- A table of answers that are right. -/
def TabOk (den : Nat → List V → Option V) (tab : Nat → List V → (V → Option α) → Option α) : Prop := ∀ g args k r, tab g args k = some r → ∃ v, den g args = some v ∧ k v = some r

theorem le_none : Le (fun _ _ => none) den := fun _ _ _ h => by cases h

theorem valK_ok {tab : Nat → List V → (V → Option α) → Option α} (ht : TabOk den tab) {ρ : Operand → V} {η : Nat → Option V} {d : Nat} {op : Op} {k : Out → Option α} {r : α} (h : valK c tab ρ η d op k = some r) : ∃ o, valOp c den ρ η d op = some o ∧ k o = some r := by
  have dflt : (match valOp c (fun _ _ => none) ρ η d op with
    | some o => k o
    | none => none) = some r → ∃ o, valOp c den ρ η d op = some o ∧ k o = some r := by
    intro h
    cases hv : valOp c (fun _ _ => none) ρ η d op with
    | none => rw [hv] at h; cases h
    | some o => rw [hv] at h; exact ⟨o, valOp_le le_none hv, h⟩
  cases op with
  | pick x a b =>
    simp only [valK] at h
    split at h
    · rename_i t hx
      cases t with
      | true => exact ⟨_, by simp only [valOp, hx, plain], h⟩
      | false => exact ⟨_, by simp only [valOp, hx, plain], h⟩
    · cases h
  | binOp op t x y z =>
    simp only [valK] at h
    split at h
    · rename_i i hi
      obtain ⟨v, h1, h2⟩ := binK_some h
      exact ⟨_, by simp only [valOp, hi, h1, plain], h2⟩
    · cases h
  | load t a =>
    simp only [valK] at h
    split at h
    · rename_i i b s q xs j o hi ha
      split at h
      · rename_i ks hks
        split at h
        · rename_i hl
          obtain ⟨e, v, h1, h2, h3, h4⟩ := idxAt_some h
          refine ⟨_, ?_, h4⟩
          obtain ⟨hl, hor⟩ := hl
          simp only [valOp, hi, ha, loadV, cellsAt, h1, Option.map_some, packV]
          rw [if_neg (by omega)]
          cases hag : i.d.isAgg with
          | true => simp only [if_true, ← hl, plain, h2]; rfl
          | false =>
            have hz : i.size = 1 := hor.resolve_left (by rw [hag]; simp)
            simp only [Bool.false_eq_true, if_false, hz, if_true]
            rw [hl, hz] at h2 h3
            cases hcs : v.cells.drop o with
            | nil => rw [hcs] at h3; simp at h3
            | cons u us =>
              rw [hcs] at h2
              simp only [List.head?_cons, plain, rowEnc]
              rw [← h2]
              rfl
        · cases h
      · cases h
    · rename_i i v hi hne
      split at h
      · rename_i v' hv; exact ⟨_, by simp only [valOp, hi, hv, plain], h⟩
      · cases h
    · cases h
  | slice t x lo hi mx =>
    cases mx with
    | some m => exact dflt h
    | none =>
      simp only [valK] at h
      split at h
      · rename_i i hti
        split at h
        · rename_i hd
          split at h
          · rename_i s hx
            obtain ⟨l, u, h1, h2⟩ := cutK_some h
            exact ⟨_, by simp only [valOp, hti, hd, hx, h1, plain], h2⟩
          · cases h
        · rename_i e hd
          split at h
          · rename_i j hj
            split at h
            · rename_i hx
              obtain ⟨l, u, h1, h2⟩ := cutK_some h
              exact ⟨_, by simp only [valOp, hti, hd, hj, hx, cut, h1, plain], h2⟩
            · rename_i s f xs hx
              split at h
              · rename_i hs
                obtain ⟨l, u, h1, h2⟩ := cutK_some h
                exact ⟨_, by simp only [valOp, hti, hd, hj, hx, cut, if_pos hs, h1, plain], h2⟩
              · cases h
            · rename_i b s q xs hx
              split at h
              · rename_i hs
                obtain ⟨l, u, h1, h2⟩ := cutK_some h
                exact ⟨_, by simp only [valOp, hti, hd, hj, hx, cut, if_pos hs, h1, plain], h2⟩
              · cases h
            · rename_i b s q xs hx
              split at h
              · rename_i hs
                obtain ⟨l, u, h1, h2⟩ := cutK_some h
                exact ⟨_, by simp only [valOp, hti, hd, hj, hx, cut, if_pos hs, h1, plain], h2⟩
              · cases h
            · cases h
          · cases h
        · cases h
      · cases h
  | indexAddr t x y =>
    simp only [valK] at h
    split at h
    · rename_i i kk n hti hy
      split at h
      · rename_i e hd
        split at h
        · rename_i j hj
          split at h
          · rename_i s f xs hx
            split at h
            · rename_i ks hks
              split at h
              · rename_i hs
                obtain ⟨h1, h2⟩ := chk_some h
                obtain ⟨e', h3, h4⟩ := idx_some h2
                refine ⟨_, ?_, h4⟩
                simp only [valOp, hti, hy, hd, hj, hx, addrOf]
                rw [if_neg (by omega), if_pos hs, h3]
                rfl
              · cases h
            · cases h
          · rename_i b s q xs hx
            split at h
            · rename_i ks hks
              split at h
              · rename_i hs
                obtain ⟨h1, h2⟩ := chk_some h
                obtain ⟨e', h3, h4⟩ := idx_some h2
                refine ⟨_, ?_, h4⟩
                simp only [valOp, hti, hy, hd, hj, hx, addrOf]
                rw [if_neg (by omega), if_pos hs, h3]
                rfl
              · cases h
            · cases h
          · rename_i b s q xs hx
            split at h
            · rename_i hs
              obtain ⟨h1, h2⟩ := chk_some h
              refine ⟨_, ?_, h2⟩
              simp only [valOp, hti, hy, hd, hj, hx, addrOf]
              rw [if_neg (by omega), if_pos hs, if_pos h1.2]
              rfl
            · cases h
          · cases h
        · cases h
      · rename_i m e hd
        split at h
        · rename_i j hj
          split at h
          · rename_i v hv
            obtain ⟨h1, h2⟩ := chk_some h
            refine ⟨_, ?_, h2⟩
            simp only [valOp, hti, hy, hd, hj, if_pos h1, hv, plain]
          · cases h
        · cases h
      · cases h
    · cases h
  | index t x y =>
    simp only [valK] at h
    split at h
    · rename_i i kk n hti hy
      split at h
      · rename_i s hd hx
        unfold idxS at h
        obtain ⟨h1, h2⟩ := chk_some h
        split at h2
        · rename_i b hb
          refine ⟨_, ?_, h2⟩
          simp only [valOp, hti, hy, hd, hx]
          rw [if_neg (by omega), hb]
          rfl
        · cases h2
      · rename_i m e cs hd hx
        split at h
        · rename_i j hj
          split at h
          · rename_i v hv
            obtain ⟨h1, h2⟩ := chk_some h
            refine ⟨_, ?_, h2⟩
            simp only [valOp, hti, hy, hd, hx, hj, if_pos h1, hv, plain]
          · cases h
        · cases h
      · cases h
    · cases h
  | convert s t x =>
    simp only [valK] at h
    cases hc : convV c s t (ρ x) with
    | some v =>
      rw [hc] at h
      exact ⟨_, by simp only [valOp, hc, plain], h⟩
    | none =>
      rw [hc] at h
      simp only at h
      cases hr : convRows c s t (ρ x) with
      | some xs =>
        rw [hr] at h
        simp only [strO] at h
        cases hb : bytesOf xs with
        | none => rw [hb] at h; cases h
        | some l =>
          rw [hb] at h
          exact ⟨_, by simp only [valOp, hc, convB, hr, hb, plain, Option.map_some], h⟩
      | none =>
        rw [hr] at h
        simp only at h
        cases hf : bytesFor c s t (ρ x) with
        | none => rw [hf] at h; cases h
        | some v =>
          rw [hf] at h
          exact ⟨_, by simp only [valOp, hc, convB, hr, hf, Option.map_some], h⟩
  | makeSlice t l kk =>
    simp only [valK] at h
    split at h
    · rename_i e sz by_ z0 cm nz_ qz_ hti
      split at h
      · rename_i i k1 n k2 m hi hl hk
        split at h
        · rename_i hc
          split at h
          · rename_i z hz
            obtain ⟨⟨h1, h2, h3, h4⟩, h5⟩ := chk_some h
            refine ⟨_, ?_, h5⟩
            simp only [valOp, hti, hi, hl, hk]
            rw [if_pos ⟨h1, h2, h3, h4, hc.1, hc.2.1, hc.2.2⟩, hz]
          · cases h
        · cases h
      · cases h
    · cases h
  | call cl =>
    obtain ⟨callee, args, ts⟩ := cl
    cases callee with
    | invoke f m => exact dflt h
    | value f =>
      simp only [valK] at h
      split at h
      · rename_i g cap hf
        split at h
        · rename_i vs hvs
          obtain ⟨v, h1, h2⟩ := ht _ _ _ _ h
          split at h2
          · rename_i o ho
            exact ⟨o, by simp only [valOp, hf, hvs, h1, ho], h2⟩
          · cases h2
        · cases h
      · cases h
    | builtin bi =>
      cases bi with
      | append =>
        simp only [valK] at h
        split at h
        · rename_i x y t t' hx ht'
          split at h
          · rename_i e sz by_ z0 cm nz_ qz_ hti
            split at h
            · rename_i i hi hxv
              split at h
              · rename_i q ys hsrc
                split at h
                · rename_i hc
                  obtain ⟨h1, h2⟩ := chk_some h
                  refine ⟨_, ?_, h2⟩
                  simp only [valOp, hx, ht', hti, hi, hxv, hsrc]
                  rw [if_pos ⟨hc.1, hc.2, h1.1, h1.2⟩]
                · cases h
              · cases h
            · cases h
          · cases h
        · cases h
      | _ => exact dflt h
  | _ => exact dflt h
end
end Go.Am

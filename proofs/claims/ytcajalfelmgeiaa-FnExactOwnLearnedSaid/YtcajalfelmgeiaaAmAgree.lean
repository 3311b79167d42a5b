/-
  What the machine is told of the types is checked against the program by one reckoning. No theorem about a Go program stands here.
-/
import Derived.Test.YtcajalfelmgeiaaAmOps
import Derived.ChangeKeysEq
set_option linter.unusedVariables false
set_option linter.unusedSimpArgs false
namespace Go.Am
open Go Go.RowKit

/- A type's zero value, whatever the world. -/
mutual
def zeroOk : V → Value → Bool
  | .undef, _ => true
  | .bool b, .bool b' => b == b'
  | .int k n, .int k' n' => decide (k = k') && n == n'
  | .str s, .string x => x.data.toList == s
  | .nil, .slice none l c => l == 0 && c == 0
  | .agg cs, .agg vs => zerosOk cs vs.toList
  | _, _ => false
def zerosOk : List V → List Value → Bool
  | [], [] => true
  | c :: cs, v :: vs => zeroOk c v && zerosOk cs vs
  | _, _ => false
end
theorem zeroOk_always (v : V) : ∀ x, zeroOk v x = true → Always v x := by
  refine V.rec (motive_1 := fun v => ∀ x, zeroOk v x = true → Always v x) (motive_2 := fun l => ∀ xs, zerosOk l xs = true → l.length = xs.length ∧ ∀ (i : Nat) (c : V) (v : Value), l[i]? = some c → xs[i]? = some v → Always c v)
    ?_ ?_ ?_ ?_ ?_ ?_ ?_ ?_ ?_ ?_ ?_ ?_ ?_ ?_ ?_ ?_ ?_ v
  · intro x _ w S; exact .undef x
  · intro b x h w S
    cases x <;> simp only [zeroOk] at h <;> first | (cases h; done) | skip
    simp only [beq_iff_eq] at h
    subst h
    exact .bool b
  · intro k n x h w S
    cases x <;> simp only [zeroOk] at h <;> first | (cases h; done) | skip
    simp only [Bool.and_eq_true, decide_eq_true_eq, beq_iff_eq] at h
    obtain ⟨rfl, rfl⟩ := h
    exact .int k n
  · intro s x h w S
    cases x <;> simp only [zeroOk] at h <;> first | (cases h; done) | skip
    simp only [beq_iff_eq] at h
    exact .str s _ h
  · intro x h w S
    cases x with
    | slice a l c =>
      cases a with
      | none =>
        simp only [zeroOk, Bool.and_eq_true, beq_iff_eq] at h
        obtain ⟨h1, h2⟩ := h
        rw [h1, h2]
        exact .nil
      | some _ => simp [zeroOk] at h
    | _ => simp [zeroOk] at h
  · intro _ _ _ _ x h; simp [zeroOk] at h
  · intro _ _ _ _ _ x h; simp [zeroOk] at h
  · intro _ _ _ _ _ x h; simp [zeroOk] at h
  · intro _ _ x h; simp [zeroOk] at h
  · intro _ _ _ _ _ _ _ x h; simp [zeroOk] at h
  · intro _ _ _ _ x h; simp [zeroOk] at h
  · intro _ _ _ x h; simp [zeroOk] at h
  · intro cs ih x h w S
    cases x <;> simp only [zeroOk] at h <;> first | (cases h; done) | skip
    rename_i vs
    obtain ⟨h1, h2⟩ := ih _ h
    refine .agg cs vs (by simpa using h1) (fun i c v e1 e2 => h2 i c v e1 (by simpa using e2) w S)
  · intro _ _ x h; simp [zeroOk] at h
  · intro _ _ _ x h; simp [zeroOk] at h
  · intro xs h
    cases xs with
    | nil => exact ⟨rfl, fun i c v h => by simp at h⟩
    | cons x xs => simp [zerosOk] at h
  · intro c l hc hl xs h
    cases xs with
    | nil => simp [zerosOk] at h
    | cons x xs =>
      rw [zerosOk, Bool.and_eq_true] at h
      obtain ⟨h1, h2⟩ := hl xs h.2
      refine ⟨by simp [h1], fun i c' v e1 e2 => ?_⟩
      cases i with
      | zero =>
        simp only [List.getElem?_cons_zero, Option.some.injEq] at e1 e2
        subst e1; subst e2
        exact hc _ h.1
      | succ i => exact h2 i c' v (by simpa using e1) (by simpa using e2)

/-! ### equality of structs of scalars -/
def eqFieldKinds (g : Nat → Option (List V)) : Nat → List Field → Option (List V)
  | _, [] => some []
  | off, f :: fs => if f.name = "_" then none else if f.offset = off then (match g f.type with
    | some ks => (match eqFieldKinds g (off + ks.length) fs with
      | some ks' => some (ks ++ ks')
      | none => none)
    | none => none) else none
/-- The kinds of a comparable type's cells. -/
def eqKinds (P : Program) : Nat → Nat → Option (List V)
  | 0, _ => none
  | n + 1, t => match P.underlying t with
    | some .bool => some [.bool false]
    | some (.int k) => some [.int k 0]
    | some .string => some [.str []]
    | some (.struct fs) => if P.stoodInHeld t then none else (match eqFieldKinds (eqKinds P n) 0 fs.toList with
      | some ks => if P.cellsOf t = ks.length then some ks else none
      | none => none)
    | _ => none

theorem sameKinds_len : ∀ {ks cs : List V}, sameKinds ks cs = true → ks.length = cs.length := by
  intro ks
  induction ks with
  | nil => intro cs h; cases cs with
    | nil => rfl
    | cons c cs => simp [sameKinds] at h
  | cons k ks ih => intro cs h; cases cs with
    | nil => simp [sameKinds] at h
    | cons c cs => rw [sameKinds, Bool.and_eq_true] at h; simp [ih h.2]
theorem sameKinds_app : ∀ {k1 k2 cs : List V}, sameKinds (k1 ++ k2) cs = true → sameKinds k1 (cs.take k1.length) = true ∧ sameKinds k2 (cs.drop k1.length) = true := by
  intro k1
  induction k1 with
  | nil => intro k2 cs h; exact ⟨rfl, h⟩
  | cons k k1 ih =>
    intro k2 cs h
    cases cs with
    | nil => simp [sameKinds] at h
    | cons c cs =>
      rw [List.cons_append, sameKinds, Bool.and_eq_true] at h
      obtain ⟨h1, h2⟩ := ih h.2
      exact ⟨by simp only [List.length_cons, List.take_succ_cons, sameKinds, h.1, h1, Bool.and_self], by simpa using h2⟩
theorem eqCells_split : ∀ {cs ds : List V} {r : Bool} (n : Nat), eqCells cs ds = some r → ∃ r1 r2, eqCells (cs.take n) (ds.take n) = some r1 ∧ eqCells (cs.drop n) (ds.drop n) = some r2 ∧ r = (r1 && r2) := by
  intro cs
  induction cs with
  | nil =>
    intro ds r n h
    cases ds with
    | nil => simp only [eqCells, Option.some.injEq] at h; subst h; exact ⟨true, true, by simp [eqCells], by simp [eqCells], rfl⟩
    | cons d ds => simp [eqCells] at h
  | cons c cs ih =>
    intro ds r n h
    cases ds with
    | nil => simp [eqCells] at h
    | cons d ds =>
      cases n with
      | zero => exact ⟨true, r, by simp [eqCells], by simpa using h, by simp⟩
      | succ n =>
        rw [eqCells] at h
        split at h
        · rename_i x y hx hy
          simp only [Option.some.injEq] at h
          obtain ⟨r1, r2, h1, h2, h3⟩ := ih n hy
          refine ⟨x && r1, r2, ?_, by simpa using h2, by rw [← h, h3, Bool.and_assoc]⟩
          simp only [List.take_succ_cons, eqCells, hx, h1]
        · cases h
theorem scal_toList {s s' : List UInt8} {y y' : ByteArray} (h : y.data.toList = s) (h' : y'.data.toList = s') : (y.toList == y'.toList) = (s == s') := by
  rw [ByteArray.toList_eq, ByteArray.toList_eq, h, h']

section
variable {P : Program}
/-- A value of a type that is laid in cells. -/
def Packed (P : Program) (t : Nat) (cells : List Value) (a : Value) : Prop :=
  match P.underlying t with
  | some (.struct _) => a = .agg cells.toArray
  | _ => cells = [a]

theorem run_part_packed {t : Nat} {n : Nat} {ks : List V} (hk : eqKinds P n t = some ks) {xs : Array Value} {off : Nat} (hlen : off + ks.length ≤ xs.size) (w : World) :
    ∃ a, (part t xs off).run P w = .ok a w ∧ Packed P t ((xs.toList.drop off).take ks.length) a := by
  cases n with
  | zero => cases hk
  | succ n =>
    unfold eqKinds at hk
    have scalar : ks.length = 1 → (∀ fs, P.underlying t ≠ some (.struct fs)) → (∀ m e, P.underlying t ≠ some (.array m e)) → (∃ d, P.underlying t = some d) → ∃ a, (part t xs off).run P w = .ok a w ∧ Packed P t ((xs.toList.drop off).take ks.length) a := by
      intro h1 h2 h3 ⟨d, hd⟩
      have hlt : off < xs.size := by omega
      refine ⟨xs[off], ?_, ?_⟩
      · cases d <;> first | exact absurd hd (h2 _) | exact absurd hd (h3 _ _) | simp [part, isAgg, run_underlying hd, hlt]
      · unfold Packed
        rw [h1, hd]
        have : (xs.toList.drop off).take 1 = [xs[off]] := by
          rw [List.drop_eq_getElem_cons (by simpa using hlt)]
          simp
        cases d <;> first | exact absurd hd (h2 _) | exact this
    split at hk
    · rename_i hu; simp only [Option.some.injEq] at hk; subst hk; exact scalar rfl (by rw [hu]; simp) (by rw [hu]; simp) ⟨_, hu⟩
    · rename_i k hu; simp only [Option.some.injEq] at hk; subst hk; exact scalar rfl (by rw [hu]; simp) (by rw [hu]; simp) ⟨_, hu⟩
    · rename_i hu; simp only [Option.some.injEq] at hk; subst hk; exact scalar rfl (by rw [hu]; simp) (by rw [hu]; simp) ⟨_, hu⟩
    · rename_i fs hu
      split at hk
      · cases hk
      · split at hk
        · rename_i ks' hf
          split at hk
          · rename_i hc
            simp only [Option.some.injEq] at hk
            subst hk
            obtain ⟨i, hi⟩ := info_of_underlying hu
            refine ⟨.agg (xs.extract off (off + ks'.length)), ?_, ?_⟩
            · simp [part, isAgg, run_underlying hu, run_sizeOf w hi, hc]
            · unfold Packed
              rw [hu]
              simp only [Value.agg.injEq]
              apply Array.ext'
              simp [List.extract_eq_take_drop]
          · cases hk
        · cases hk
    · cases hk

theorem eqIn_ok : ∀ (n t : Nat) (ks : List V), eqKinds P n t = some ks → ∀ (m : Nat) (w : World) (xs ys : List Value) (a b : Value) (cs ds : List V) (r : Bool), Packed P t xs a → Packed P t ys b → cs.length = xs.length → ds.length = ys.length →
    sameKinds ks cs = true → sameKinds ks ds = true → (∀ (j : Nat) (c : V) (v : Value), cs[j]? = some c → xs[j]? = some v → Scal c v) → (∀ (j : Nat) (c : V) (v : Value), ds[j]? = some c → ys[j]? = some v → Scal c v) →
    eqCells cs ds = some r → (Op.equalIn (n + m) t a b).run P w = .ok r w := by
  intro n
  induction n with
  | zero => intro t ks hk; cases hk
  | succ n ih =>
    intro t ks hk m w xs ys a b cs ds r pa pb hl1 hl2 hk1 hk2 hs1 hs2 hr
    rw [show n + 1 + m = (n + m) + 1 by omega]
    unfold eqKinds at hk
    have one : ∀ {k : V} {cs : List V}, sameKinds [k] cs = true → ∃ c, cs = [c] ∧ sameKind k c = true := by
      intro k cs h
      cases cs with
      | nil => simp [sameKinds] at h
      | cons c cs =>
        cases cs with
        | nil => exact ⟨c, rfl, by simpa [sameKinds] using h⟩
        | cons _ _ => simp [sameKinds] at h
    split at hk
    · rename_i hu
      simp only [Option.some.injEq] at hk; subst hk
      unfold Packed at pa pb
      rw [hu] at pa pb
      simp only at pa pb
      subst pa; subst pb
      obtain ⟨c, rfl, hc⟩ := one hk1
      obtain ⟨d, rfl, hd⟩ := one hk2
      cases c <;> simp only [sameKind] at hc <;> first | (cases hc; done) | skip
      cases d <;> simp only [sameKind] at hd <;> first | (cases hd; done) | skip
      have e1 := hs1 0 _ _ rfl rfl
      have e2 := hs2 0 _ _ rfl rfl
      simp only [Scal] at e1 e2
      subst e1; subst e2
      simp only [eqCells, eqCell, Bool.and_true, Option.some.injEq] at hr
      rw [run_equalIn_bool w _ t _ _ hu, hr]
    · rename_i k hu
      simp only [Option.some.injEq] at hk; subst hk
      unfold Packed at pa pb
      rw [hu] at pa pb
      simp only at pa pb
      subst pa; subst pb
      obtain ⟨c, rfl, hc⟩ := one hk1
      obtain ⟨d, rfl, hd⟩ := one hk2
      cases c <;> simp only [sameKind] at hc <;> first | (cases hc; done) | skip
      cases d <;> simp only [sameKind] at hd <;> first | (cases hd; done) | skip
      simp only [decide_eq_true_eq] at hc hd
      subst hc; subst hd
      have e1 := hs1 0 _ _ rfl rfl
      have e2 := hs2 0 _ _ rfl rfl
      simp only [Scal] at e1 e2
      subst e1; subst e2
      simp only [eqCells, eqCell, if_true, Bool.and_true, Option.some.injEq] at hr
      rw [run_equalIn_int w _ t _ _ _ _ hu, hr]
    · rename_i hu
      simp only [Option.some.injEq] at hk; subst hk
      unfold Packed at pa pb
      rw [hu] at pa pb
      simp only at pa pb
      subst pa; subst pb
      obtain ⟨c, rfl, hc⟩ := one hk1
      obtain ⟨d, rfl, hd⟩ := one hk2
      cases c <;> simp only [sameKind] at hc <;> first | (cases hc; done) | skip
      cases d <;> simp only [sameKind] at hd <;> first | (cases hd; done) | skip
      have e1 := hs1 0 _ _ rfl rfl
      have e2 := hs2 0 _ _ rfl rfl
      simp only [Scal] at e1 e2
      obtain ⟨y1, rfl, h1⟩ := e1
      obtain ⟨y2, rfl, h2⟩ := e2
      simp only [eqCells, eqCell, Bool.and_true, Option.some.injEq] at hr
      rw [run_equalIn_string w _ t _ _ hu, scal_toList h1 h2, hr]
    · rename_i fs hu
      split at hk
      · cases hk
      · rename_i hst
        split at hk
        · rename_i ks' hf
          split at hk
          · rename_i hc
            simp only [Option.some.injEq] at hk
            subst hk
            unfold Packed at pa pb
            rw [hu] at pa pb
            simp only at pa pb
            subst pa; subst pb
            have hfo : P.fieldsOf t = fs := by unfold Program.fieldsOf; rw [hu]
            rw [run_equalIn_struct w (n + m) t _ _ (by rw [hfo]; exact hu) (by simpa using hst), hfo]
            have hlx : xs.length = ks'.length := by rw [← hl1, ← sameKinds_len hk1]
            have hly : ys.length = ks'.length := by rw [← hl2, ← sameKinds_len hk2]
            -- over the fields
            have key : ∀ (fs : List Field) (off : Nat) (ks1 : List V) (cs1 ds1 : List V) (r : Bool), eqFieldKinds (eqKinds P n) off fs = some ks1 → off + ks1.length ≤ xs.length → off + ks1.length ≤ ys.length →
                cs1 = (cs.drop off).take ks1.length → ds1 = (ds.drop off).take ks1.length → sameKinds ks1 cs1 = true → sameKinds ks1 ds1 = true → eqCells cs1 ds1 = some r → (Op.eqFields (n + m) xs.toArray ys.toArray fs).run P w = .ok r w := by
              intro fs
              induction fs with
              | nil =>
                intro off ks1 cs1 ds1 r h1 _ _ h2 h3 _ _ h4
                simp only [eqFieldKinds, Option.some.injEq] at h1
                subst h1
                simp only [List.length_nil, List.take_zero] at h2 h3
                subst h2; subst h3
                simp only [eqCells, Option.some.injEq] at h4
                subst h4
                simp [Op.eqFields]
              | cons f fs ihf =>
                intro off ks1 cs1 ds1 r h1 g1 g2 h2 h3 h5 h6 h4
                simp only [eqFieldKinds] at h1
                split at h1
                · cases h1
                · rename_i hn
                  split at h1
                  · rename_i hoff
                    split at h1
                    · rename_i ka hka
                      split at h1
                      · rename_i kb hkb
                        simp only [Option.some.injEq] at h1
                        subst h1
                        rw [List.length_append] at g1 g2 h2 h3
                        obtain ⟨a1, p1, q1⟩ := run_part_packed hka (xs := xs.toArray) (off := off) (by simp; omega) w
                        obtain ⟨b1, p2, q2⟩ := run_part_packed hka (xs := ys.toArray) (off := off) (by simp; omega) w
                        obtain ⟨r1, r2, s1, s2, s3⟩ := eqCells_split ka.length h4
                        obtain ⟨u1, u2⟩ := sameKinds_app h5
                        obtain ⟨v1, v2⟩ := sameKinds_app h6
                        simp only at q1 q2
                        have tk : ∀ (l : List V), ((l.drop off).take (ka.length + kb.length)).take ka.length = (l.drop off).take ka.length := fun l => by rw [List.take_take]; congr 1; omega
                        have dk : ∀ (l : List V), ((l.drop off).take (ka.length + kb.length)).drop ka.length = (l.drop (off + ka.length)).take kb.length := fun l => by rw [List.drop_take, List.drop_drop]; congr 1; omega
                        rw [h2, tk] at s1 u1
                        rw [h3, tk] at s1 v1
                        rw [h2, dk] at s2 u2
                        rw [h3, dk] at s2 v2
                        have he := ih f.type ka hka m w _ _ a1 b1 _ _ r1 q1 q2 (by simp; omega) (by simp; omega) u1 v1
                          (fun j c v e1 e2 => by
                            have hj : j < ka.length := by have := (List.getElem?_eq_some_iff.1 e1).1; simp at this; omega
                            rw [List.getElem?_take_of_lt hj, List.getElem?_drop] at e1 e2
                            exact hs1 (off + j) c v e1 e2)
                          (fun j c v e1 e2 => by
                            have hj : j < ka.length := by have := (List.getElem?_eq_some_iff.1 e1).1; simp at this; omega
                            rw [List.getElem?_take_of_lt hj, List.getElem?_drop] at e1 e2
                            exact hs2 (off + j) c v e1 e2) s1
                        have hrest := ihf (off + ka.length) kb _ _ r2 hkb (by omega) (by omega) rfl rfl u2 v2 s2
                        simp only [Op.eqFields, hn, ne_eq, not_false_eq_true, if_true, Sem.run_bind, hoff, p1, p2, he, Result.andThen_ok]
                        cases r1
                        · simp [s3]
                        · simpa [s3] using hrest
                      · cases h1
                    · cases h1
                  · cases h1
            exact key fs.toList 0 ks' cs ds r hf (by omega) (by omega) (by rw [List.drop_zero, List.take_of_length_le (by omega)]) (by rw [List.drop_zero, List.take_of_length_le (by omega)]) hk1 hk2 hr
          · cases hk
        · cases hk
    · cases hk

/-! ### the check -/
def kindsEq : List V → List V → Bool
  | [], [] => true
  | .bool _ :: az, .bool _ :: bs => kindsEq az bs
  | .int k _ :: az, .int k' _ :: bs => decide (k = k') && kindsEq az bs
  | .str _ :: az, .str _ :: bs => kindsEq az bs
  | _, _ => false
theorem kindsEq_same : ∀ {ks zs : List V}, kindsEq ks zs = true → ∀ cs, sameKinds zs cs = true → sameKinds ks cs = true := by
  intro ks
  induction ks with
  | nil => intro zs h cs hc; cases zs with
    | nil => exact hc
    | cons _ _ => simp [kindsEq] at h
  | cons k ks ih =>
    intro zs h cs hc
    cases zs with
    | nil => cases k <;> simp [kindsEq] at h
    | cons z zs =>
      cases cs with
      | nil => simp [sameKinds] at hc
      | cons c cs =>
        rw [sameKinds, Bool.and_eq_true] at hc
        rw [sameKinds, Bool.and_eq_true]
        cases k <;> cases z <;> simp only [kindsEq] at h <;> first | (cases h; done) | skip
        · exact ⟨by cases c <;> simp_all [sameKind], ih h cs hc.2⟩
        · rw [Bool.and_eq_true, decide_eq_true_eq] at h
          obtain ⟨rfl, h⟩ := h
          exact ⟨by cases c <;> simp_all [sameKind], ih h cs hc.2⟩
        · exact ⟨by cases c <;> simp_all [sameKind], ih h cs hc.2⟩

def descOk (P : Program) (t : Nat) (d : Ty) : Bool :=
  match d, P.underlying t with
  | .bool, some .bool => true
  | .int k, some (.int k') => decide (k = k')
  | .str, some .string => true
  | .slice e, some (.slice e') => e == e'
  | .struct fs, some (.struct fields) => decide (fields.toList.map (fun f => (f.offset, f.type)) = fs) && fields.toList.all (fun f => (P.info? f.type).isSome)
  | .array n e, some (.array n' e') => n == n' && e == e'
  | .ptr _, some (.pointer _) => true
  | _, _ => false
def checkTy (P : Program) (t : Nat) (i : TyInfo) : Bool :=
  match P.info? t with
  | none => false
  | some ti => ti.size == i.size && ti.bytes == i.bytes && (match ti.zero with
    | none => false
    | some z => zeroOk i.zero z && zerosOk i.zero.cells z.cells.toList && z.cells.toList.all (·.oneCell')) && i.zero.cells.length == i.size && descOk P t i.d &&
      (!i.cmp || (!P.eqGuardType P.depth t && (match P.underlying t, eqKinds P 10000 t with
        | some (.struct _), some ks => kindsEq ks i.zero.cells
        | _, _ => false)))

theorem check_agree {c : Cfg} {t : Nat} {i : TyInfo} (h : checkTy P t i = true) : ∃ ti, AgreeT P c t i ti := by
  unfold checkTy at h
  split at h
  · cases h
  · rename_i ti hti
    simp only [Bool.and_eq_true, beq_iff_eq] at h
    obtain ⟨⟨⟨⟨⟨h1, h2⟩, h3⟩, h4⟩, h5⟩, h6⟩ := h
    split at h3
    · cases h3
    · rename_i z hz
      simp only [Bool.and_eq_true, List.all_eq_true] at h3
      obtain ⟨⟨z1, z2⟩, z3⟩ := h3
      have hcells : i.zero.cells.length = z.cells.toList.length ∧ ∀ (j : Nat) (c : V) (v : Value), i.zero.cells[j]? = some c → z.cells.toList[j]? = some v → Always c v := by
        have := zeroOk_always (.agg i.zero.cells) (.agg z.cells) (by simpa [zeroOk] using z2)
        have h0 := this default (fun _ => True)
        cases h0 with
        | agg _ _ hl _ =>
          refine ⟨by simpa using hl, fun j c v e1 e2 w S => ?_⟩
          have h' := this w S
          cases h' with
          | agg _ _ _ hr => exact hr j c v e1 (by simpa using e2)
      refine ⟨ti, hti, h1, h2, ⟨z, hz, zeroOk_always _ _ z1, hcells.1.symm, z3, fun j c hj => ?_⟩, h4, ?_, ?_, ?_, ?_, ?_, ?_, ?_, ?_⟩
      · have hlt : j < z.cells.toList.length := by rw [← hcells.1]; exact (List.getElem?_eq_some_iff.1 hj).1
        refine ⟨z.cells.toList[j], ?_, hcells.2 j c _ hj (List.getElem?_eq_getElem hlt)⟩
        rw [← Array.getElem?_toList]
        exact List.getElem?_eq_getElem hlt
      · intro e; rw [e] at h5; unfold descOk at h5; split at h5 <;> simp_all
      · intro k e; rw [e] at h5; unfold descOk at h5; split at h5 <;> simp_all
      · intro e; rw [e] at h5; unfold descOk at h5; split at h5 <;> simp_all
      · intro k e; rw [e] at h5; unfold descOk at h5; split at h5 <;> simp_all
      · intro fs e
        rw [e] at h5; unfold descOk at h5
        split at h5 <;> first | (cases h5; done) | skip
        all_goals first | (rename_i heq _; cases heq; done) | skip
        rename_i _ _ fs' fields heq hu
        injection heq with heq
        subst heq
        simp only [Bool.and_eq_true, decide_eq_true_eq, List.all_eq_true] at h5
        exact ⟨fields, hu, h5.1, fun f hf => Option.isSome_iff_exists.1 (h5.2 f hf)⟩
      · intro n k e; rw [e] at h5; unfold descOk at h5; split at h5 <;> simp_all
      · intro hc
        rw [hc] at h6
        simp only [Bool.not_true, Bool.false_or, Bool.and_eq_true, Bool.not_eq_true'] at h6
        refine ⟨h6.1, fun w xs ys cs ds r g1 g2 g3 g4 g5 g6 g7 => ?_⟩
        have h7 := h6.2
        split at h7
        · rename_i fs ks hu hks
          exact eqIn_ok 10000 t ks hks 0 w xs.toList ys.toList _ _ cs ds r (by unfold Packed; rw [hu]) (by unfold Packed; rw [hu]) (by simpa using g1) (by simpa using g2) (kindsEq_same h7 cs g3) (kindsEq_same h7 ds g4)
            (fun j c v e1 e2 => g5 j c v e1 (by simpa using e2)) (fun j c v e1 e2 => g6 j c v e1 (by simpa using e2)) g7
        · cases h7
      · intro ha
        unfold descOk at h5
        split at h5 <;> first | (cases h5; done) | skip
        all_goals first | (simp [Ty.isAgg, *] at ha; done) | (rename_i hu; exact ⟨_, hu, fun _ => by simp, fun _ _ => by simp⟩)

/-- All types at once. -/
def checkTys (P : Program) (tys : List (Option TyInfo)) : Bool := (List.range tys.length).all fun t => match tys.getD t none with
  | some i => checkTy P t i
  | none => true
theorem agree_of {c : Cfg} (tys : List (Option TyInfo)) (hc : ∀ t, c.ty t = tys.getD t none) (h : checkTys P tys = true) : Agree P c := by
  intro t i ht
  rw [hc] at ht
  unfold checkTys at h
  rw [List.all_eq_true] at h
  rcases Nat.lt_or_ge t tys.length with hlt | hge
  · have := h t (List.mem_range.2 hlt)
    rw [ht] at this
    exact check_agree this
  · rw [List.getD_eq_getElem?_getD, List.getElem?_eq_none hge] at ht
    cases ht
end
end Go.Am

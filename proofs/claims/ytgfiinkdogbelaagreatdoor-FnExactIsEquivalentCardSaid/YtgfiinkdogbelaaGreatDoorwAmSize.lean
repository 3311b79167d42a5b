/-
  Sizes, copies and comparisons of data, the steps that all types share.
-/
import Derived.Test.YtgfiinkdogbelaaGreatDoorwAmPure
import Derived.ChangeKeysEq
import Derived.Test.YtgfiinkdogbelaaGreatDoorwAmDraw
import Derived.ReadAgain
import Derived.ChangeSame
import Derived.Handed
section
set_option linter.unusedVariables false
set_option linter.unusedSimpArgs false
namespace Go.Am
open Go Go.RowKit
mutual
def zeroOk : V -> Value -> Bool
 | .undef, _ => true
 | .bool b, .bool b' => b == b'
 | .int k n, .int k' n' => decide (k = k') && n == n'
 | .str s, .string x => x.data.toList == s
 | .nil, .slice none l c => l == 0 && c == 0
 | .agg cs, .agg vs => zerosOk cs vs.toList
 | _, _ => false
def zerosOk : List V -> List Value -> Bool
 | [], [] => true
 | c :: cs, v :: vs => zeroOk c v && zerosOk cs vs
 | _, _ => false
end
theorem zeroOk_always (v : V) : ∀ x, zeroOk v x = true -> Always v x := by
 refine V.rec (motive_1 := fun v => ∀ x, zeroOk v x = true -> Always v x) (motive_2 := fun l => ∀ xs, zerosOk l xs = true -> l.length = xs.length /\ ∀ (i : Nat) (c : V) (v : Value), l[i]? = some c -> xs[i]? = some v -> Always c v)
  ?_ ?_ ?_ ?_ ?_ ?_ ?_ ?_ ?_ ?_ ?_ ?_ ?_ ?_ ?_ ?_ ?_ v
 ·intro x _ w S; exact .undef x
 ·intro b x h w S
  cases x <;> simp only [zeroOk] at h <;> first | (cases h; done) | skip
  simp only [beq_iff_eq] at h
  subst h
  exact .bool b
 ·intro k n x h w S
  cases x <;> simp only [zeroOk] at h <;> first | (cases h; done) | skip
  simp only [Bool.and_eq_true, decide_eq_true_eq, beq_iff_eq] at h
  obtain ⟨rfl, rfl⟩ := h
  exact .int k n
 ·intro s x h w S
  cases x <;> simp only [zeroOk] at h <;> first | (cases h; done) | skip
  simp only [beq_iff_eq] at h
  exact .str s _ h
 ·intro x h w S
  cases x with
  | slice a l c =>
   cases a with
   | none =>
    simp only [zeroOk, Bool.and_eq_true, beq_iff_eq] at h
    obtain ⟨h1, h2⟩ := h
    rw [h1, h2]
    exact .nil
   | some _ => simp [zeroOk] at h
  | _ => simp [zeroOk] at h
 ·intro _ _ _ _ x h; simp [zeroOk] at h
 ·intro _ _ _ _ _ x h; simp [zeroOk] at h
 ·intro _ _ _ _ _ x h; simp [zeroOk] at h
 ·intro _ _ x h; simp [zeroOk] at h
 ·intro _ _ _ _ _ _ _ x h; simp [zeroOk] at h
 ·intro _ _ _ _ x h; simp [zeroOk] at h
 ·intro _ _ _ x h; simp [zeroOk] at h
 ·intro cs ih x h w S
  cases x <;> simp only [zeroOk] at h <;> first | (cases h; done) | skip
  rename_i vs
  obtain ⟨h1, h2⟩ := ih _ h
  refine .agg cs vs (by simpa using h1) (fun i c v e1 e2 => h2 i c v e1 (by simpa using e2) w S)
 ·intro _ _ x h; simp [zeroOk] at h
 ·intro _ _ _ x h; simp [zeroOk] at h
 ·intro xs h
  cases xs with
  | nil => exact ⟨rfl, fun i c v h => by simp at h⟩
  | cons x xs => simp [zerosOk] at h
 ·intro c l hc hl xs h
  cases xs with
  | nil => simp [zerosOk] at h
  | cons x xs =>
   rw [zerosOk, Bool.and_eq_true] at h
   obtain ⟨h1, h2⟩ := hl xs h.2
   refine ⟨by simp [h1], fun i c' v e1 e2 => ?_⟩
   cases i with
   | zero =>
    simp only [List.getElem?_cons_zero, sj_] at e1 e2
    subst e1; subst e2
    exact hc _ h.1
   | succ i => exact h2 i c' v (by simpa using e1) (by simpa using e2)
def eqFieldKinds (g : Nat -> Option (List V)) : Nat -> List Field -> Option (List V)
 | _, [] => some []
 | off, f :: fs => if f.name = "_" then none else if f.offset = off then (match g f.type with
  | some ks => (match eqFieldKinds g (off + ks.length) fs with
   | some ks' => some (ks ++ ks')
   | none => none)
  | none => none) else none
def eqKinds (P : Program) : Nat -> Nat -> Option (List V)
 | 0, _ => none
 | n + 1, t => match P.underlying t with
  | some .bool => some [.bool false]
  | some (.int k) => some [.int k 0]
  | some .string => some [.str []]
  | some (.struct fs) => if P.stoodInHeld t then none else (match eqFieldKinds (eqKinds P n) 0 fs.toList with
   | some ks => if P.cellsOf t = ks.length then some ks else none
   | none => none)
  | _ => none
theorem sameKinds_len : ∀ {ks cs : List V}, sameKinds ks cs = true -> ks.length = cs.length := by
 intro ks
 induction ks with
 | nil => intro cs h; cases cs with
  | nil => rfl
  | cons c cs => simp [sameKinds] at h
 | cons k ks ih => intro cs h; cases cs with
  | nil => simp [sameKinds] at h
  | cons c cs => rw [sameKinds, Bool.and_eq_true] at h; simp [ih h.2]
theorem sameKinds_app : ∀ {k1 k2 cs : List V}, sameKinds (k1 ++ k2) cs = true -> sameKinds k1 (cs.take k1.length) = true /\ sameKinds k2 (cs.drop k1.length) = true := by
 intro k1
 induction k1 with
 | nil => intro k2 cs h; exact ⟨rfl, h⟩
 | cons k k1 ih =>
  intro k2 cs h
  cases cs with
  | nil => simp [sameKinds] at h
  | cons c cs =>
   rw [List.cons_append, sameKinds, Bool.and_eq_true] at h
   obtain ⟨h1, h2⟩ := ih h.2
   exact ⟨by simp only [List.length_cons, List.take_succ_cons, sameKinds, h.1, h1, Bool.and_self], by simpa using h2⟩
theorem eqCells_split : ∀ {cs ds : List V} {r : Bool} (n : Nat), eqCells cs ds = some r -> ∃ r1 r2, eqCells (cs.take n) (ds.take n) = some r1 /\ eqCells (cs.drop n) (ds.drop n) = some r2 /\ r = (r1 && r2) := by
 intro cs
 induction cs with
 | nil =>
  intro ds r n h
  cases ds with
  | nil => simp only [eqCells, sj_] at h; subst h; exact ⟨true, true, by simp [eqCells], by simp [eqCells], rfl⟩
  | cons d ds => simp [eqCells] at h
 | cons c cs ih =>
  intro ds r n h
  cases ds with
  | nil => simp [eqCells] at h
  | cons d ds =>
   cases n with
   | zero => exact ⟨true, r, by simp [eqCells], by simpa using h, by simp⟩
   | succ n =>
    rw [eqCells] at h
    split at h
    ·rename_i x y hx hy
     simp only [sj_] at h
     obtain ⟨r1, r2, h1, h2, h3⟩ := ih n hy
     refine ⟨x && r1, r2, ?_, by simpa using h2, by rw [<- h, h3, Bool.and_assoc]⟩
     simp only [List.take_succ_cons, eqCells, hx, h1]
    ·cases h
theorem scal_toList {s s' : List UInt8} {y y' : ByteArray} (h : y.data.toList = s) (h' : y'.data.toList = s') : (y.toList == y'.toList) = (s == s') := by
 rw [ByteArray.toList_eq, ByteArray.toList_eq, h, h']
section
variable {P : Program}
def Packed (P : Program) (t : Nat) (cells : List Value) (a : Value) : Prop :=
 match P.underlying t with
 | some (.struct _) => a = .agg cells.toArray
 | _ => cells = [a]
theorem run_part_packed {t : Nat} {n : Nat} {ks : List V} (hk : eqKinds P n t = some ks) {xs : Array Value} {off : Nat} (hlen : off + ks.length <= xs.size) (w : World) :
  ∃ a, (part t xs off).run P w = .ok a w /\ Packed P t ((xs.toList.drop off).take ks.length) a := by
 cases n with
 | zero => cases hk
 | succ n =>
  unfold eqKinds at hk
  have scalar : ks.length = 1 -> (∀ fs, P.underlying t ≠ some (.struct fs)) -> (∀ m e, P.underlying t ≠ some (.array m e)) -> (∃ d, P.underlying t = some d) -> ∃ a, (part t xs off).run P w = .ok a w /\ Packed P t ((xs.toList.drop off).take ks.length) a := by
   intro h1 h2 h3 ⟨d, hd⟩
   have hlt : off < xs.size := by omega
   refine ⟨xs[off], ?_, ?_⟩
   ·cases d <;> first | exact absurd hd (h2 _) | exact absurd hd (h3 _ _) | simp [part, isAgg, run_underlying hd, hlt]
   ·unfold Packed
    rw [h1, hd]
    have : (xs.toList.drop off).take 1 = [xs[off]] := by
     rw [List.drop_eq_getElem_cons (by simpa using hlt)]
     simp
    cases d <;> first | exact absurd hd (h2 _) | exact this
  split at hk
  ·rename_i hu; simp only [sj_] at hk; subst hk; exact scalar rfl (by rw [hu]; simp) (by rw [hu]; simp) ⟨_, hu⟩
  ·rename_i k hu; simp only [sj_] at hk; subst hk; exact scalar rfl (by rw [hu]; simp) (by rw [hu]; simp) ⟨_, hu⟩
  ·rename_i hu; simp only [sj_] at hk; subst hk; exact scalar rfl (by rw [hu]; simp) (by rw [hu]; simp) ⟨_, hu⟩
  ·rename_i fs hu
   split at hk
   ·cases hk
   ·split at hk
    ·rename_i ks' hf
     split at hk
     ·rename_i hc
      simp only [sj_] at hk
      subst hk
      obtain ⟨i, hi⟩ := info_of_underlying hu
      refine ⟨.agg (xs.extract off (off + ks'.length)), ?_, ?_⟩
      ·simp [part, isAgg, run_underlying hu, run_sizeOf w hi, hc]
      ·unfold Packed
       rw [hu]
       simp only [Value.agg.injEq]
       apply Array.ext'
       simp [List.extract_eq_take_drop]
     ·cases hk
    ·cases hk
  ·cases hk
theorem eqIn_ok : ∀ (n t : Nat) (ks : List V), eqKinds P n t = some ks -> ∀ (m : Nat) (w : World) (xs ys : List Value) (a b : Value) (cs ds : List V) (r : Bool), Packed P t xs a -> Packed P t ys b -> cs.length = xs.length -> ds.length = ys.length ->
  sameKinds ks cs = true -> sameKinds ks ds = true -> (∀ (j : Nat) (c : V) (v : Value), cs[j]? = some c -> xs[j]? = some v -> Scal c v) -> (∀ (j : Nat) (c : V) (v : Value), ds[j]? = some c -> ys[j]? = some v -> Scal c v) ->
  eqCells cs ds = some r -> (Op.equalIn (n + m) t a b).run P w = .ok r w := by
 intro n
 induction n with
 | zero => intro t ks hk; cases hk
 | succ n ih =>
  intro t ks hk m w xs ys a b cs ds r pa pb hl1 hl2 hk1 hk2 hs1 hs2 hr
  rw [show n + 1 + m = (n + m) + 1 by omega]
  unfold eqKinds at hk
  have one : ∀ {k : V} {cs : List V}, sameKinds [k] cs = true -> ∃ c, cs = [c] /\ sameKind k c = true := by
   intro k cs h
   cases cs with
   | nil => simp [sameKinds] at h
   | cons c cs =>
    cases cs with
    | nil => exact ⟨c, rfl, by simpa [sameKinds] using h⟩
    | cons _ _ => simp [sameKinds] at h
  split at hk
  ·rename_i hu
   simp only [sj_] at hk; subst hk
   unfold Packed at pa pb
   rw [hu] at pa pb
   simp only at pa pb
   subst pa; subst pb
   obtain ⟨c, rfl, hc⟩ := one hk1
   obtain ⟨d, rfl, hd⟩ := one hk2
   cases c <;> simp only [sameKind] at hc <;> first | (cases hc; done) | skip
   cases d <;> simp only [sameKind] at hd <;> first | (cases hd; done) | skip
   have e1 := hs1 0 _ _ rfl rfl
   have e2 := hs2 0 _ _ rfl rfl
   simp only [Scal] at e1 e2
   subst e1; subst e2
   simp only [eqCells, eqCell, Bool.and_true, sj_] at hr
   rw [run_equalIn_bool w _ t _ _ hu, hr]
  ·rename_i k hu
   simp only [sj_] at hk; subst hk
   unfold Packed at pa pb
   rw [hu] at pa pb
   simp only at pa pb
   subst pa; subst pb
   obtain ⟨c, rfl, hc⟩ := one hk1
   obtain ⟨d, rfl, hd⟩ := one hk2
   cases c <;> simp only [sameKind] at hc <;> first | (cases hc; done) | skip
   cases d <;> simp only [sameKind] at hd <;> first | (cases hd; done) | skip
   simp only [decide_eq_true_eq] at hc hd
   subst hc; subst hd
   have e1 := hs1 0 _ _ rfl rfl
   have e2 := hs2 0 _ _ rfl rfl
   simp only [Scal] at e1 e2
   subst e1; subst e2
   simp only [eqCells, eqCell, if_true, Bool.and_true, sj_] at hr
   rw [run_equalIn_int w _ t _ _ _ _ hu, hr]
  ·rename_i hu
   simp only [sj_] at hk; subst hk
   unfold Packed at pa pb
   rw [hu] at pa pb
   simp only at pa pb
   subst pa; subst pb
   obtain ⟨c, rfl, hc⟩ := one hk1
   obtain ⟨d, rfl, hd⟩ := one hk2
   cases c <;> simp only [sameKind] at hc <;> first | (cases hc; done) | skip
   cases d <;> simp only [sameKind] at hd <;> first | (cases hd; done) | skip
   have e1 := hs1 0 _ _ rfl rfl
   have e2 := hs2 0 _ _ rfl rfl
   simp only [Scal] at e1 e2
   obtain ⟨y1, rfl, h1⟩ := e1
   obtain ⟨y2, rfl, h2⟩ := e2
   simp only [eqCells, eqCell, Bool.and_true, sj_] at hr
   rw [run_equalIn_string w _ t _ _ hu, scal_toList h1 h2, hr]
  ·rename_i fs hu
   split at hk
   ·cases hk
   ·rename_i hst
    split at hk
    ·rename_i ks' hf
     split at hk
     ·rename_i hc
      simp only [sj_] at hk
      subst hk
      unfold Packed at pa pb
      rw [hu] at pa pb
      simp only at pa pb
      subst pa; subst pb
      have hfo : P.fieldsOf t = fs := by unfold Program.fieldsOf; rw [hu]
      rw [run_equalIn_struct w (n + m) t _ _ (by rw [hfo]; exact hu) (by simpa using hst), hfo]
      have hlx : xs.length = ks'.length := by rw [<- hl1, <- sameKinds_len hk1]
      have hly : ys.length = ks'.length := by rw [<- hl2, <- sameKinds_len hk2]
      -- over the fields
      have key : ∀ (fs : List Field) (off : Nat) (ks1 : List V) (cs1 ds1 : List V) (r : Bool), eqFieldKinds (eqKinds P n) off fs = some ks1 -> off + ks1.length <= xs.length -> off + ks1.length <= ys.length ->
        cs1 = (cs.drop off).take ks1.length -> ds1 = (ds.drop off).take ks1.length -> sameKinds ks1 cs1 = true -> sameKinds ks1 ds1 = true -> eqCells cs1 ds1 = some r -> (Op.eqFields (n + m) xs.toArray ys.toArray fs).run P w = .ok r w := by
       intro fs
       induction fs with
       | nil =>
        intro off ks1 cs1 ds1 r h1 _ _ h2 h3 _ _ h4
        simp only [eqFieldKinds, sj_] at h1
        subst h1
        simp only [List.length_nil, List.take_zero] at h2 h3
        subst h2; subst h3
        simp only [eqCells, sj_] at h4
        subst h4
        simp [Op.eqFields]
       | cons f fs ihf =>
        intro off ks1 cs1 ds1 r h1 g1 g2 h2 h3 h5 h6 h4
        simp only [eqFieldKinds] at h1
        split at h1
        ·cases h1
        ·rename_i hn
         split at h1
         ·rename_i hoff
          split at h1
          ·rename_i ka hka
           split at h1
           ·rename_i kb hkb
            simp only [sj_] at h1
            subst h1
            rw [List.length_append] at g1 g2 h2 h3
            obtain ⟨a1, p1, q1⟩ := run_part_packed hka (xs := xs.toArray) (off := off) (by simp; omega) w
            obtain ⟨b1, p2, q2⟩ := run_part_packed hka (xs := ys.toArray) (off := off) (by simp; omega) w
            obtain ⟨r1, r2, s1, s2, s3⟩ := eqCells_split ka.length h4
            obtain ⟨u1, u2⟩ := sameKinds_app h5
            obtain ⟨v1, v2⟩ := sameKinds_app h6
            simp only at q1 q2
            have tk : ∀ (l : List V), ((l.drop off).take (ka.length + kb.length)).take ka.length = (l.drop off).take ka.length := fun l => by rw [List.take_take]; congr 1; omega
            have dk : ∀ (l : List V), ((l.drop off).take (ka.length + kb.length)).drop ka.length = (l.drop (off + ka.length)).take kb.length := fun l => by rw [List.drop_take, List.drop_drop]; congr 1; omega
            rw [h2, tk] at s1 u1
            rw [h3, tk] at s1 v1
            rw [h2, dk] at s2 u2
            rw [h3, dk] at s2 v2
            have he := ih f.type ka hka m w _ _ a1 b1 _ _ r1 q1 q2 (by simp; omega) (by simp; omega) u1 v1
             (fun j c v e1 e2 => by
              have hj : j < ka.length := by have := (gs_ e1).1; simp at this; omega
              rw [List.getElem?_take_of_lt hj, List.getElem?_drop] at e1 e2
              exact hs1 (off + j) c v e1 e2)
             (fun j c v e1 e2 => by
              have hj : j < ka.length := by have := (gs_ e1).1; simp at this; omega
              rw [List.getElem?_take_of_lt hj, List.getElem?_drop] at e1 e2
              exact hs2 (off + j) c v e1 e2) s1
            have hrest := ihf (off + ka.length) kb _ _ r2 hkb (by omega) (by omega) rfl rfl u2 v2 s2
            simp only [Op.eqFields, hn, ne_eq, not_false_eq_true, if_true, Sem.run_bind, hoff, p1, p2, he, Result.andThen_ok]
            cases r1
            ·simp [s3]
            ·simpa [s3] using hrest
           ·cases h1
          ·cases h1
         ·cases h1
      exact key fs.toList 0 ks' cs ds r hf (by omega) (by omega) (by rw [List.drop_zero, List.take_of_length_le (by omega)]) (by rw [List.drop_zero, List.take_of_length_le (by omega)]) hk1 hk2 hr
     ·cases hk
    ·cases hk
  ·cases hk
def kindsEq : List V -> List V -> Bool
 | [], [] => true
 | .bool _ :: az, .bool _ :: bs => kindsEq az bs
 | .int k _ :: az, .int k' _ :: bs => decide (k = k') && kindsEq az bs
 | .str _ :: az, .str _ :: bs => kindsEq az bs
 | _, _ => false
theorem kindsEq_same : ∀ {ks zs : List V}, kindsEq ks zs = true -> ∀ cs, sameKinds zs cs = true -> sameKinds ks cs = true := by
 intro ks
 induction ks with
 | nil => intro zs h cs hc; cases zs with
  | nil => exact hc
  | cons _ _ => simp [kindsEq] at h
 | cons k ks ih =>
  intro zs h cs hc
  cases zs with
  | nil => cases k <;> simp [kindsEq] at h
  | cons z zs =>
   cases cs with
   | nil => simp [sameKinds] at hc
   | cons c cs =>
    rw [sameKinds, Bool.and_eq_true] at hc
    rw [sameKinds, Bool.and_eq_true]
    cases k <;> cases z <;> simp only [kindsEq] at h <;> first | (cases h; done) | skip
    ·exact ⟨by cases c <;> simp_all [sameKind], ih h cs hc.2⟩
    ·rw [Bool.and_eq_true, decide_eq_true_eq] at h
     obtain ⟨rfl, h⟩ := h
     exact ⟨by cases c <;> simp_all [sameKind], ih h cs hc.2⟩
    ·exact ⟨by cases c <;> simp_all [sameKind], ih h cs hc.2⟩
def descOk (P : Program) (t : Nat) (d : Ty) : Bool :=
 match d, P.underlying t with
 | .bool, some .bool => true
 | .int k, some (.int k') => decide (k = k')
 | .str, some .string => true
 | .slice e, some (.slice e') => e == e'
 | .struct fs, some (.struct fields) => decide (fields.toList.map (fun f => (f.offset, f.type)) = fs) && fields.toList.all (fun f => (P.info? f.type).isSome)
 | .array n e, some (.array n' e') => n == n' && e == e'
 | .ptr _, some (.pointer _) => true
 | _, _ => false
def checkTy (P : Program) (t : Nat) (i : TyInfo) : Bool :=
 match P.info? t with
 | none => false
 | some ti => ti.size == i.size && ti.bytes == i.bytes && (match ti.zero with
  | none => false
  | some z => zeroOk i.zero z && zerosOk i.zero.cells z.cells.toList && z.cells.toList.all (·.oneCell')) && i.zero.cells.length == i.size && descOk P t i.d &&
   (!i.cmp || (!P.eqGuardType P.depth t && (match P.underlying t, eqKinds P 10000 t with
    | some (.struct _), some ks => kindsEq ks i.zero.cells
    | _, _ => false)))
theorem check_agree {c : Cfg} {t : Nat} {i : TyInfo} (h : checkTy P t i = true) : ∃ ti, AgreeT P c t i ti := by
 unfold checkTy at h
 split at h
 ·cases h
 ·rename_i ti hti
  simp only [Bool.and_eq_true, beq_iff_eq] at h
  obtain ⟨⟨⟨⟨⟨h1, h2⟩, h3⟩, h4⟩, h5⟩, h6⟩ := h
  split at h3
  ·cases h3
  ·rename_i z hz
   simp only [Bool.and_eq_true, List.all_eq_true] at h3
   obtain ⟨⟨z1, z2⟩, z3⟩ := h3
   have hcells : i.zero.cells.length = z.cells.toList.length /\ ∀ (j : Nat) (c : V) (v : Value), i.zero.cells[j]? = some c -> z.cells.toList[j]? = some v -> Always c v := by
    have := zeroOk_always (.agg i.zero.cells) (.agg z.cells) (by simpa [zeroOk] using z2)
    have h0 := this default (fun _ => True)
    cases h0 with
    | agg _ _ hl _ =>
     refine ⟨by simpa using hl, fun j c v e1 e2 w S => ?_⟩
     have h' := this w S
     cases h' with
     | agg _ _ _ hr => exact hr j c v e1 (by simpa using e2)
   refine ⟨ti, hti, h1, h2, ⟨z, hz, zeroOk_always _ _ z1, hcells.1.symm, z3, fun j c hj => ?_⟩, h4, ?_, ?_, ?_, ?_, ?_, ?_, ?_, ?_⟩
   ·have hlt : j < z.cells.toList.length := by rw [<- hcells.1]; exact (gs_ hj).1
    refine ⟨z.cells.toList[j], ?_, hcells.2 j c _ hj (List.getElem?_eq_getElem hlt)⟩
    rw [<- Array.getElem?_toList]
    exact List.getElem?_eq_getElem hlt
   ·intro e; rw [e] at h5; unfold descOk at h5; split at h5 <;> simp_all
   ·intro k e; rw [e] at h5; unfold descOk at h5; split at h5 <;> simp_all
   ·intro e; rw [e] at h5; unfold descOk at h5; split at h5 <;> simp_all
   ·intro k e; rw [e] at h5; unfold descOk at h5; split at h5 <;> simp_all
   ·intro fs e
    rw [e] at h5; unfold descOk at h5
    split at h5 <;> first | (cases h5; done) | skip
    all_goals first | (rename_i heq _; cases heq; done) | skip
    rename_i _ _ fs' fields heq hu
    injection heq with heq
    subst heq
    simp only [Bool.and_eq_true, decide_eq_true_eq, List.all_eq_true] at h5
    exact ⟨fields, hu, h5.1, fun f hf => Option.isSome_iff_exists.1 (h5.2 f hf)⟩
   ·intro n k e; rw [e] at h5; unfold descOk at h5; split at h5 <;> simp_all
   ·intro hc
    rw [hc] at h6
    simp only [Bool.not_true, Bool.false_or, Bool.and_eq_true, Bool.not_eq_true'] at h6
    refine ⟨h6.1, fun w xs ys cs ds r g1 g2 g3 g4 g5 g6 g7 => ?_⟩
    have h7 := h6.2
    split at h7
    ·rename_i fs ks hu hks
     exact eqIn_ok 10000 t ks hks 0 w xs.toList ys.toList _ _ cs ds r (by unfold Packed; rw [hu]) (by unfold Packed; rw [hu]) (by simpa using g1) (by simpa using g2) (kindsEq_same h7 cs g3) (kindsEq_same h7 ds g4)
      (fun j c v e1 e2 => g5 j c v e1 (by simpa using e2)) (fun j c v e1 e2 => g6 j c v e1 (by simpa using e2)) g7
    ·cases h7
   ·intro ha
    unfold descOk at h5
    split at h5 <;> first | (cases h5; done) | skip
    all_goals first | (simp [Ty.isAgg, *] at ha; done) | (rename_i hu; exact ⟨_, hu, fun _ => by simp, fun _ _ => by simp⟩)
def checkTys (P : Program) (tys : List (Option TyInfo)) : Bool := (List.range tys.length).all fun t => match tys.getD t none with
 | some i => checkTy P t i
 | none => true
theorem agree_of {c : Cfg} (tys : List (Option TyInfo)) (hc : ∀ t, c.ty t = tys.getD t none) (h : checkTys P tys = true) : Agree P c := by
 intro t i ht
 rw [hc] at ht
 unfold checkTys at h
 rw [List.all_eq_true] at h
 rcases Nat.lt_or_ge t tys.length with hlt | hge
 ·have := h t (List.mem_range.2 hlt)
  rw [ht] at this
  exact check_agree this
 ·rw [List.getD_eq_getElem?_getD, List.getElem?_eq_none hge] at ht
  cases ht
end
end Go.Am
end
section
set_option linter.unusedVariables false
set_option linter.unusedSimpArgs false
namespace Go.Am
open Go Go.RowKit
variable {P : Program} {c : Cfg} {w w' : World}
def lenSum (P : Program) : List Field -> Nat
 | [] => 0
 | f :: fs => P.cellsOf f.type + lenSum P fs
def offsOk (P : Program) : Nat -> List Field -> Bool
 | _, [] => true
 | n, f :: fs => f.offset == n && offsOk P (n + P.cellsOf f.type) fs
def kidsOk (P : Program) (L : List Nat) : Bool := L.all fun t => match P.underlying t with
 | some .bool => P.cellsOf t == 1
 | some (.int _) => P.cellsOf t == 1
 | some .string => P.cellsOf t == 1
 | some (.slice e) => P.cellsOf t == 1 && L.contains e && decide (0 < P.cellsOf e)
 | some (.struct fs) => fs.toList.all (fun f => L.contains f.type) && P.cellsOf t == lenSum P fs.toList && offsOk P 0 fs.toList
 | _ => false
theorem lenSum_eq (fs : List Field) : (fs.map fun f => P.cellsOf f.type).sum = lenSum P fs := by
 induction fs with
 | nil => rfl
 | cons f fs ih => rw [List.map_cons, List.sum_cons, ih]; rfl
theorem offsOk_get : ∀ {fs : List Field} {n : Nat}, offsOk P n fs = true -> ∀ (j : Nat) f, fs[j]? = some f -> f.offset = n + ((fs.take j).map fun f => P.cellsOf f.type).sum := by
 intro fs
 induction fs with
 | nil => intro n _ j f h; simp at h
 | cons g fs ih =>
  intro n h j f hf
  rw [offsOk, Bool.and_eq_true, beq_iff_eq] at h
  cases j with
  | zero => simp only [List.getElem?_cons_zero, sj_] at hf; subst hf; simp [h.1]
  | succ j =>
   have := ih h.2 j f (by simpa using hf)
   simp [this]
   omega
theorem kids_of {L : List Nat} (h : kidsOk P L = true) : Kids P (· ∈ L) := by
 unfold kidsOk at h
 rw [List.all_eq_true] at h
 refine ⟨fun {t e} ht hu => ?_, fun {t e} ht hu => ?_, fun {t e n} ht hu => ?_, fun {t fs} ht hu => ?_, fun {t k e} ht hu => ?_⟩
 ·have := h t ht; rw [hu] at this; cases this
 ·have := h t ht
  rw [hu] at this
  simp only [Bool.and_eq_true] at this
  exact List.contains_iff_mem.1 this.1.2
 ·have := h t ht; rw [hu] at this; cases this
 ·have := h t ht
  rw [hu] at this
  simp only [Bool.and_eq_true, List.all_eq_true, beq_iff_eq] at this
  refine ⟨fun f hf => List.contains_iff_mem.1 (this.1.1 f hf), by rw [lenSum_eq]; exact this.1.2, fun j f hf => ?_⟩
  have := offsOk_get this.2 j f hf
  rwa [Nat.zero_add] at this
 ·have := h t ht; rw [hu] at this; cases this
theorem kids_pos {L : List Nat} (h : kidsOk P L = true) : ∀ t e, t ∈ L -> P.underlying t = some (.slice e) -> 0 < P.cellsOf e := by
 intro t e ht hu
 unfold kidsOk at h
 rw [List.all_eq_true] at h
 have := h t ht
 rw [hu] at this
 simp only [Bool.and_eq_true, decide_eq_true_eq] at this
 exact this.2
def Cn (P : Program) (fl : Nat -> Bool) : Nat -> Nat -> List V -> Prop
 | 0, _, _ => False
 | n + 1, t, vs => match P.underlying t with
  | some .bool => ∃ b, vs = [.bool b]
  | some (.int k) => ∃ m, vs = [.int k m] /\ (Lit.int k m).wf = true
  | some .string => ∃ s, vs = [.str s] /\ s.length <= maxLen
  | some (.slice e) => ∃ rows, vs = [.sl (P.cellsOf e) (fl e) rows] /\ rows.length <= maxLen /\ ∀ r ∈ rows, ∃ us, us.length = P.cellsOf e /\ Cn P fl n e us /\ r = (match P.underlying e with
    | some (.struct _) => .agg us
    | _ => us.headD .undef)
  | some (.struct fs) => vs.length = P.cellsOf t /\ ∀ f ∈ fs.toList, Cn P fl n f.type ((vs.drop f.offset).take (P.cellsOf f.type))
  | _ => False
def flOk (P : Program) (L : List Nat) (fl : Nat -> Bool) : Bool := L.all fun t => !fl t || (match P.underlying t with
 | some .bool => true
 | some (.int _) => true
 | some .string => true
 | some (.struct fs) => fs.toList.all fun f => fl f.type
 | _ => false)
theorem mem_part {P : Program} {fs : List Field} : ∀ {o : Nat} {vs : List V}, offsOk P o fs = true -> ∀ (j : Nat), o <= j -> j < o + lenSum P fs -> ∃ f ∈ fs, f.offset <= j /\ j < f.offset + P.cellsOf f.type := by
 induction fs with
 | nil => intro o vs _ j h1 h2; simp [lenSum] at h2; omega
 | cons f fs ih =>
  intro o vs h j h1 h2
  rw [offsOk, Bool.and_eq_true, beq_iff_eq] at h
  rw [lenSum] at h2
  by_cases hj : j < o + P.cellsOf f.type
  ·exact ⟨f, by simp, by omega, by omega⟩
  ·obtain ⟨g, hg, h3⟩ := ih (vs := vs) h.2 j (by omega) (by omega)
   exact ⟨g, by simp [hg], h3⟩
theorem cn_flat {L : List Nat} {fl : Nat -> Bool} (hk : kidsOk P L = true) (hf : flOk P L fl = true) : ∀ (n t : Nat) (vs : List V), t ∈ L -> Cn P fl n t vs -> fl t = true -> ∀ v ∈ vs, noSl v := by
 intro n
 induction n with
 | zero => intro t vs _ h; cases h
 | succ n ih =>
  intro t vs ht h hfl v hv
  have h1 := List.all_eq_true.1 hf t ht
  rw [hfl] at h1
  simp only [Bool.not_true, Bool.false_or] at h1
  have hkt := List.all_eq_true.1 hk t ht
  unfold Cn at h
  split at h
  ·obtain ⟨b, rfl⟩ := h; rw [List.mem_singleton.1 hv]; trivial
  ·obtain ⟨b, rfl, _⟩ := h; rw [List.mem_singleton.1 hv]; trivial
  ·obtain ⟨b, rfl, _⟩ := h; rw [List.mem_singleton.1 hv]; trivial
  ·rename_i e hu; rw [hu] at h1; cases h1
  ·rename_i fs hu
   rw [hu] at h1 hkt
   simp only [List.all_eq_true, Bool.and_eq_true, beq_iff_eq] at h1 hkt
   obtain ⟨hl, hfs⟩ := h
   obtain ⟨j, hj⟩ := List.getElem?_of_mem hv
   have hlt := (gs_ hj).1
   obtain ⟨f, hfm, g1, g2⟩ := mem_part (vs := vs) hkt.2 j (by omega) (by omega)
   refine ih f.type _ (List.contains_iff_mem.1 (hkt.1.1 f hfm)) (hfs f hfm) (h1 f hfm) v ?_
   have : ((vs.drop f.offset).take (P.cellsOf f.type))[j - f.offset]? = some v := by
    rw [List.getElem?_take_of_lt (by omega), List.getElem?_drop, <- hj]
    congr 1
    omega
   exact List.mem_of_getElem? this
  ·cases h
theorem rd_of_trod {H : Type} {enc : TypeId × Value -> H} {base : Nat} {spare : Nat -> Bool} {held : Bool} {L : List Nat} {fl : Nat -> Bool} (hk : kidsOk P L = true) (hf : flOk P L fl = true) :
  ∀ (n t : Nat) (cs : List Value) (x : DataW H × List MemPlace), t ∈ L -> DataW.trod enc P w base spare held n t cs = some x ->
   ∃ vs : List V, vs.length = cs.length /\ cs.length = P.cellsOf t /\ Cn P fl n t vs /\ (∀ u ∈ cs, u.oneCell' = true) /\ ∀ (j : Nat) (v : V) (u : Value), vs[j]? = some v -> cs[j]? = some u -> Rd w (fun k => k < w.heap.size) v u := by
 intro n
 induction n with
 | zero => intro t cs x _ h; simp [DataW.trod] at h
 | succ n ih =>
  intro t cs x ht h
  have hkt := List.all_eq_true.1 hk t ht
  have single : ∀ {v : V} {u : Value}, Rd w (fun k => k < w.heap.size) v u -> ∀ (j : Nat) (v' : V) (u' : Value), [v][j]? = some v' -> [u][j]? = some u' -> Rd w (fun k => k < w.heap.size) v' u' := by
   intro v u h j v' u' h1 h2
   cases j with
   | zero => simp only [List.getElem?_cons_zero, sj_] at h1 h2; subst h1; subst h2; exact h
   | succ j => simp at h1
  cases hu : P.underlying t with
  | none => rw [hu] at hkt; cases hkt
  | some d =>
   rw [hu] at hkt
   cases d with
   | bool =>
    simp only [beq_iff_eq] at hkt
    obtain ⟨b, rfl, _⟩ := DataW.trod_bool hu h
    exact ⟨[.bool b], rfl, hkt.symm, by unfold Cn; rw [hu]; exact ⟨b, rfl⟩, by simp [Value.oneCell'], single (.bool b)⟩
   | int k =>
    simp only [beq_iff_eq] at hkt
    obtain ⟨m, rfl, _, hw⟩ := DataW.trod_int hu h
    exact ⟨[.int k m], rfl, hkt.symm, by unfold Cn; rw [hu]; exact ⟨m, rfl, hw⟩, by simp [Value.oneCell'], single (.int k m)⟩
   | string =>
    simp only [beq_iff_eq] at hkt
    obtain ⟨s, rfl, _, hl⟩ := DataW.trod_string hu h
    refine ⟨[.str s.data.toList], rfl, hkt.symm, by unfold Cn; rw [hu]; exact ⟨_, rfl, by rw [Array.length_toList]; exact hl⟩, by simp [Value.oneCell'], single (.str _ s rfl)⟩
   | slice e =>
    simp only [Bool.and_eq_true, beq_iff_eq, decide_eq_true_eq] at hkt
    obtain ⟨⟨hc1, he⟩, hpos⟩ := hkt
    have he := List.contains_iff_mem.1 he
    rcases DataW.trod_slice hu h with ⟨rfl, _⟩ | ⟨a, len, cap, elems, rest, m, hm, rfl, _, hb, hlc, hcm, hel, hget, _, _⟩
    ·refine ⟨[.sl (P.cellsOf e) (fl e) []], rfl, hc1.symm, by unfold Cn; rw [hu]; exact ⟨[], rfl, Nat.zero_le _, fun r hr => by cases hr⟩, by simp [Value.oneCell'], single (.empty _ _ _ _)⟩
    ·obtain rfl : m = n := by omega
     -- the rows
     have hrow : ∀ i, i < len -> ∃ us cs' , us.length = P.cellsOf e /\ Cn P fl m e us /\ cs'.length = P.cellsOf e /\ w.cells? base (a.add (i * P.cellsOf e)) (P.cellsOf e) = some cs' /\ (∀ u ∈ cs', u.oneCell' = true) /\
       ∀ (j : Nat) (v : V) (u : Value), us[j]? = some v -> cs'[j]? = some u -> Rd w (fun k => k < w.heap.size) v u := by
      intro i hi
      have h1 := hget i hi
      cases hcs : w.cells? base (a.add (i * P.cellsOf e)) (P.cellsOf e) with
      | none => rw [hcs] at h1; simp at h1; omega
      | some cs' =>
       rw [hcs] at h1
       have hsome : ∃ y, elems[i]? = some y := ⟨_, List.getElem?_eq_getElem (by omega)⟩
       obtain ⟨y, hy⟩ := hsome
       rw [hy] at h1
       obtain ⟨us, g1, g2, g3, g4, g5⟩ := ih e cs' y he h1
       exact ⟨us, cs', by omega, g3, g2, rfl, g4, g5⟩
     have hch : ∀ i : Nat, ∃ us : List V, i < len -> us.length = P.cellsOf e /\ Cn P fl m e us /\ ∃ cs', cs'.length = P.cellsOf e /\ w.cells? base (a.add (i * P.cellsOf e)) (P.cellsOf e) = some cs' /\ (∀ u ∈ cs', u.oneCell' = true) /\
       ∀ (j : Nat) (v : V) (u : Value), us[j]? = some v -> cs'[j]? = some u -> Rd w (fun k => k < w.heap.size) v u := by
      intro i
      by_cases hi : i < len
      ·obtain ⟨us, cs', g1, g2, g3, g4, g5, g6⟩ := hrow i hi
       exact ⟨us, fun _ => ⟨g1, g2, cs', g3, g4, g5, g6⟩⟩
      ·exact ⟨[], fun h => absurd h hi⟩
     let F : Nat -> List V := fun i => (hch i).choose
     have hF : ∀ i, i < len -> _ := fun i hi => (hch i).choose_spec hi
     let mk : List V -> V := fun us => match P.underlying e with
      | some (.struct _) => .agg us
      | _ => us.headD .undef
     have hmk : ∀ i, i < len -> (mk (F i)).cells = F i := by
      intro i hi
      obtain ⟨g1, g2, _⟩ := hF i hi
      show (match P.underlying e with
       | some (.struct _) => V.agg (F i)
       | _ => (F i).headD .undef).cells = F i
      change (F i).length = P.cellsOf e at g1
      change Cn P fl m e (F i) at g2
      cases m with
      | zero => cases g2
      | succ m =>
       unfold Cn at g2
       split at g2
       ·rename_i hue; obtain ⟨b, hb⟩ := g2; rw [hue, hb]; rfl
       ·rename_i k hue; obtain ⟨b, hb, _⟩ := g2; rw [hue, hb]; rfl
       ·rename_i hue; obtain ⟨b, hb, _⟩ := g2; rw [hue, hb]; rfl
       ·rename_i e' hue; obtain ⟨b, hb, _⟩ := g2; rw [hue, hb]; rfl
       ·rename_i fs hue; rw [hue]; rfl
       ·cases g2
     let rows : List V := (List.range len).map fun i => mk (F i)
     have hrl : rows.length = len := by simp [rows]
     have hrg : ∀ (i : Nat) (r : V), rows[i]? = some r -> i < len /\ r = mk (F i) := by
      intro i r hr
      have hi : i < len := by have := (gs_ hr).1; omega
      refine ⟨hi, ?_⟩
      simp only [rows, List.getElem?_map, List.getElem?_range hi, Option.map_some, sj_] at hr
      exact hr.symm
     refine ⟨[.sl (P.cellsOf e) (fl e) rows], rfl, hc1.symm, ?_, by simp [Value.oneCell'], single ?_⟩
     ·unfold Cn
      rw [hu]
      refine ⟨rows, rfl, by omega, fun r hr => ?_⟩
      obtain ⟨i, hi⟩ := List.getElem?_of_mem hr
      obtain ⟨h1, rfl⟩ := hrg i r hi
      obtain ⟨g1, g2, _⟩ := hF i h1
      exact ⟨F i, g1, g2, rfl⟩
     ·by_cases h0 : len = 0
      ·subst h0
       have : rows = [] := List.eq_nil_of_length_eq_zero hrl
       rw [this]
       exact .empty _ _ _ _
      · -- the address is plain
       have hplain : a.spot = none /\ a.block < w.heap.size := by
        obtain ⟨_, _, cs', g3, g4, _⟩ := hF 0 (by omega)
        unfold World.cells? at g4
        split at g4
        ·have g5 := mapM_some_get g4 0 0 (List.getElem?_range hpos)
         have g6 : ∃ z, cs'[0]? = some z := ⟨_, List.getElem?_eq_getElem (by omega)⟩
         obtain ⟨z, hz⟩ := g6
         rw [hz] at g5
         have e0 : (a.add (0 * P.cellsOf e)).add 0 = a := by simp [Addr.add]
         rw [e0] at g5
         unfold World.cell? at g5
         split at g5
         ·rename_i cc _ _ hh
          split at g5
          ·cases g5
          ·rename_i hs
           refine ⟨by simpa using hs, ?_⟩
           exact (Array.getElem?_eq_some_iff.1 hh).1
         ·cases g5
        ·cases g4
       obtain ⟨ablk, aoff, aspot⟩ := a
       simp only at hplain
       obtain ⟨rfl, hblk⟩ := hplain
       have haddr : ∀ i j : Nat, ((⟨ablk, aoff, none⟩ : Addr).add i).add j = ⟨ablk, aoff + i + j, none⟩ := by
        intro i j
        by_cases hi : i = 0 <;> by_cases hj : j = 0 <;> simp [Addr.add, hi, hj]
       have hcellat : ∀ i j : Nat, i < len -> j < P.cellsOf e -> ∃ u, w.cell? ⟨ablk, aoff + i * P.cellsOf e + j, none⟩ = some u /\ u.oneCell' = true /\ ∀ v, (F i)[j]? = some v -> Rd w (fun k => k < w.heap.size) v u := by
        intro i j hi hj
        obtain ⟨_, _, cs', g3, g4, g5, g6⟩ := hF i hi
        unfold World.cells? at g4
        split at g4
        ·have g7 := mapM_some_get g4 j j (List.getElem?_range hj)
         obtain ⟨z, hz⟩ : ∃ z, cs'[j]? = some z := ⟨_, List.getElem?_eq_getElem (by omega)⟩
         rw [hz, haddr] at g7
         exact ⟨z, g7, g5 z (List.mem_of_getElem? hz), fun v hv => g6 j v z hv hz⟩
        ·cases g4
       refine hrl ▸ .sl (P.cellsOf e) (fl e) rows ablk aoff cap (fun i j => (w.cell? ⟨ablk, aoff + i * P.cellsOf e + j, none⟩).getD undef) (by omega) (by omega) hblk (fun r hr => ?_) (fun hfl r hr v hv => ?_) (fun i j hi hj => ?_) (fun i r j v hr hv => ?_)
       ·obtain ⟨i, hi⟩ := List.getElem?_of_mem hr
        obtain ⟨h1, rfl⟩ := hrg i r hi
        rw [hmk i h1]
        exact (hF i h1).1
       ·obtain ⟨i, hi⟩ := List.getElem?_of_mem hr
        obtain ⟨h1, rfl⟩ := hrg i r hi
        rw [hmk i h1] at hv
        exact cn_flat hk hf m e _ he (hF i h1).2.1 hfl v hv
       ·obtain ⟨u, h1, h2, _⟩ := hcellat i j (by omega) hj
        rw [h1]
        exact ⟨rfl, h2⟩
       ·obtain ⟨h1, rfl⟩ := hrg i r hr
        rw [hmk i h1] at hv
        have hj : j < P.cellsOf e := by rw [<- (hF i h1).1]; exact (gs_ hv).1
        obtain ⟨u, h2, _, h3⟩ := hcellat i j h1 hj
        rw [h2]
        exact h3 v hv
   | struct fs =>
    simp only [Bool.and_eq_true, beq_iff_eq, List.all_eq_true] at hkt
    obtain ⟨⟨hfm, hsz⟩, hoff⟩ := hkt
    obtain ⟨xs, m, hm, _, hlen, hxl, hget⟩ := DataW.trod_struct hu h
    obtain rfl : m = n := by omega
    -- the fields
    have hfld : ∀ (i : Nat) (f : Field), fs.toList[i]? = some f -> ∃ us : List V, us.length = P.cellsOf f.type /\ Cn P fl m f.type us /\ (∀ u ∈ (cs.drop f.offset).take (P.cellsOf f.type), u.oneCell' = true) /\
      ∀ (j : Nat) (v : V) (u : Value), us[j]? = some v -> ((cs.drop f.offset).take (P.cellsOf f.type))[j]? = some u -> Rd w (fun k => k < w.heap.size) v u := by
     intro i f hf'
     have hi : i < fs.size := by have := (gs_ hf').1; rwa [Array.length_toList] at this
     have h1 := hget i f (by simpa using hf')
     obtain ⟨y, hy⟩ : ∃ y, xs[i]? = some y := ⟨_, List.getElem?_eq_getElem (by omega)⟩
     rw [hy] at h1
     obtain ⟨us, g1, g2, g3, g4, g5⟩ := ih f.type _ y (List.contains_iff_mem.1 (hfm f (List.mem_of_getElem? hf'))) h1
     exact ⟨us, by omega, g3, g4, g5⟩
    have build : ∀ (gs : List Field) (o : Nat), offsOk P o gs = true -> (∀ f ∈ gs, ∃ i : Nat, fs.toList[i]? = some f) -> ∃ vs : List V, vs.length = lenSum P gs /\ (∀ f ∈ gs, o <= f.offset /\ Cn P fl m f.type ((vs.drop (f.offset - o)).take (P.cellsOf f.type))) /\
      ∀ (j : Nat) (v : V) (u : Value), vs[j]? = some v -> cs[o + j]? = some u -> Rd w (fun k => k < w.heap.size) v u := by
     intro gs
     induction gs with
     | nil => intro o _ _; exact ⟨[], rfl, fun f hf => by simp at hf, fun j v u h => by simp at h⟩
     | cons f gs ihg =>
      intro o ho hin
      rw [offsOk, Bool.and_eq_true, beq_iff_eq] at ho
      obtain ⟨rfl, ho⟩ := ho
      obtain ⟨i, hi⟩ := hin f (by simp)
      obtain ⟨us, g1, g2, g3, g4⟩ := hfld i f hi
      obtain ⟨vs, k1, k2, k3⟩ := ihg _ ho (fun f hf => hin f (by simp [hf]))
      refine ⟨us ++ vs, by rw [List.length_append, lenSum]; omega, fun f' hf' => ?_, fun j v u hj hu' => ?_⟩
      ·rcases List.mem_cons.1 hf' with rfl | hf'
       ·refine ⟨Nat.le_refl _, ?_⟩
        rw [Nat.sub_self, List.drop_zero, <- g1, List.take_left']
        ·exact g2
        ·rfl
       ·obtain ⟨k4, k5⟩ := k2 f' hf'
        refine ⟨by omega, ?_⟩
        rw [List.drop_append, List.drop_eq_nil_of_le (by omega), List.nil_append, show f'.offset - f.offset - us.length = f'.offset - (f.offset + P.cellsOf f.type) by omega]
        exact k5
      ·rcases Nat.lt_or_ge j us.length with hlt | hge
       ·rw [List.getElem?_append_left hlt] at hj
        refine g4 j v u hj ?_
        rw [List.getElem?_take_of_lt (by omega), List.getElem?_drop]
        exact hu'
       ·rw [List.getElem?_append_right hge] at hj
        refine k3 _ v u hj ?_
        rw [<- hu']
        congr 1
        omega
    obtain ⟨vs, k1, k2, k3⟩ := build fs.toList 0 hoff (fun f hf => List.getElem?_of_mem hf)
    refine ⟨vs, by omega, hlen, ?_, fun u hu' => ?_, fun j v u h1 h2 => k3 j v u h1 (by rw [Nat.zero_add]; exact h2)⟩
    ·unfold Cn
     rw [hu]
     exact ⟨by omega, fun f hf => by simpa using (k2 f hf).2⟩
    ·obtain ⟨j, hj⟩ := List.getElem?_of_mem hu'
     have hlt := (gs_ hj).1
     obtain ⟨f, hfm', g1, g2⟩ := mem_part (vs := vs) hoff j (by omega) (by omega)
     obtain ⟨i, hi⟩ := List.getElem?_of_mem hfm'
     obtain ⟨us, q1, q2, q3, q4⟩ := hfld i f hi
     refine q3 u ?_
     have : ((cs.drop f.offset).take (P.cellsOf f.type))[j - f.offset]? = some u := by
      rw [List.getElem?_take_of_lt (by omega), List.getElem?_drop, <- hj]
      congr 1
      omega
     exact List.mem_of_getElem? this
   | _ => cases hkt
end Go.Am
end
section
set_option linter.unusedVariables false
set_option linter.unusedSimpArgs false
namespace Go.Am
open Go Go.RowKit Go.ChangeShapes Go.WideShapes
section
variable {P : Program} {w w' : World} {H : Type} {enc : TypeId × Value -> H}
def packT (P : Program) (t : Nat) (vs : List V) : V :=
 match P.underlying t with
 | some (.struct _) => .agg vs
 | _ => vs.headD .undef
theorem arg_open {L : List Nat} {fl : Nat -> Bool} (hk : kidsOk P L = true) (hf : flOk P L fl = true) {t base : Nat} {v : Value} {d : DataW H} {ps : List MemPlace} (ht : t ∈ L) (hok : Value.okWide P w .any base t v)
  (h : DataW.Trod enc P w 0 (fun _ => true) true t v d ps) : ∃ (n : Nat) (vs : List V), Cn P fl n t vs /\ Rd w (fun k => k < w.heap.size) (packT P t vs) v := by
 obtain ⟨n, hn⟩ := h
 obtain ⟨vs, h1, h2, h3, h4, h5⟩ := rd_of_trod hk hf n t _ _ ht hn
 refine ⟨n, vs, h3, ?_⟩
 have hkt := List.all_eq_true.1 hk t ht
 unfold packT
 cases hu : P.underlying t with
 | none => rw [hu] at hkt; cases hkt
 | some dd =>
  have one : P.cellsOf t = 1 -> v.cells = #[v] -> Rd w (fun k => k < w.heap.size) (vs.headD .undef) v := by
   intro e1 e2
   rw [e2] at h5 h1
   cases vs with
   | nil => simp at h1
   | cons x xs => exact h5 0 x v rfl rfl
  rw [hu] at hkt
  unfold Value.okWide at hok
  rw [hu] at hok
  cases dd with
  | struct fs =>
   obtain ⟨cs, rfl, h6, _⟩ := hok
   refine .agg vs cs ?_ (fun i c u h7 h8 => h5 i c u h7 (by simpa [Value.cells] using h8))
   rw [h1]
   simp [Value.cells]
  | bool =>
   simp only [beq_iff_eq] at hkt
   refine one hkt ?_
   cases v <;> first | rfl | simp [Cell.okWide, Cell.ok, hu] at hok
  | int k =>
   simp only [beq_iff_eq] at hkt
   refine one hkt ?_
   cases v <;> first | rfl | simp [Cell.okWide, Cell.ok, hu] at hok
  | string =>
   simp only [beq_iff_eq] at hkt
   refine one hkt ?_
   cases v <;> first | rfl | simp [Cell.okWide, Cell.ok, hu] at hok
  | slice e =>
   simp only [Bool.and_eq_true, beq_iff_eq] at hkt
   refine one hkt.1.1 ?_
   cases v <;> first | rfl | simp [Cell.okWide, Cell.ok, hu] at hok
  | _ => cases hkt
def LawArgs (P : Program) (fl : Nat -> Bool) : List Nat -> List V -> Prop
 | [], [] => True
 | t :: ts, v :: vs => (∃ (n : Nat) (us : List V), Cn P fl n t us /\ v = packT P t us) /\ LawArgs P fl ts vs
 | _, _ => False
theorem args_open {L : List Nat} {fl : Nat -> Bool} (hk : kidsOk P L = true) (hf : flOk P L fl = true) {base : Nat} : ∀ {ts : List Nat} {vs : List Value} {ds : List (DataW H)} {ps : List MemPlace}, (∀ t ∈ ts, t ∈ L) ->
  (∀ (j : Nat) t v, ts[j]? = some t -> vs[j]? = some v -> Value.okWide P w .any base t v) -> DataW.TrodAll enc P w 0 (fun _ => true) true ts vs ds ps ->
  ∃ az : List V, LawArgs P fl ts az /\ az.length = vs.length /\ ∀ (i : Nat) (c : V) (v : Value), az[i]? = some c -> vs[i]? = some v -> Rd w (fun k => k < w.heap.size) c v := by
 intro ts
 induction ts with
 | nil =>
  intro vs ds ps _ _ h
  obtain ⟨rfl, rfl, rfl⟩ := trodAll_nil h
  exact ⟨[], trivial, rfl, fun i c v h => by simp at h⟩
 | cons t ts ih =>
  intro vs ds ps hL hok h
  obtain ⟨v, vs1, d, ds1, a, b, rfl, rfl, rfl, h1, h2⟩ := trodAll_cons h
  obtain ⟨n, us, g1, g2⟩ := arg_open hk hf (hL t (by simp)) (hok 0 t v rfl rfl) h1
  obtain ⟨az, k1, k2, k3⟩ := ih (fun t ht => hL t (by simp [ht])) (fun j t v e1 e2 => hok (j + 1) t v (by simpa using e1) (by simpa using e2)) h2
  refine ⟨packT P t us :: az, ⟨⟨n, us, g1, rfl⟩, k1⟩, by simp [k2], fun i c v e1 e2 => ?_⟩
  cases i with
  | zero => simp only [List.getElem?_cons_zero, sj_] at e1 e2; subst e1; subst e2; exact g2
  | succ i => exact k3 i c v (by simpa using e1) (by simpa using e2)
theorem trodAll_carry {base : Nat} {spare : Nat -> Bool} {held : Bool} : ∀ {ts : List Nat} {vs : List Value} {ds : List (DataW H)} {ps : List MemPlace}, DataW.TrodAll enc P w base spare held ts vs ds ps -> (∀ p ∈ ps, w.sameAt w' p) -> DataW.TrodAll enc P w' base spare held ts vs ds ps := by
 intro ts
 induction ts with
 | nil =>
  intro vs ds ps h _
  obtain ⟨rfl, rfl, rfl⟩ := trodAll_nil h
  exact rfl
 | cons t ts ih =>
  intro vs ds ps h hs
  obtain ⟨v, vs1, d, ds1, a, b, rfl, rfl, rfl, ⟨n, h1⟩, h2⟩ := trodAll_cons h
  exact ⟨a, b, ⟨n, DataW.trod_carry n _ _ _ h1 (fun p hp => hs p (List.mem_append_left _ hp))⟩, ih h2 (fun p hp => hs p (List.mem_append_right _ hp)), rfl⟩
theorem law_calls {D : Nat -> List V -> Option V} (hD : Answers P D) {f : Nat} {fn : Func} {s : ChangeSpec} {L : List Nat} {fl : Nat -> Bool} {tb : Nat} (hk : kidsOk P L = true) (hf : flOk P L fl = true) (hp : ∀ t ∈ fn.params.toList, t ∈ L)
  (hr : fn.resultTypes = #[tb]) (htb : P.underlying tb = some .bool) (hv : s.vars = []) (hs : ∀ (ds : List (DataW H)), ds.length = fn.params.size -> s.fn H ds = { results := [.lit (.bool true)], args := ds })
  (hlaw : ∀ az, LawArgs P fl fn.params.toList az -> D f az = some (.bool true))
  {W : World} {base : Nat} {args : Array Value} {ds gs : List (DataW H)} {before : List MemPlace}
  (hgl : globOk W) (hval : ∀ (j : Nat) t v, fn.params[j]? = some t -> args[j]? = some v -> Value.okWide P W .any base t v) (hW : DataW.Whole enc P fn.params.toList s.vars false W args.toList ds gs before) :
  Calls P f args W fun e W' => ∃ v, e = .returned v /\ s.post enc P fn false true false false W args v W' := by
 have hlt := hW.lt
 have hW' := hW
 obtain ⟨p, q, hA, hV, rfl, hz, _⟩ := hW
 rw [hv] at hV
 obtain ⟨rfl, rfl⟩ := trodVars_none hV
 obtain ⟨az, g1, g2, g3⟩ := args_open (base := base) hk hf hp (fun j t v e1 e2 => hval j t v (by simpa using e1) (by simpa using e2)) hA
 obtain ⟨_, hcall⟩ := hD f az _ (hlaw az g1)
 refine (hcall (fun k => k < W.heap.size) W args hgl (fun k hk => hk) (by simpa using g2) (fun i c v e1 e2 => g3 i c v e1 (by simpa using e2))).mono (fun e W' he => ?_)
 cases e with
 | returned x =>
  obtain ⟨h1, h2, h3, h4, h5, J, hx, _⟩ := he
  have := hx.bool_inv
  subst this
  have hlen : ds.length = fn.params.size := by
   have : ∀ {ts : List Nat} {vs : List Value} {ds : List (DataW H)} {ps : List MemPlace}, DataW.TrodAll enc P W 0 (fun _ => true) true ts vs ds ps -> ds.length = ts.length := by
    intro ts
    induction ts with
    | nil => intro vs ds ps h; obtain ⟨_, rfl, _⟩ := trodAll_nil h; rfl
    | cons t ts ih => intro vs ds ps h; obtain ⟨v, vs1, d, ds1, a, b, rfl, rfl, rfl, _, h2⟩ := trodAll_cons h; simp [ih h2]
   simpa using this hA
  have hfn : s.fn H (ds ++ []) = { results := [.lit (.bool true)], args := ds } := by rw [List.append_nil]; exact hs ds hlen
  have hsame : ∀ p' ∈ p, W.sameAt W' p' := by
   intro p' hp'
   have hl := hlt p' (by simpa using hp')
   cases p' with
   | cell b off => exact cell?_of_heap (h5 b hl) off
   | map b => exact h5 b hl
  refine ⟨_, rfl, ds, [], p ++ [], [], p, [], hW', ?_, ?_, ?_, ⟨h1, h3, fun i hi => ?_⟩, fun h => by cases h⟩
  ·rw [hfn, hr]
   refine ⟨[], [], ⟨1, ?_⟩, rfl, rfl⟩
   simp [Value.cells, DataW.trod, htb]
  ·rw [hfn]
   refine trodAll_carry (DataW.TrodAll.respare (kids_of hk) (kids_pos hk) hp hA (fun p' hp' => ?_)) hsame
   simpa using hlt p' (by simpa using hp')
  ·rw [hfn, hv]
   exact rfl
  ·rw [h5 i hi]
   cases hh : W.heap[i]? with
   | none => rfl
   | some o => cases o <;> first | exact ⟨rfl, rfl, rfl, fun _ _ => rfl⟩ | exact .inr ⟨rfl, rfl⟩ | rfl
 | panicked _ => exact he.elim
 | outgrown => exact he.elim
end
end Go.Am
end
section
set_option linter.unusedVariables false
set_option linter.unusedSimpArgs false
namespace Go.Am
open Go
section
variable {M : Type}
def szL (left : Int) (n : Nat) : Int := if left < (n : Int) then -1 else left - (n : Int)
def sumL {T : Type} (f : T -> Nat) (l : List T) : Nat := (l.map f).sum
theorem sumL_mem {T : Type} {f : T -> Nat} {l : List T} {x : T} (h : x ∈ l) : f x <= sumL f l := by
 induction l with
 | nil => cases h
 | cons y l ih =>
  have e : sumL f (y :: l) = f y + sumL f l := by simp [sumL]
  rcases List.mem_cons.1 h with rfl | h
  ·omega
  ·have := ih h; omega
theorem szCase {m : Int} {n : Nat} : (m < (n : Int) /\ szL m n = -1) \/ ((n : Int) <= m /\ szL m n = m - n) := by
 unfold szL
 by_cases h : m < (n : Int)
 ·exact .inl ⟨h, if_pos h⟩
 ·exact .inr ⟨by omega, if_neg h⟩
theorem wrap_sub {l : Int} {n : Nat} (h0 : 0 <= l) (h1 : l <= 1048576) (h2 : n <= maxLen) : IntKind.wrap .i64 (l - (n : Int)) = l - (n : Int) := by
 unfold maxLen at h2
 exact wrap_of (by omega) (by omega)
theorem szCut {l : Int} {n t : Nat} {x : Option M} {k : Int -> Option M} (h0 : 0 <= l) (h1 : l <= 1048576) (hn : n <= maxLen) (h : ∀ m : Int, IntKind.wrap .i64 (l - (n : Int)) = m -> 0 <= m -> m <= 1048576 -> x = k (szL m t)) : br (decide (IntKind.wrap .i64 (l - (n : Int)) < 0)) (k (-1)) x = k (szL l (n + t)) := by
 have hw := wrap_sub h0 h1 hn
 by_cases c : l < (n : Int)
 ·refine brE (by rw [hw]; omega) ?_
  unfold szL
  rw [if_pos (by omega)]
 ·refine brN (by rw [hw]; omega) ((h _ hw (by omega) (by omega)).trans ?_)
  congr 1
  unfold szL
  by_cases c2 : l - (n : Int) < (t : Int)
  ·rw [if_pos c2, if_pos (by omega)]
  ·rw [if_neg c2, if_neg (by omega)]; omega
theorem szSub {l : Int} {n t : Nat} {x : Option M} {k : Int -> Option M} (h0 : 0 <= l) (h1 : l <= 1048576) (h : ∀ m : Int, szL l n = m -> 0 <= m -> m <= 1048576 -> x = k (szL m t)) : br (decide (szL l n < 0)) (k (-1)) x = k (szL l (n + t)) := by
 rcases @szCase l n with ⟨c, e⟩ | ⟨c, e⟩
 ·refine brE (by rw [e]; decide) ?_
  unfold szL
  rw [if_pos (by omega)]
 ·refine brN (by rw [e]; omega) ((h _ e (by omega) (by omega)).trans ?_)
  congr 1
  unfold szL
  by_cases c2 : l - (n : Int) < (t : Int)
  ·rw [if_pos c2, if_pos (by omega)]
  ·rw [if_neg c2, if_neg (by omega)]; omega
theorem szEnd {l : Int} {k : Int -> Option M} (h0 : 0 <= l) : k l = k (szL l 0) := by
 unfold szL
 rw [if_neg (by omega)]
 simp
theorem while_sz {T : Type} {step : List Leaf -> Option (List Leaf ⊕ (Nat × List Leaf))} {kk : (Nat × List Leaf) -> Option M} {K : Int -> Option M} (S : Nat -> Int -> List Leaf) (ys : List T) (size : T -> Nat) (fin : Int -> Nat × List Leaf)
  (h1 : ∀ i y m, ys[i]? = some y -> 0 <= m -> m <= 1048576 -> (∃ q, m < (size y : Int) /\ step (S i m) = some (.inr q) /\ kk q = K (-1)) \/ ((size y : Int) <= m /\ step (S i m) = some (.inl (S (i + 1) (m - (size y : Int))))))
  (h2 : ∀ m, step (S ys.length m) = some (.inr (fin m))) (hf : ∀ m, kk (fin m) = K m) {l : Int} (h0 : 0 <= l) (hl : l <= 1048576) {s0 : List Leaf} (hs : s0 = S 0 l) :
  whileK step s0 kk = K (szL l (sumL size ys)) := by
 have key : ∀ (zs : List T) (i : Nat) (m : Int), ys.drop i = zs -> i <= ys.length -> 0 <= m -> m <= 1048576 -> whileK step (S i m) kk = K (szL m (sumL size zs)) := by
  intro zs
  induction zs with
  | nil =>
   intro i m hd hi hm _
   have : i = ys.length := by
    have := List.drop_eq_nil_iff.1 hd
    omega
   subst this
   unfold whileK
   rw [whileInf_step, h2 m]
   show kk (fin m) = _
   rw [hf]
   exact szEnd hm
  | cons y zs ih =>
   intro i m hd hi hm hm1
   have hy : ys[i]? = some y := by
    have := congrArg (fun l => l[0]?) hd
    simpa using this
   have hlt := (gs_ hy).1
   have hd' : ys.drop (i + 1) = zs := by
    rw [<- List.tail_drop, hd]
    rfl
   have hsum : sumL size (y :: zs) = size y + sumL size zs := by simp [sumL]
   rcases h1 i y m hy hm hm1 with ⟨q, c, e1, e2⟩ | ⟨c, e1⟩
   ·unfold whileK
    rw [whileInf_step, e1]
    show kk q = _
    rw [e2]
    congr 1
    unfold szL
    rw [if_pos (by omega)]
   ·have := ih (i + 1) (m - (size y : Int)) hd' (by omega) (by omega) (by omega)
    unfold whileK at this ⊢
    rw [whileInf_step, e1]
    refine this.trans ?_
    congr 1
    unfold szL
    by_cases c2 : m - (size y : Int) < (sumL size zs : Int)
    ·rw [if_pos c2, if_pos (by omega)]
    ·rw [if_neg c2, if_neg (by omega)]; omega
 rw [hs]
 exact key ys 0 l rfl (Nat.zero_le _) h0 hl
theorem two {A B C : Type} (f : A -> B -> C) {a a2 : A} {b b2 : B} (h1 : a = a2) (h2 : b = b2) : f a b = f a2 b2 := by subst h1; subst h2; rfl
def okL {T : Type} (ok : T -> Prop) (a : List T) : Prop := a.length <= maxLen /\ ∀ e ∈ a, ok e
def okI (i : Int) : Prop := -9223372036854775808 <= i /\ i <= 9223372036854775807
theorem okI_of {m : Int} (h : (Lit.int .i64 m).wf = true) : okI m := by
 simp [Lit.wf, IntKind.min, IntKind.max, IntKind.signed, IntKind.bits] at h
 unfold okI
 omega
def okS (s : List UInt8) : Prop := s.length <= maxLen
abbrev rStr (l : List (List UInt8)) : List V := rows1 .str (fun e => e) l
abbrev rInt (l : List Int) : List V := rows1 (.int .i64) (fun e => e) l
theorem rStr_len (l : List (List UInt8)) : (rStr l).length = l.length := List.length_map _
theorem rInt_len (l : List Int) : (rInt l).length = l.length := List.length_map _
theorem rStr_copy0 {a : List (List UInt8)} : List.replicate a.length (.str []) = rStr (copyS a ([] : List UInt8) 0) := rows1_copy0 (kd := .str) (g1 := fun e => e) rfl
theorem rInt_copy0 {a : List Int} : List.replicate a.length (.int .i64 0) = rInt (copyS a (0 : Int) 0) := rows1_copy0 (kd := .int .i64) (g1 := fun e => e) rfl
theorem rlt {T : Type} {ks : List CK} {g : T -> cellsT ks} {a : List T} {i : Nat} (h : i < a.length) : (i : Int) < ((rows ks g a).length : Int) := by rw [rows_len]; omega
theorem rirr {T : Type} {ks : List CK} {g : T -> cellsT ks} {a : List T} : ¬ (a.length : Int) < ((rows ks g a).length : Int) := by rw [rows_len]; omega
theorem rlt1 {T : Type} {kd : CK} {g : T -> kd.T} {a : List T} {i : Nat} (h : i < a.length) : (i : Int) < ((rows1 kd g a).length : Int) := by rw [rows1_len]; omega
theorem rirr1 {T : Type} {kd : CK} {g : T -> kd.T} {a : List T} : ¬ (a.length : Int) < ((rows1 kd g a).length : Int) := by rw [rows1_len]; omega
theorem eqCut {p q : Bool} {x : Option M} {k : Bool -> Option M} (h : x = k q) : br (!p) (k false) x = k (p && q) := by
 cases p
 ·rfl
 ·exact h
theorem zip_any {T : Type} [DecidableEq T] : ∀ (a b : List T), a.length = b.length -> (a.zip b).any (fun p => !decide (p.1 = p.2)) = !decide (a = b) := by
 intro a
 induction a with
 | nil => intro b h; cases b with
  | nil => simp
  | cons y b => simp at h
 | cons x a ih => intro b h; cases b with
  | nil => simp at h
  | cons y b =>
   rw [List.zip_cons_cons, List.any_cons, ih b (by simpa using h)]
   by_cases e : x = y <;> simp [e]
theorem while_eq {T : Type} [DecidableEq T] {step : List Leaf -> Option (List Leaf ⊕ (Nat × List Leaf))} {k : Bool -> Option M} {kk : (Nat × List Leaf) -> Option M} (S : Nat -> List Leaf) (a b : List T) (hl : a.length = b.length)
  (h1 : ∀ i x y, i < a.length -> a[i]? = some x -> b[i]? = some y -> step (S i) = if (!decide (x = y)) = true then some (.inr (0, [.b false])) else some (.inl (S (i + 1)))) (h2 : step (S a.length) = some (.inr (1, [])))
  (hk1 : kk (0, [.b false]) = k false) (hk2 : kk (1, []) = k true) {s0 : List Leaf} (hs : s0 = S 0) : whileK step s0 kk = k (decide (a = b)) := by
 have hz : (a.zip b).length = a.length := by simp [hl]
 unfold whileK
 rw [while_any S (a.zip b) (fun p => !decide (p.1 = p.2)) (0, [.b false]) (1, []) (fun i p hp => by
  obtain ⟨g1, g2⟩ := List.getElem?_zip_eq_some.1 hp
  exact h1 i p.1 p.2 (gs_ g1).1 g1 g2) (by rw [hz]; exact h2) _ hs, zip_any a b hl]
 by_cases e : a = b
 ·simp [e, hk2]
 ·simp [e, hk1]
theorem eqLen {T : Type} [DecidableEq T] {a b : List T} {n m : Nat} {x : Option M} {k : Bool -> Option M} (hn : n = a.length) (hm : m = b.length) (h : a.length = b.length -> x = k (decide (a = b))) : br ((n : Int) != (m : Int)) (k false) x = k (decide (a = b)) := by
 subst hn; subst hm
 by_cases c : a.length = b.length
 ·rw [show ((a.length : Int) != (b.length : Int)) = false by simp [c]]
  exact h c
 ·rw [show ((a.length : Int) != (b.length : Int)) = true by simp; omega, decide_eq_false (fun e => c (by rw [e]))]
  rfl
end
end Go.Am
end

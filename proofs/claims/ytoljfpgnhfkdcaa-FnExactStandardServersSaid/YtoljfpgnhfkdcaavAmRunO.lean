/-
  Laws that mark: regions.
-/
import Derived.Test.YtoljfpgnhfkdcaavAmRunL
section
set_option linter.unusedVariables false
set_option linter.unusedSimpArgs false
namespace Go.Am
open Go Go.RowKit
structure LX.Ok (X : LX) : Prop where
  ans : Answers X.P X.D
  agv : ∀ j n, X.ag[j]? = some (some n) → ∃ cs, X.Vh j = .agg cs ∧ cs.length = n ∧ allCell cs = true
def LX.LR (X : LX) (tv : List LM) (bl : List (Nat × Nat)) (fr : Option (Nat × Nat)) : LV → Value → Prop
 | .un, _ => True
 | .kb b, x => x = .bool b
 | .ki n, x => x = .int .i64 n
 | .zi i, x => x = .int .i64 (X.Z i)
 | .lt0 i, x => x = .bool (decide (X.Z i < 0))
 | .gt i m, x => x = .bool (decide (m < X.Z i))
 | .ct l, x => x = .int .i64 (X.ctv l : Int)
 | .v j, x => ∃ t, tv[j]? = some t ∧ x = t.x
 | .bx j, x => ∃ b, x = .pointer (some ⟨b, 0, none⟩) ∧ (b, j) ∈ bl
 | .fb ty, x => ∃ b, x = .pointer (some ⟨b, 0, none⟩) ∧ fr = some (b, ty)
 | .tp js, x => ∃ vs : Array Value, x = .tuple vs ∧ vs.size = js.length ∧ ∀ (i j : Nat), js[i]? = some j → ∃ t, tv[j]? = some t ∧ vs[i]? = some t.x
def LX.argZ (X : LX) : LV → Option Int
 | .ki n => some n
 | .zi i => some (X.Z i)
 | _ => none
def LX.H (X : LX) : List LC → Prop
 | [] => True
 | .sz f j a i :: r => (∃ z, X.argZ a = some z ∧ X.D f [X.Vh j, .int .i64 z] = some (.int .i64 (X.Z i))) ∧ LX.H X r
 | .len j i b :: r => (if b = true then ∃ s, X.Vh j = .str s ∧ X.Z i = s.length else ∃ s f xs, X.Vh j = .sl s f xs ∧ X.Z i = xs.length) ∧ LX.H X r
 | .low i :: r => 0 ≤ X.Z i → LX.H X r
 | .big i m :: r => X.Z i ≤ m → LX.H X r
 | .mk f js sh i :: r => (X.D f (js.map X.Vh) = some (X.Vo i) ∧ Hand (!sh) (X.Vo i) (X.Vh i) ∧ (sh = false → (X.shp i).own (X.Vo i) (X.nn i))) ∧ LX.H X r
 | .mks _ _ _ _ _ :: _ => False
 | .tt f js :: r => X.D f (js.map X.Vh) = some (.bool true) ∧ LX.H X r
 | .mark f j l :: r => ((X.shp j).MarkOk X.P X.mt f ∧ X.ctv l + X.nn j ≤ 1152921504606846976) ∧ LX.H X r
 | .held f j l :: r => ((X.shp j).HeldOk X.P X.mt f ∧ X.ctv l + X.nn j ≤ 1152921504606846976) ∧ LX.H X r
 | .same i j k :: r => ((k = 0 ∧ ∃ b, X.Vh i = .bool b ∧ X.Vh j = .bool b) ∨ (k = 1 ∧ ∃ n, X.Vh i = .int .i64 n ∧ X.Vh j = .int .i64 n) ∨ (k = 2 ∧ ∃ s, X.Vh i = .str s ∧ X.Vh j = .str s)) ∧ LX.H X r
def readsAt (tb : List LE) (j : Nat) : Bool := match tb[j]? with
 | some e => e.st.reads
 | none => false
def LV.asZ : LV → Bool
 | .ki _ => true
 | .zi _ => true
 | _ => false
def LV.asCt : LV → Option (List Nat)
 | .ki n => if n = 1 then some [] else none
 | .ct l => some l
 | _ => none
def lcall (f : Nat) (al : List LV) (tb : List LE) : LC → Option (LV × List LE)
 | .sz f' j a i => if f' = f ∧ al = [.v j, a] ∧ readsAt tb j = true ∧ a.asZ = true then some (.zi i, tb) else none
 | .mk f' js sh i => if f' = f ∧ al = js.map .v ∧ js.all (readsAt tb) = true ∧ i = tb.length then some (.v i, tb ++ [⟨tb.length + 1, if sh then .sh else .nw⟩]) else none
 | .tt f' js => if f' = f ∧ al = js.map .v ∧ js.all (readsAt tb) = true then some (.kb true, tb) else none
 | .mark f' j l => match al with
  | [.v j', a] => if f' = f ∧ j' = j ∧ a.asCt = some l then (match tb[j]? with
   | some e => if e.st.whole = true then some (.ct (j :: l), markTb tb j e.grp l) else none
   | none => none) else none
  | _ => none
 | .held f' j l => match al with
  | [.v j', a] => if f' = f ∧ j' = j ∧ a.asCt = some l then (match tb[j]? with
   | some e => if e.st = .mk l then some (.ct (j :: l), tb) else none
   | none => none) else none
  | _ => none
 | _ => none
section
variable {X : LX} {tb tb' : List LE} {tv : List LM} {bl : List (Nat × Nat)} {fr : Option (Nat × Nat)} {w w' : World} {j : Nat} {e : LE} {t : LM}
theorem tree_of_answer {mt : Nat → List UInt8} {R : Nat → Prop} {r : V} {x : Value} {s : Shp} {n : Nat} (a : Answer R w r x w') (h : s.own r n) : ∃ T, s.tree mt false w' x 0 n T ∧ ∀ b, T b → w.heap.size ≤ b ∧ b < w'.heap.size := by
 obtain ⟨Γ, hv, hF, hS, hB, hinj, hbZ, hZ, hU, hN, hdis⟩ := a.val
 have b1 : ∀ b, Γ.has b → ¬ Γ.S (Γ.blk b) ∧ ∃ cur e, w'.heap[Γ.blk b]? = some (.cells cur e (0, 0)) := fun b hb => by
  obtain ⟨_, _, h3, _, cur, e, h5, _⟩ := hB b hb
  exact ⟨h3, cur, e, h5⟩
 have z1 : ∀ k, Γ.Z k → ∃ cur e, w'.heap[k]? = some (.cells cur e (0, 0)) := fun k hk => (hZ k hk).2.2
 cases s with
 | s ks =>
  rcases h with ⟨b, s, q, f, xs, rfl, hq, hk⟩ | ⟨rfl, rfl⟩
  ·refine ⟨_, mt_own hv hq hk hU b1 z1 hN 0, ?_⟩
   rintro m ⟨g1, g2 | g2⟩
   ·rw [g2]; exact ⟨(hB b g1).1, (hB b g1).2.1⟩
   ·have := hZ m (hN b g1 m g2).2; exact ⟨this.1, this.2.1⟩
  ·refine ⟨fun _ => False, ?_, fun _ h => h.elim⟩
   cases hv with
   | rd _ _ hr => cases hr; exact .nil ks none 0 0 _
 | a sz fs =>
  obtain ⟨cs, rfl, hl, ho⟩ := h
  have go : ∀ vs : Array Value, cs.length = vs.size → (∀ (i : Nat) (c : V) (v : Value), cs[i]? = some c → vs[i]? = some v → VR Γ w' c v) → ∃ T, (Shp.a sz fs).tree mt false w' (.agg vs) 0 n T ∧ ∀ b, T b → w.heap.size ≤ b ∧ b < w'.heap.size := fun vs h1 h2 => by
   refine ⟨_, ⟨vs, rfl, by omega, ma_own h1 h2 hU b1 z1 hN hinj hdis fs [] n 0 ho⟩, ?_⟩
   rintro m ⟨b, _, g1, g2 | g2⟩
   ·rw [g2]; exact ⟨(hB b g1).1, (hB b g1).2.1⟩
   ·have := hZ m (hN b g1 m g2).2; exact ⟨this.1, this.2.1⟩
  cases hv with
  | rd _ _ hr =>
   cases hr with
   | agg _ vs h1 h2 => exact go vs h1 (fun i c v g1 g2 => .rd _ _ (h2 i c v g1 g2))
  | agg _ vs h1 h2 => exact go vs h1 h2
theorem agx_of_rd {S : Nat → Prop} {cs : List V} {x : Value} (h : Rd w S (.agg cs) x) (hc : allCell cs = true) : ∃ vs : Array Value, x = .agg vs ∧ vs.size = cs.length ∧ ∀ u ∈ vs.toList, u.oneCell' = true := by
 cases h with
 | agg _ vs h1 h2 =>
  refine ⟨vs, rfl, h1.symm, fun u hu => ?_⟩
  obtain ⟨i, hi⟩ := List.getElem?_of_mem hu
  have hlt : i < cs.length := by have := (List.getElem?_eq_some_iff.1 hi).1; simp at this; omega
  have hr := h2 i _ u (List.getElem?_eq_getElem hlt) (by simpa using hi)
  have hcell := allCell_mem hc _ (List.getElem_mem hlt)
  let Γ : Ctx := { w0 := w, F := fun _ => False, S := S, has := fun _ => False, blk := fun _ => 0, off := fun _ => 0, cap := fun _ => 0, sz := fun _ => 0, ln := fun _ => 0, lb := fun _ => False, box := fun _ => 0, R := fun _ => False, Z := fun _ => False, N := fun _ _ => False, U := True }
  exact isCell_one (Γ := Γ) (.rd _ _ hr) hcell
theorem LX.Ok.agx (hO : X.Ok) {S : Nat → Prop} {x : Value} (h : Rd w S (X.Vh j) x) : ∀ n, X.ag[j]? = some (some n) → ∃ vs : Array Value, x = .agg vs ∧ vs.size = n ∧ ∀ u ∈ vs.toList, u.oneCell' = true := fun n hn => by
 obtain ⟨cs, h1, h2, h3⟩ := hO.agv j n hn
 rw [h1] at h
 obtain ⟨vs, g1, g2, g3⟩ := agx_of_rd h h3
 exact ⟨vs, g1, g2.trans h2, g3⟩
theorem readsAt_inv (h : readsAt tb j = true) : ∃ e, tb[j]? = some e ∧ e.st.reads = true := by
 unfold readsAt at h
 split at h
 ·rename_i e he; exact ⟨e, he, h⟩
 ·cases h
theorem LX.LR.mono {fr' : Option (Nat × Nat)} {tv' : List LM} {bl' : List (Nat × Nat)} {v : LV} {x : Value} (h : X.LR tv bl fr v x) (ht : tv <+: tv') (hb : ∀ p ∈ bl, p ∈ bl') (hf : ∀ b ty, fr = some (b, ty) → fr' = some (b, ty)) : X.LR tv' bl' fr' v x := by
 have pre : ∀ {i : Nat} {t : LM}, tv[i]? = some t → tv'[i]? = some t := fun {i t} hi => by
  obtain ⟨r, rfl⟩ := ht
  rw [List.getElem?_append_left (List.getElem?_eq_some_iff.1 hi).1]
  exact hi
 cases v with
 | v j => obtain ⟨t, h1, h2⟩ := h; exact ⟨t, pre h1, h2⟩
 | bx j => obtain ⟨b, h1, h2⟩ := h; exact ⟨b, h1, hb _ h2⟩
 | fb ty => obtain ⟨b, h1, h2⟩ := h; exact ⟨b, h1, hf b ty h2⟩
 | tp js => obtain ⟨vs, h1, h2, h3⟩ := h; exact ⟨vs, h1, h2, fun i j hj => by obtain ⟨t, g1, g2⟩ := h3 i j hj; exact ⟨t, pre g1, g2⟩⟩
 | _ => exact h
theorem kept_of {R : Nat → Prop} {w w' : World} {r : V} {x : Value} (a : Answer R w r x w') : Kept w w' := ⟨a.os, a.tape, a.output, a.size, a.old⟩
theorem answer_bool' {R : Nat → Prop} {W W' : World} {b : Bool} {y : Value} (a : Answer R W (.bool b) y W') : y = .bool b := by
 obtain ⟨Γ, hv, _⟩ := a.val
 exact hv.bool_inv
theorem answer_int' {R : Nat → Prop} {W W' : World} {k : IntKind} {m : Int} {y : Value} (a : Answer R W (.int k m) y W') : y = .int k m := by
 obtain ⟨Γ, hv, _⟩ := a.val
 exact hv.int_inv
theorem ans_call (hO : X.Ok) (hI : X.Inv tb tv bl fr w) {f : Nat} {args : List V} {r : V} {vals : Array Value} {B : Ending → World → Prop} (hd : X.D f args = some r) (hl : args.length = vals.size)
  (hr : ∀ (i : Nat) (c : V) (v : Value), args[i]? = some c → vals[i]? = some v → Rd w (fun k => k < w.heap.size ∧ nofr fr k) c v) (hB : ∀ x w', Answer (fun k => k < w.heap.size ∧ nofr fr k) w r x w' → B (.returned x) w') : Calls X.P f vals w B :=
 ((hO.ans _ _ _ hd).2 (fun k => k < w.heap.size ∧ nofr fr k) w vals hI.glob (fun _ h => h.1) hl hr).mono (fun e W' h => by
  cases e with
  | returned x => exact hB x W' h
  | _ => exact h.elim)
theorem args_rd (hI : X.Inv tb tv bl fr w) {js : List Nat} {vals : Array Value} (hj : js.all (readsAt tb) = true) (ha : ∀ (i : Nat) (a : LV) (x : Value), (js.map LV.v)[i]? = some a → vals[i]? = some x → X.LR tv bl fr a x) :
  ∀ (i : Nat) (c : V) (v : Value), (js.map X.Vh)[i]? = some c → vals[i]? = some v → Rd w (fun k => k < w.heap.size ∧ nofr fr k) c v := by
 intro i c v h1 h2
 rw [List.getElem?_map] at h1
 cases hji : js[i]? with
 | none => rw [hji] at h1; cases h1
 | some j =>
  rw [hji] at h1
  injection h1 with h1
  obtain ⟨t, g1, g2⟩ := ha i (.v j) v (by rw [List.getElem?_map, hji]; rfl) h2
  obtain ⟨e, e1, e2⟩ := readsAt_inv (List.all_eq_true.1 hj j (List.mem_of_getElem? hji))
  rw [← h1, g2]
  exact hI.rd e1 g1 e2
theorem ctv_cons {l : List Nat} : X.ctv (j :: l) = X.ctv l + X.nn j := by
 simp only [LX.ctv, List.map_cons, List.sum_cons]
 omega
theorem asCt_val {a : LV} {l : List Nat} {x : Value} (h : a.asCt = some l) (hr : X.LR tv bl fr a x) : x = .int .i64 (X.ctv l : Int) := by
 cases a with
 | ki n =>
  simp only [LV.asCt] at h
  split at h
  ·rename_i e
   injection h with h
   subst h; subst e
   exact hr
  ·cases h
 | ct l' => injection h with h; subst h; exact hr
 | _ => cases h
theorem asZ_val {a : LV} {z : Int} {x : Value} (h : X.argZ a = some z) (hr : X.LR tv bl fr a x) : x = .int .i64 z := by
 cases a with
 | ki n => injection h with h; subst h; exact hr
 | zi i => injection h with h; subst h; exact hr
 | _ => cases h
theorem lcall_ok {f : Nat} {al : List LV} {ev : LC} {evs : List LC} {v : LV} {vals : Array Value} (hO : X.Ok) (hI : X.Inv tb tv bl fr w) (h : lcall f al tb ev = some (v, tb')) (hH : X.H (ev :: evs)) (hl : al.length = vals.size) (ha : ∀ (i : Nat) (a : LV) (x : Value), al[i]? = some a → vals[i]? = some x → X.LR tv bl fr a x) :
  Known X.P f ∧ X.H evs ∧ Calls X.P f vals w fun e w' => ∃ x tv', e = .returned x ∧ tv <+: tv' ∧ X.LR tv' bl fr v x ∧ X.Inv tb' tv' bl fr w' := by
 cases ev with
 | sz f' j a i =>
  simp only [lcall] at h
  split at h
  ·rename_i hc
   obtain ⟨rfl, rfl, h3, h4⟩ := hc
   simp only [Option.some.injEq, Prod.mk.injEq] at h
   obtain ⟨rfl, rfl⟩ := h
   obtain ⟨⟨z, hz, hd⟩, hH⟩ := hH
   refine ⟨(hO.ans _ _ _ hd).1, hH, ans_call hO hI hd hl (fun p c v h1 h2 => ?_) (fun x w' a => ⟨x, tv, rfl, List.prefix_refl _, answer_int' a, hI.grow (kept_of a)⟩)⟩
   match p, h1 with
   | 0, h1 =>
    injection h1 with h1
    subst h1
    obtain ⟨t, g1, g2⟩ := ha 0 _ v rfl h2
    obtain ⟨e, e1, e2⟩ := readsAt_inv h3
    rw [g2]
    exact hI.rd e1 g1 e2
   | 1, h1 =>
    injection h1 with h1
    subst h1
    rw [asZ_val hz (ha 1 _ v rfl h2)]
    exact .int _ _
   | p + 2, h1 => simp at h1
  ·cases h
 | mk f' js sh i =>
  simp only [lcall] at h
  split at h
  ·rename_i hc
   obtain ⟨rfl, rfl, h3, rfl⟩ := hc
   simp only [Option.some.injEq, Prod.mk.injEq] at h
   obtain ⟨rfl, rfl⟩ := h
   obtain ⟨⟨hd, hh, hown⟩, hH⟩ := hH
   refine ⟨(hO.ans _ _ _ hd).1, hH, ans_call hO hI hd (by simpa using hl) (args_rd hI h3 ha) (fun x w' a => ?_)⟩
   have hk := kept_of a
   have fin : ∀ t : LM, t.x = x → t.lo = w.heap.size → t.hi = w'.heap.size → X.Ent fr w' tb.length ⟨tb.length + 1, if sh then .sh else .nw⟩ t → ∃ x_1 tv', Ending.returned x = Ending.returned x_1 ∧ tv <+: tv' ∧ X.LR tv' bl fr (.v tb.length) x_1 ∧ X.Inv (tb ++ [⟨tb.length + 1, if sh then .sh else .nw⟩]) tv' bl fr w' := fun t ht h1 h2 hent =>
    ⟨x, tv ++ [t], rfl, List.prefix_append _ _, ⟨t, by rw [← hI.len, List.getElem?_append_right (Nat.le_refl _), Nat.sub_self]; rfl, ht.symm⟩,
     hI.more hk [_] [t] rfl (fun t' ht' => by rw [List.mem_singleton.1 ht']; exact ⟨h1, h2⟩) (fun e he => by rw [List.mem_singleton.1 he]) (fun i e t' g1 g2 => by
      match i, g1, g2 with
      | 0, g1, g2 => injection g1 with g1; injection g2 with g2; subst g1; subst g2; exact hent
      | i + 1, g1, _ => simp at g1) (fun i i' t1 t2 g1 g2 hne => by
      have e1 := (List.getElem?_eq_some_iff.1 g1).1
      have e2 := (List.getElem?_eq_some_iff.1 g2).1
      simp at e1 e2
      omega)⟩
   obtain ⟨Γ, hv, hF, hS, hB, hinj, hbZ, hZ, hU, hN, hdis⟩ := a.val
   cases sh with
   | true =>
    have hr : Rd w' (fun k => k < w'.heap.size ∧ nofr fr k) (X.Vh tb.length) x := by
     have nb : ∀ k, w.heap.size ≤ k → nofr fr k := fun k hk b ty hb => by
      obtain ⟨_, _, _, b1, _⟩ := hI.fresh b ty hb
      have := blk_lt b1
      omega
     refine rd_hand hh (fun _ k hk => ⟨(hS k hk).2, (hS k hk).1.elim (fun h => h.2) (nb k)⟩) (fun k hk _ => ⟨(hS k hk).2, (hS k hk).1.elim (fun h => h.2) (nb k)⟩) (fun b hb => ⟨(hB b hb).2.1, nb _ (hB b hb).1⟩) hv
    exact fin ⟨x, w.heap.size, w'.heap.size, fun _ => False⟩ rfl rfl rfl ⟨hO.agx hr, Nat.le_refl _, fun b hb => hb.elim, hr, fun _ => hI.size⟩
   | false =>
    have hr : Rd w' (fun k => w.heap.size ≤ k ∧ k < w'.heap.size) (X.Vh tb.length) x :=
     rd_hand hh (fun e => by cases e) (fun k _ hk => ⟨(hZ k hk).1, (hZ k hk).2.1⟩) (fun b hb => ⟨(hB b hb).1, (hB b hb).2.1⟩) hv
    obtain ⟨T, hT1, hT2⟩ := tree_of_answer (mt := X.mt) a (hown rfl)
    exact fin ⟨x, w.heap.size, w'.heap.size, T⟩ rfl rfl rfl ⟨hO.agx hr, Nat.le_refl _, fun b hb => ⟨hI.size, (hT2 b hb).1, (hT2 b hb).2⟩, ⟨hr, hT1⟩, fun _ => hI.size⟩
  ·cases h
 | tt f' js =>
  simp only [lcall] at h
  split at h
  ·rename_i hc
   obtain ⟨rfl, rfl, h3⟩ := hc
   simp only [Option.some.injEq, Prod.mk.injEq] at h
   obtain ⟨rfl, rfl⟩ := h
   obtain ⟨hd, hH⟩ := hH
   exact ⟨(hO.ans _ _ _ hd).1, hH, ans_call hO hI hd (by simpa using hl) (args_rd hI h3 ha) (fun x w' a => ⟨x, tv, rfl, List.prefix_refl _, answer_bool' a, hI.grow (kept_of a)⟩)⟩
  ·cases h
 | mark f' j l =>
  simp only [lcall] at h
  split at h
  ·rename_i j' a
   split at h
   ·rename_i hc
    obtain ⟨rfl, rfl, hct⟩ := hc
    split at h
    ·rename_i e he
     split at h
     ·rename_i hw
      simp only [Option.some.injEq, Prod.mk.injEq] at h
      obtain ⟨rfl, rfl⟩ := h
      obtain ⟨⟨hm, hb⟩, hH⟩ := hH
      obtain ⟨y, k, rfl⟩ : ∃ y k, vals = #[y, k] := by
       have : vals.toList.length = 2 := by simpa using hl.symm
       match hv : vals.toList, this with
       | [y, k], _ => exact ⟨y, k, arr2 hv⟩
      obtain ⟨t, g1, rfl⟩ := ha 0 _ y rfl rfl
      obtain rfl := asCt_val hct (ha 1 _ k rfl rfl)
      have hent := hI.ent j' e t he g1
      have htree : (X.shp j').tree X.mt false w t.x 0 (X.nn j') t.T := by
       have := hent.st
       cases hst : e.st with
       | nw => rw [hst] at this; exact this.2
       | tr => rw [hst] at this; exact this
       | _ => rw [hst] at hw; cases hw
      have hlow : ∀ b, t.T b → globN ≤ b ∧ b < w.heap.size := fun b hb => by
       obtain ⟨q1, q2, q3⟩ := hent.low b hb
       have := hI.g0.2
       have := hent.hi
       omega
      have go : ∀ (kn : Known X.P f'), Calls X.P f' #[t.x, .int .i64 (X.ctv l : Int)] w (fun e w' => e = .returned (.int .i64 ((X.ctv l + X.nn j' : Nat) : Int)) ∧ Mod t.T w w' ∧ (X.shp j').tree X.mt true w' t.x (X.ctv l) (X.nn j') t.T) →
        Known X.P f' ∧ X.H evs ∧ Calls X.P f' #[t.x, .int .i64 (X.ctv l : Int)] w fun e_1 w' => ∃ x tv', e_1 = .returned x ∧ tv <+: tv' ∧ X.LR tv' bl fr (.ct (j' :: l)) x ∧ X.Inv (markTb tb j' e.grp l) tv' bl fr w' := fun kn hc =>
       ⟨kn, hH, hc.mono (fun e' w' h => ⟨_, tv, h.1, List.prefix_refl _, by show Value.int _ _ = _; rw [ctv_cons], hI.marked he g1 h.2.1 h.2.2 hw⟩)⟩
      cases hs : X.shp j' with
      | s ks =>
       rw [hs] at hm htree
       rw [hs] at go
       exact go hm.1 (hm.2 t.T t.x (X.nn j') (X.ctv l) w hI.glob hlow htree hb)
      | a sz fs =>
       rw [hs] at hm htree
       rw [hs] at go
       obtain ⟨cs, q1, q2, q3⟩ := htree
       refine go hm.1 ?_
       rw [q1]
       exact (hm.2 t.T cs (X.nn j') (X.ctv l) w hI.glob hlow q2 q3 hb).mono (fun e' w' h => ⟨h.1, h.2.1, cs, rfl, q2, h.2.2⟩)
     ·cases h
    ·cases h
   ·cases h
  ·cases h
 | held f' j l =>
  simp only [lcall] at h
  split at h
  ·rename_i j' a
   split at h
   ·rename_i hc
    obtain ⟨rfl, rfl, hct⟩ := hc
    split at h
    ·rename_i e he
     split at h
     ·rename_i hw
      simp only [Option.some.injEq, Prod.mk.injEq] at h
      obtain ⟨rfl, rfl⟩ := h
      obtain ⟨⟨hm, hb⟩, hH⟩ := hH
      obtain ⟨y, k, rfl⟩ : ∃ y k, vals = #[y, k] := by
       have : vals.toList.length = 2 := by simpa using hl.symm
       match hv : vals.toList, this with
       | [y, k], _ => exact ⟨y, k, arr2 hv⟩
      obtain ⟨t, g1, rfl⟩ := ha 0 _ y rfl rfl
      obtain rfl := asCt_val hct (ha 1 _ k rfl rfl)
      have hent := hI.ent j' e t he g1
      have htree : (X.shp j').tree X.mt true w t.x (X.ctv l) (X.nn j') t.T := by
       have := hent.st
       rw [hw] at this
       exact this
      have hlow : ∀ b, t.T b → b < w.heap.size := fun b hb => by
       obtain ⟨q1, q2, q3⟩ := hent.low b hb
       have := hent.hi
       omega
      have go : ∀ (kn : Known X.P f'), Calls X.P f' #[t.x, .int .i64 (X.ctv l : Int)] w (fun e w' => e = .returned (.int .i64 ((X.ctv l + X.nn j' : Nat) : Int)) ∧ Kept w w') →
        Known X.P f' ∧ X.H evs ∧ Calls X.P f' #[t.x, .int .i64 (X.ctv l : Int)] w fun e_1 w' => ∃ x tv', e_1 = .returned x ∧ tv <+: tv' ∧ X.LR tv' bl fr (.ct (j' :: l)) x ∧ X.Inv tb tv' bl fr w' := fun kn hc =>
       ⟨kn, hH, hc.mono (fun e' w' h => ⟨_, tv, h.1, List.prefix_refl _, by show Value.int _ _ = _; rw [ctv_cons], hI.grow h.2⟩)⟩
      cases hs : X.shp j' with
      | s ks =>
       rw [hs] at hm htree
       exact go hm.1 (hm.2 t.T t.x (X.nn j') (X.ctv l) w hI.glob hlow htree hb)
      | a sz fs =>
       rw [hs] at hm htree
       obtain ⟨cs, q1, q2, q3⟩ := htree
       refine go hm.1 ?_
       rw [q1]
       exact hm.2 t.T cs (X.nn j') (X.ctv l) w hI.glob hlow q2 q3 hb
     ·cases h
    ·cases h
   ·cases h
  ·cases h
 | _ => cases h
end
end Go.Am
end
section
set_option linter.unusedVariables false
set_option linter.unusedSimpArgs false
namespace Go.Am
open Go Go.RowKit
def opLV (g : Nat → LV) : Operand → Option LV
 | .tmp x => some (g x)
 | .const (.bool b) => some (.kb b)
 | .const (.int .i64 n) => some (.ki n)
 | _ => none
def LV.free : LV → Bool
 | .fb _ => false
 | _ => true
def kindTy : Ty → Nat → Bool
 | .bool, 0 => true
 | .int .i64, 1 => true
 | .str, 2 => true
 | _, _ => false
def lbin1 (c : Cfg) (op : BinOp) (t : Nat) (a : LV) (z : Int) : Option LV :=
 if isI64 c t = true then (match op, a with
  | .lss, .ct _ => if z = 0 then some (.kb false) else none
  | .lss, .zi i => if z = 0 then some (.lt0 i) else none
  | .gtr, .zi i => some (.gt i z)
  | _, _ => none) else none
def lbin2 (c : Cfg) (tb : List LE) (t : Nat) (a b : LV) (evs : List LC) : Option (LV × List LC) :=
 match a, b with
 | .ct l, .ct l' => if l = l' ∧ isI64 c t = true then some (.kb false, evs) else none
 | .v p, .v q => match evs with
  | .same p' q' k :: es => match c.ty t with
   | some i => if p' = p ∧ q' = q ∧ kindTy i.d k = true ∧ readsAt tb p = true ∧ readsAt tb q = true then some (.kb false, es) else none
   | none => none
  | _ => none
 | _, _ => none
def lop (c : Cfg) (ag : List (Option Nat)) (g : Nat → LV) (tb : List LE) (evs : List LC) (op : Op) : Option (LV × List LE × List LC) :=
 match op with
 | .move x => match opLV g x with
  | some v => if v.free = true then some (v, tb, evs) else none
  | none => none
 | .assign x => match opLV g x with
  | some v => if v.free = true then some (v, tb, evs) else none
  | none => none
 | .load t (.tmp x) => match g x, c.ty t with
  | .bx j, some i => if i.d.isAgg = true ∧ ag[j]? = some (some i.size) then some (.v j, tb, evs) else none
  | _, _ => none
 | .unOp .not _ (.tmp x) => match g x with
  | .kb b => some (.kb (!b), tb, evs)
  | _ => none
 | .pick a x y => match opLV g a with
  | some (.kb b) => match opLV g (if b then x else y) with
   | some v => if v.free = true then some (v, tb, evs) else none
   | none => none
  | _ => none
 | .binOp op t (.tmp x) (.const (.int .i64 z)) _ => match lbin1 c op t (g x) z with
  | some v => some (v, tb, evs)
  | none => none
 | .binOp .neq t (.tmp x) (.tmp y) _ => if x = y then none else match lbin2 c tb t (g x) (g y) evs with
  | some (v, es) => some (v, tb, es)
  | none => none
 | .call ⟨.value (.func f), args, _⟩ => match evs with
  | ev :: es => match lcall f (args.toList.map fun
    | .tmp x => g x
    | _ => .un) tb ev with
   | some (v, tb') => some (v, tb', es)
   | none => none
  | [] => none
 | .call ⟨.builtin .len, args, ts⟩ => match args.toList, ts.toList, evs with
  | [.tmp x], [t], .len j i b :: es => match g x, c.ty t with
   | .v j', some ti => if j' = j ∧ readsAt tb j = true then (match ti.d, b with
    | .slice _, false => some (.zi i, tb, es)
    | .str, true => some (.zi i, tb, es)
    | _, _ => none) else none
   | _, _ => none
  | _, _, _ => none
 | .extract (.tmp x) ix => match g x with
  | .tp js => match js[ix]? with
   | some j => some (.v j, tb, evs)
   | none => none
  | _ => none
 | _ => none
def O0 (P : Program) (n : Nat) (o : Oper) (s : Nat → Value) (w : World) (K : (Nat → Value) → World → Prop) : Prop :=
 ∀ (a : Act) (Q : Exit → Act → World → Prop) (N : Act → World → Prop), (∀ s' a' w', Ag n s' a' → K s' w' → N a' w') → Ag n s a → o.wp P a w N Q
section
variable {P : Program} {n d : Nat} {s : Nat → Value} {w w' : World} {x : Value} {o : Oper} {K K' : (Nat → Value) → World → Prop}
theorem O0.mono (h : O0 P n o s w K) (hk : ∀ s' w', K s' w' → K' s' w') : O0 P n o s w K' := fun a Q N hN ha => h a Q N (fun s' a' w' h1 h2 => hN s' a' w' h1 (hk s' w' h2)) ha
theorem O0.value (hd : o.dst = some d) (hn : d < n) (he : (execOp (evs s) o).run P w = .ok (.value x) w') (h : K (upd s d x) w') : O0 P n o s w K := by
 intro a Q N hN ha
 unfold Oper.wp
 rw [ha.eval, he, Oper.upon_value, hd]
 exact hN _ _ _ (ha.put hn) h
theorem O0.skip (hd : o.dst = none) (he : (execOp (evs s) o).run P w = .ok .skip w') (h : K s w') : O0 P n o s w K := by
 intro a Q N hN ha
 unfold Oper.wp
 rw [ha.eval, he, Oper.upon_skip, hd]
 exact hN _ a _ ha h
theorem O0.call {f : FuncId} {args : Array Value} (hd : o.dst = some d) (hn : d < n) (he : (execOp (evs s) o).run P w = .ok (.enter f args) w)
  (hc : Calls P f args w fun e w' => ∃ x, e = .returned x ∧ K (upd s d x) w') : O0 P n o s w K := by
 intro a Q N hN ha
 unfold Oper.wp
 rw [ha.eval, he, Oper.upon_enter]
 refine Calls.mono hc fun e w' h => ?_
 obtain ⟨x, rfl, h⟩ := h
 show N (a.put o.dst x) w'
 rw [hd]
 exact hN _ _ _ (ha.put hn) h
end
section
variable {X : LX} {c : Cfg} {n d : Nat} {s : Nat → Value} {w w' : World} {o : Oper} {tb tb' : List LE} {tv : List LM} {bl : List (Nat × Nat)} {fr : Option (Nat × Nat)} {evs' evs'' : List LC} {g : Nat → LV} {v : LV}
theorem opLV_ok {x : Operand} (h : opLV g x = some v) (hx : ∀ y, x = .tmp y → X.LR tv bl fr (g y) (s y)) : X.LR tv bl fr v (evs s x) := by
 unfold opLV at h
 split at h
 ·rename_i y
  injection h with h
  subst h
  exact hx y rfl
 ·injection h with h; subst h; rfl
 ·injection h with h; subst h; rfl
 ·cases h
theorem slot_lt (hn : ∀ i, n ≤ i → s i = undef) {x : Nat} (h : s x ≠ undef) : x < n := by
 rcases Nat.lt_or_ge x n with h' | h'
 ·exact h'
 ·exact absurd (hn x h') h
theorem ctv_nn (l : List Nat) : ¬ ((X.ctv l : Int) < 0) := by omega
theorem lop_ok (hO : X.Ok) (hA : Agree X.P c) (hI : X.Inv tb tv bl fr w) (h : lop c X.ag g tb evs' o.op = some (v, tb', evs'')) (hH : X.H evs') (hops : ∀ x, .tmp x ∈ o.op.operands.toList → X.LR tv bl fr (g x) (s x)) (hn : ∀ i, n ≤ i → s i = undef)
  (hdst : o.dst = some d) (hd : d < n) : O0 X.P n o s w (fun s' w' => ∃ x tv', s' = upd s d x ∧ tv <+: tv' ∧ X.LR tv' bl fr v x ∧ X.Inv tb' tv' bl fr w' ∧ X.H evs'') := by
 have val : ∀ {x : Value} {v' : LV}, (execOp (evs s) o).run X.P w = .ok (.value x) w → X.LR tv bl fr v' x → v' = v → tb' = tb → evs'' = evs' → O0 X.P n o s w (fun s' w' => ∃ x tv', s' = upd s d x ∧ tv <+: tv' ∧ X.LR tv' bl fr v x ∧ X.Inv tb' tv' bl fr w' ∧ X.H evs'') := fun he hx e1 e2 e3 => by
  subst e1; subst e2; subst e3
  exact O0.value hdst hd he ⟨_, tv, rfl, List.prefix_refl _, hx, hI, hH⟩
 unfold lop at h
 split at h
 · -- move
  rename_i x ho
  rw [ho] at hops
  split at h
  ·rename_i v1 hv
   split at h
   ·simp only [Option.some.injEq, Prod.mk.injEq] at h
    obtain ⟨rfl, rfl, rfl⟩ := h
    exact val (x := evs s x) (by simp [execOp, ho]) (opLV_ok hv (fun y hy => hops y (by subst hy; simp [Op.operands]))) rfl rfl rfl
   ·cases h
  ·cases h
 · -- assign
  rename_i x ho
  rw [ho] at hops
  split at h
  ·rename_i v1 hv
   split at h
   ·simp only [Option.some.injEq, Prod.mk.injEq] at h
    obtain ⟨rfl, rfl, rfl⟩ := h
    exact val (x := evs s x) (by simp [execOp, ho]) (opLV_ok hv (fun y hy => hops y (by subst hy; simp [Op.operands]))) rfl rfl rfl
   ·cases h
  ·cases h
 · -- load
  rename_i t x ho
  rw [ho] at hops
  split at h
  ·rename_i j i hx ht
   split at h
   ·rename_i hcc
    obtain ⟨hag, hj⟩ := hcc
    simp only [Option.some.injEq, Prod.mk.injEq] at h
    obtain ⟨rfl, rfl, rfl⟩ := h
    have hb := hops x (by simp [Op.operands])
    rw [hx] at hb
    obtain ⟨b, hs, hbl⟩ := hb
    obtain ⟨tm, cs, bt, b1, b2, b3, b4, b5⟩ := hI.boxes _ hbl
    have hjl : j < tb.length := by rw [← hI.len]; exact (List.getElem?_eq_some_iff.1 b1).1
    obtain ⟨vs, v1, v2, _⟩ := (hI.ent j _ tm (List.getElem?_eq_getElem hjl) b1).agx i.size hj
    have hcs : cs.size = i.size := by
     rw [b2] at v1
     injection v1 with v1
     rw [v1]
     exact v2
    obtain ⟨ti, ai⟩ := hA _ _ ht
    have hu : ∃ dd, X.P.underlying t = some dd ∧ ((∃ fs, dd = .struct fs) ∨ (∃ n e, dd = .array n e)) := by
     cases hdd : i.d with
     | struct fs => obtain ⟨f, h1, _⟩ := ai.struct fs hdd; exact ⟨_, h1, .inl ⟨_, rfl⟩⟩
     | array n e => exact ⟨_, ai.array n e hdd, .inr ⟨_, _, rfl⟩⟩
     | _ => rw [hdd] at hag; cases hag
    obtain ⟨dd, hdd, hk⟩ := hu
    have hl := run_loadCells (P := X.P) w ⟨b, 0, none⟩ i.size (fun k => cs.getD k undef) (fun k hk => by
     rw [add_none, Nat.zero_add, cell_of b3]
     have : k < cs.size := by omega
     simp [this])
    have hrun : (loadVar t ⟨b, 0, none⟩).run X.P w = .ok (.agg ((List.range i.size).map fun k => cs.getD k undef).toArray) w := by
     rcases hk with ⟨fs, rfl⟩ | ⟨n, e, rfl⟩ <;> simp [loadVar, isAgg, run_underlying hdd, sizeOf, typeInfo, ai.info, ai.size, hl]
    have ecs : ((List.range i.size).map fun k => cs.getD k undef).toArray = cs := by
     apply Array.ext_getElem?
     intro q
     rcases Nat.lt_or_ge q i.size with hq | hq
     ·have : q < cs.size := by omega
      simp [hq, this]
     ·rw [Array.getElem?_eq_none (by simp; omega), Array.getElem?_eq_none (by omega)]
    rw [ecs] at hrun
    exact val (x := .agg cs) (v' := .v j) (by simp [execOp, ho, evs, hs, Instr.loadAt, Instr.sureAddr, hrun]) ⟨tm, b1, b2.symm⟩ rfl rfl rfl
   ·cases h
  ·cases h
 · -- not
  rename_i t x ho
  rw [ho] at hops
  split at h
  ·rename_i b hx
   simp only [Option.some.injEq, Prod.mk.injEq] at h
   obtain ⟨rfl, rfl, rfl⟩ := h
   have hb := hops x (by simp [Op.operands])
   rw [hx] at hb
   have hb : s x = .bool b := hb
   exact val (x := .bool !b) (v' := .kb !b) (by simp [execOp, ho, evs, hb, Op.unary]) rfl rfl rfl rfl
  ·cases h
 · -- pick
  rename_i a x y ho
  rw [ho] at hops
  split at h
  ·rename_i b hb
   split at h
   ·rename_i v1 hv
    split at h
    ·simp only [Option.some.injEq, Prod.mk.injEq] at h
     obtain ⟨rfl, rfl, rfl⟩ := h
     have h1 : evs s a = .bool b := opLV_ok (X := X) (tv := tv) (bl := bl) (fr := fr) hb (fun y hy => hops y (by subst hy; simp [Op.operands]))
     have h2 := opLV_ok (X := X) (tv := tv) (bl := bl) (fr := fr) (s := s) hv (fun y' hy => hops y' (by cases b <;> simp at hy <;> subst hy <;> simp [Op.operands]))
     refine val (x := evs s (if b then x else y)) ?_ h2 rfl rfl rfl
     cases b <;> simp [execOp, ho, h1, asBool]
    ·cases h
   ·cases h
  ·cases h
 · -- a number against a constant
  rename_i op t x z t' ho
  rw [ho] at hops
  split at h
  ·rename_i v1 hv
   simp only [Option.some.injEq, Prod.mk.injEq] at h
   obtain ⟨rfl, rfl, rfl⟩ := h
   have hx := hops x (by simp [Op.operands])
   unfold lbin1 at hv
   split at hv
   ·rename_i hi64
    obtain ⟨ti, t1, t2⟩ := isI64_ok hi64
    have num : ∀ (m : Int) (r : V), s x = .int .i64 m → binV ti op (.int .i64 m) (.int .i64 z) = some r → ∃ y, (execOp (evs s) o).run X.P w = .ok (.value y) w ∧ ∃ Γ : Ctx, VR Γ w r y := fun m r hm hr =>
     scal_bin hA hI.glob hn ho t1 (slot_lt hn (by rw [hm]; intro e; cases e)) (by rw [hm]; exact .int _ _) (.inr ⟨_, rfl, rfl⟩) hr
    split at hv
    ·rename_i l hg
     rw [hg] at hx
     split at hv
     ·rename_i e0
      subst e0
      injection hv with hv
      subst hv
      obtain ⟨y, y1, Γ, y2⟩ := num _ (.bool false) hx (by
       simp only [binV, intOp, cmpInt, if_pos, if_true]
       rw [decide_eq_false (ctv_nn l)])
      rw [y2.bool_inv] at y1
      exact val (v' := .kb false) y1 rfl rfl rfl rfl
     ·cases hv
    ·rename_i i hg
     rw [hg] at hx
     split at hv
     ·rename_i e0
      subst e0
      injection hv with hv
      subst hv
      obtain ⟨y, y1, Γ, y2⟩ := num _ (.bool (decide (X.Z i < 0))) hx (by simp [binV, intOp, cmpInt])
      rw [y2.bool_inv] at y1
      exact val (v' := .lt0 i) y1 rfl rfl rfl rfl
     ·cases hv
    ·rename_i i hg
     rw [hg] at hx
     injection hv with hv
     subst hv
     obtain ⟨y, y1, Γ, y2⟩ := num _ (.bool (decide (X.Z i > z))) hx (by simp [binV, intOp, cmpInt])
     rw [y2.bool_inv] at y1
     exact val (v' := .gt i z) y1 rfl rfl rfl rfl
    ·cases hv
   ·cases hv
  ·cases h
 · -- two that are compared
  rename_i t x y t' ho
  rw [ho] at hops
  split at h
  ·cases h
  ·rename_i hxy
   split at h
   ·rename_i v1 es hv
    simp only [Option.some.injEq, Prod.mk.injEq] at h
    obtain ⟨rfl, rfl, rfl⟩ := h
    have hx := hops x (by simp [Op.operands])
    have hy := hops y (by simp [Op.operands])
    have two : ∀ (ti : TyInfo) (u : V), c.ty t = some ti → u ≠ .undef → (∀ r : Value, Rd w (fun _ => False) u r → r ≠ undef) → Rd w (fun _ => False) u (s x) → Rd w (fun _ => False) u (s y) → binV ti .neq u u = some (.bool false) → (execOp (evs s) o).run X.P w = .ok (.value (.bool false)) w := fun ti u t1 hu hne h1 h2 hb => by
     obtain ⟨z, z1, Γ, z2⟩ := scal_bin (u := u) hA hI.glob hn ho t1 (slot_lt hn (hne _ h1)) h1 (.inl ⟨y, rfl, slot_lt hn (hne _ h2), fun e => hxy e.symm, h2⟩) hb
     rw [z2.bool_inv] at z1
     exact z1
    have scal : ∀ {S : Nat → Prop} {u : V} {r : Value}, noSl u → Rd w S u r → Rd w (fun _ => False) u r := fun hu hr => by
     cases hr with
     | bool b => exact .bool b
     | int k n => exact .int k n
     | str s x h => exact .str s x h
     | nil => exact .nil
     | _ => exact hu.elim
    unfold lbin2 at hv
    split at hv
    ·rename_i l l' hg1 hg2
     rw [hg1] at hx
     rw [hg2] at hy
     split at hv
     ·rename_i hcc
      obtain ⟨rfl, hi64⟩ := hcc
      simp only [Option.some.injEq, Prod.mk.injEq] at hv
      obtain ⟨rfl, rfl⟩ := hv
      obtain ⟨ti, t1, t2⟩ := isI64_ok hi64
      have hx : s x = .int .i64 (X.ctv l : Int) := hx
      have hy : s y = .int .i64 (X.ctv l : Int) := hy
      exact val (v' := .kb false) (two ti (.int .i64 (X.ctv l : Int)) t1 (by simp) (fun r hr => by cases hr; intro e; cases e) (by rw [hx]; exact .int _ _) (by rw [hy]; exact .int _ _) (by simp [binV, intOp, cmpInt])) rfl rfl rfl rfl
     ·cases hv
    ·rename_i p q hg1 hg2
     rw [hg1] at hx
     rw [hg2] at hy
     split at hv
     ·rename_i p' q' k es'
      split at hv
      ·rename_i ti t1
       split at hv
       ·rename_i hcc
        obtain ⟨rfl, rfl, hkd, hr1, hr2⟩ := hcc
        simp only [Option.some.injEq, Prod.mk.injEq] at hv
        obtain ⟨rfl, rfl⟩ := hv
        obtain ⟨tp, u1, u2⟩ := hx
        obtain ⟨tq, u3, u4⟩ := hy
        obtain ⟨ep, ep1, ep2⟩ := readsAt_inv hr1
        obtain ⟨eq, eq1, eq2⟩ := readsAt_inv hr2
        have rp := hI.rd ep1 u1 ep2
        have rq := hI.rd eq1 u3 eq2
        rw [← u2] at rp
        rw [← u4] at rq
        obtain ⟨hs, hH'⟩ := hH
        have done : (execOp (evs s) o).run X.P w = .ok (.value (.bool false)) w → O0 X.P n o s w (fun s' w' => ∃ x tv', s' = upd s d x ∧ tv <+: tv' ∧ X.LR tv' bl fr (.kb false) x ∧ X.Inv tb tv' bl fr w' ∧ X.H es') := fun he =>
         O0.value hdst hd he ⟨_, tv, rfl, List.prefix_refl _, rfl, hI, hH'⟩
        rcases hs with ⟨rfl, b, b1, b2⟩ | ⟨rfl, b, b1, b2⟩ | ⟨rfl, b, b1, b2⟩
        ·rw [b1] at rp
         rw [b2] at rq
         have htd : ti.d = .bool := by
          unfold kindTy at hkd
          split at hkd
          ·rename_i e _; exact e
          ·rename_i _ e; cases e
          ·rename_i _ e; cases e
          ·cases hkd
         refine done (two ti (.bool b) t1 (by simp) (fun r hr => by cases hr; intro e; cases e) (scal trivial rp) (scal trivial rq) (by simp [binV, htd]))
        ·rw [b1] at rp
         rw [b2] at rq
         exact done (two ti (.int .i64 b) t1 (by simp) (fun r hr => by cases hr; intro e; cases e) (scal trivial rp) (scal trivial rq) (by simp [binV, intOp, cmpInt]))
        ·rw [b1] at rp
         rw [b2] at rq
         exact done (two ti (.str b) t1 (by simp) (fun r hr => by cases hr; intro e; cases e) (scal trivial rp) (scal trivial rq) (by simp [binV, strOp]))
       ·cases hv
      ·cases hv
     ·cases hv
    ·cases hv
   ·cases h
 · -- a call
  rename_i f args ts ho
  rw [ho] at hops
  split at h
  ·rename_i ev es
   split at h
   ·rename_i v1 tb1 hv
    simp only [Option.some.injEq, Prod.mk.injEq] at h
    obtain ⟨rfl, rfl, rfl⟩ := h
    obtain ⟨hk, hH', hcall⟩ := lcall_ok (vals := args.map (evs s)) hO hI hv hH (by simp) (fun i a y h1 h2 => by
     rw [List.getElem?_map, Array.getElem?_toList] at h1
     rw [Array.getElem?_map] at h2
     cases hi : args[i]? with
     | none => rw [hi] at h1; cases h1
     | some u =>
      rw [hi] at h1 h2
      injection h1 with h1
      injection h2 with h2
      subst h1; subst h2
      cases u with
      | tmp p => exact hops p (by simp only [Op.operands, Call.operands]; simp; exact Array.mem_of_getElem? hi)
      | _ => exact trivial)
    refine O0.call hdst hd (call_enter hk ho) (hcall.mono (fun e w' h => ?_))
    obtain ⟨y, tv', rfl, h1, h2, h3⟩ := h
    exact ⟨y, rfl, y, tv', rfl, h1, h2, h3, hH'⟩
   ·cases h
  ·cases h
 · -- len
  rename_i args ts ho
  rw [ho] at hops
  split at h
  ·rename_i x t j i b es hargs hts
   split at h
   ·rename_i j' ti hx hti
    split at h
    ·rename_i hcc
     obtain ⟨rfl, hrd⟩ := hcc
     obtain rfl := arr1 hargs
     obtain rfl := arr1 hts
     have hx' := hops x (by simp [Op.operands, Call.operands])
     rw [hx] at hx'
     obtain ⟨tm, t1, t2⟩ := hx'
     obtain ⟨e, e1, e2⟩ := readsAt_inv hrd
     have hr := hI.rd e1 t1 e2
     rw [← t2] at hr
     obtain ⟨aj, aj2⟩ := hA _ _ hti
     obtain ⟨hlen, hH'⟩ := hH
     have fin : ∀ {m : Nat}, (execOp (evs s) o).run X.P w = .ok (.value (.int .i64 (m : Int))) w → X.Z i = m → O0 X.P n o s w (fun s' w' => ∃ x tv', s' = upd s d x ∧ tv <+: tv' ∧ X.LR tv' bl fr (.zi i) x ∧ X.Inv tb tv' bl fr w' ∧ X.H es) := fun he hm =>
      O0.value hdst hd he ⟨_, tv, rfl, List.prefix_refl _, by show Value.int _ _ = _; rw [hm], hI, hH'⟩
     split at h
     ·rename_i el hel
      simp only [Option.some.injEq, Prod.mk.injEq] at h
      obtain ⟨rfl, rfl, rfl⟩ := h
      obtain ⟨u, f, xs, h1, h2⟩ := hlen
      rw [h1] at hr
      obtain ⟨a, cap, hy⟩ : ∃ a cap, s x = .slice a xs.length cap := by
       generalize s x = y at hr
       cases hr with
       | empty => exact ⟨_, _, rfl⟩
       | sl => exact ⟨_, _, rfl⟩
      exact fin (m := xs.length) (by simp [execOp, ho, evs, hy, resolve, invoke, builtin, Builtin.len_, run_underlying (aj2.slice _ hel), goInt]) h2
     ·rename_i hel
      simp only [Option.some.injEq, Prod.mk.injEq] at h
      obtain ⟨rfl, rfl, rfl⟩ := h
      obtain ⟨u, h1, h2⟩ := hlen
      rw [h1] at hr
      obtain ⟨y, hy, hy2⟩ := rd_str hr
      have e3 : u.length = y.size := by rw [← hy2]; rfl
      exact fin (m := u.length) (by rw [e3]; simp [execOp, ho, evs, hy, resolve, invoke, builtin, Builtin.len_, run_underlying (aj2.str hel), goInt]) h2
     ·cases h
    ·cases h
   ·cases h
  ·cases h
 · -- extract
  rename_i x ix ho
  rw [ho] at hops
  split at h
  ·rename_i js hx
   split at h
   ·rename_i j hj
    simp only [Option.some.injEq, Prod.mk.injEq] at h
    obtain ⟨rfl, rfl, rfl⟩ := h
    have hx' := hops x (by simp [Op.operands])
    rw [hx] at hx'
    obtain ⟨vs, h1, h2, h3⟩ := hx'
    obtain ⟨tm, t1, t2⟩ := h3 ix j hj
    exact val (x := tm.x) (v' := .v j) (by simp [execOp, ho, evs, h1, Instr.extract, t2]) ⟨tm, t1, rfl⟩ rfl rfl rfl
   ·cases h
  ·cases h
 ·cases h
end
end Go.Am
end
section
set_option linter.unusedVariables false
set_option linter.unusedSimpArgs false
namespace Go.Am
open Go Go.RowKit
structure LS where
  env : List (Nat × LV)
  tb : List LE
  evs : List LC
  fr : Bool
def LV.isFb : LV → Bool
 | .fb _ => true
 | _ => false
def lone (c : Cfg) (ag : List (Option Nat)) (n : Nat) (σ : LS) (o : Oper) : Option LS :=
 match o.dst with
 | none => match o.op with
  | .store t (.tmp x) (.tmp y) => match lget σ.env x, lget σ.env y, c.ty t with
   | .fb t', .v j, some i => if t' = t ∧ ag[j]? = some (some i.size) ∧ (σ.env.all fun p => !(lget σ.env p.1).isFb || p.1 == x) = true then some { σ with env := (x, .bx j) :: σ.env, fr := false } else none
   | _, _, _ => none
  | _ => none
 | some d => if d < n then (match o.op with
  | .alloc t => match c.ty t with
   | some _ => if σ.fr = false then some { σ with env := (d, .fb t) :: σ.env, fr := true } else none
   | none => none
  | .box _ (.tmp x) => match lget σ.env x with
   | .v j => match ag[j]? with
    | some (some _) => some { σ with env := (d, .bx j) :: σ.env }
    | _ => none
   | _ => none
  | op => match lop c ag (lget σ.env) σ.tb σ.evs op with
   | some (v, tb', evs') => some { σ with env := (d, v) :: σ.env, tb := tb', evs := evs' }
   | none => none) else none
def lguard (ops : Array Oper) (env : List (Nat × LV)) (o : Oper) : Option Bool :=
 match o.guard with
 | none => some true
 | some (j, b) => match ops[j]? with
  | some o' => match o'.dst with
   | some d => match lget env d with
    | .kb b' => some (b' == b)
    | _ => none
   | none => none
  | none => none
def lseq (c : Cfg) (ag : List (Option Nat)) (n : Nat) (ops : Array Oper) : List Oper → LS → Option LS
 | [], σ => some σ
 | o :: os, σ => match lguard ops σ.env o with
  | some true => match lone c ag n σ o with
   | some σ' => lseq c ag n ops os σ'
   | none => none
  | some false => match o.dst with
   | some d => if d < n then lseq c ag n ops os { σ with env := (d, .un) :: σ.env } else none
   | none => none
  | none => none
def LX.SI (X : LX) (n : Nat) (σ : LS) (s : Nat → Value) (w : World) : Prop :=
 ∃ tv bl fr, (∀ t, X.LR tv bl fr (lget σ.env t) (s t)) ∧ (∀ i, n ≤ i → s i = undef) ∧ X.Inv σ.tb tv bl fr w ∧ X.H σ.evs ∧ (σ.fr = false → fr = none)
section
variable {X : LX} {c : Cfg} {n d : Nat} {s : Nat → Value} {w w' : World} {o : Oper} {σ σ' : LS} {ops : Array Oper}
theorem lget_mem : ∀ {l : List (Nat × LV)} {t : Nat}, lget l t ≠ .un → (t, lget l t) ∈ l := by
 intro l t
 induction l with
 | nil => intro h; exact absurd rfl h
 | cons p l ih =>
  intro h
  rw [lget] at h ⊢
  split
  ·rename_i e; subst e; exact List.mem_cons_self
  ·rename_i e; rw [if_neg e] at h; exact List.mem_cons_of_mem _ (ih h)
theorem LR_put {tv : List LM} {bl : List (Nat × Nat)} {fr : Option (Nat × Nat)} {env : List (Nat × LV)} {v : LV} {x : Value} (h : ∀ t, X.LR tv bl fr (lget env t) (s t)) (hx : X.LR tv bl fr v x) : ∀ t, X.LR tv bl fr (lget ((d, v) :: env) t) (upd s d x t) := by
 intro t
 rw [lget]
 split
 ·rename_i e; subst e; rw [upd_same]; exact hx
 ·rename_i e; rw [upd_ne (fun e' => e e'.symm)]; exact h t
theorem alloc_ok {t : Nat} {tb : List LE} {tv : List LM} {bl : List (Nat × Nat)} {i : TyInfo} (hA : Agree X.P c) (hI : X.Inv tb tv bl none w) (ho : o.op = .alloc t) (hi : c.ty t = some i) (hdst : o.dst = some d) (hd : d < n) :
  O0 X.P n o s w (fun s' w' => s' = upd s d (.pointer (some ⟨w.heap.size, 0, none⟩)) ∧ X.Inv tb tv bl (some (w.heap.size, t)) w') := by
 obtain ⟨ti, ai⟩ := hA _ _ hi
 obtain ⟨z, hz, _, hz2, _, _⟩ := ai.zero
 refine O0.value (w' := w.alloc (.cells z.cells t)) hdst hd (by simp [execOp, ho, Instr.alloc, zeroValue, typeInfo, ai.info, hz, newVar, newRow]) ⟨rfl, hI.alloc ai.info ?_⟩
 have e : z.cells.size = z.cells.toList.length := Array.length_toList.symm
 rw [e, hz2, ai.zsz, ai.size]
theorem lone_ok (hO : X.Ok) (hA : Agree X.P c) (h : lone c X.ag n σ o = some σ') (hS : X.SI n σ s w) : O0 X.P n o s w (fun s' w' => X.SI n σ' s' w') := by
 obtain ⟨tv, bl, fr, hL, hn, hI, hH, hf⟩ := hS
 unfold lone at h
 split at h
 ·rename_i hdst
  split at h
  ·rename_i t x y ho
   split at h
   ·rename_i t' j i hx hy ht
    split at h
    ·rename_i hcc
     obtain ⟨rfl, hj, hall⟩ := hcc
     injection h with h
     subst h
     have hxx := hL x
     rw [hx] at hxx
     obtain ⟨b, hxb, rfl⟩ := hxx
     have hyy := hL y
     rw [hy] at hyy
     obtain ⟨tm, t1, t2⟩ := hyy
     have hjl : j < σ.tb.length := by rw [← hI.len]; exact (List.getElem?_eq_some_iff.1 t1).1
     obtain ⟨vs, v1, v2, v3⟩ := (hI.ent j _ tm (List.getElem?_eq_getElem hjl) t1).agx i.size hj
     obtain ⟨cur, bt, ti, b1, b2, b3, b4, b5, b6⟩ := hI.fresh b _ rfl
     obtain ⟨ti', ai⟩ := hA _ _ ht
     have eti : ti' = ti := by have := ai.info; rw [b2] at this; injection this with this; exact this.symm
     subst eti
     rw [v1] at t2
     have hr := run_storeVar_at X.P w b 0 bt _ ti' cur (.agg vs) b1 b2 (by show vs.size = _; rw [v2, ai.size]) (by show 0 + vs.size ≤ _; rw [b3, ai.size]; omega) (by show ∀ v ∈ vs.toList, _; exact v3)
     have ecs : (cur.toList.take 0 ++ (Value.agg vs).cells.toList ++ cur.toList.drop (0 + (Value.agg vs).cells.size)).toArray = vs := by
      rw [List.take_zero, List.nil_append, List.drop_eq_nil_of_le (by show cur.toList.length ≤ 0 + vs.size; rw [Array.length_toList]; have := ai.size; omega), List.append_nil]
      exact Array.toArray_toList
     rw [ecs] at hr
     have hm : Mod (fun k => k = b) w (w.setRow b vs) := ⟨rfl, rfl, rfl, by rw [setRow_size]; exact Nat.le_refl _, fun k _ hk => setRow_other w b k _ hk⟩
     refine O0.skip hdst (w' := w.setRow b vs) (by simp [execOp, ho, evs, hxb, t2, hr]) ⟨tv, (b, j) :: bl, none, fun t => ?_, hn, hI.store t1 v1 hm (setRow_heap w b cur _ bt _ b1), hH, fun _ => rfl⟩
     rw [lget]
     split
     ·rename_i e; subst e; exact ⟨b, hxb, List.mem_cons_self⟩
     ·rename_i e
      by_cases hu : lget σ.env t = .un
      ·rw [hu]; exact trivial
      ·have := List.all_eq_true.1 hall _ (lget_mem hu)
       have hnf : (lget σ.env t).isFb = false := by
        simp only [Bool.or_eq_true, Bool.not_eq_true', beq_iff_eq] at this
        exact this.resolve_right (fun e' => e e'.symm)
       have hl := hL t
       cases hlg : lget σ.env t with
       | fb ty => rw [hlg] at hnf; cases hnf
       | bx j' =>
        rw [hlg] at hl
        obtain ⟨b', q1, q2⟩ := hl
        exact ⟨b', q1, List.mem_cons_of_mem _ q2⟩
       | _ => rw [hlg] at hl; exact hl
    ·cases h
   ·cases h
  ·cases h
 ·rename_i d hdst
  split at h
  ·rename_i hd
   split at h
   ·rename_i t ho
    split at h
    ·rename_i i hi
     split at h
     ·rename_i hfr
      injection h with h
      subst h
      obtain rfl := hf hfr
      refine (alloc_ok (s := s) hA hI ho hi hdst hd).mono (fun s' w' h => ?_)
      obtain ⟨rfl, h2⟩ := h
      exact ⟨tv, bl, _, LR_put (fun t => (hL t).mono (List.prefix_refl _) (fun _ h => h) (fun _ _ e => by cases e)) ⟨_, rfl, rfl⟩, undef_upd hn hd _, h2, hH, fun e => by cases e⟩
     ·cases h
    ·cases h
   ·rename_i bt x ho
    split at h
    ·rename_i j hx
     split at h
     ·rename_i sz hj
      injection h with h
      subst h
      have hxx := hL x
      rw [hx] at hxx
      obtain ⟨tm, t1, t2⟩ := hxx
      have hjl : j < σ.tb.length := by rw [← hI.len]; exact (List.getElem?_eq_some_iff.1 t1).1
      obtain ⟨vs, v1, v2, v3⟩ := (hI.ent j _ tm (List.getElem?_eq_getElem hjl) t1).agx sz hj
      rw [v1] at t2
      refine O0.value (x := .pointer (some ⟨w.heap.size, 0, none⟩)) (w' := w.alloc (.cells vs bt)) hdst hd (by simp [execOp, ho, evs, t2, Instr.box, newVar, newRow, Value.cells]) ⟨tv, _, fr, LR_put (fun t => (hL t).mono (List.prefix_refl _) (fun p hp => List.mem_cons_of_mem _ hp) (fun _ _ e => e)) ⟨_, rfl, List.mem_cons_self⟩, undef_upd hn hd _, hI.box t1 v1, hH, hf⟩
     ·cases h
    ·cases h
   ·rename_i op hno1 hno2
    split at h
    ·rename_i v tb' evs' hop
     injection h with h
     subst h
     refine (lop_ok hO hA hI hop hH (fun x _ => hL x) hn hdst hd).mono (fun s' w' h => ?_)
     obtain ⟨x, tv', rfl, h1, h2, h3, h4⟩ := h
     exact ⟨tv', bl, fr, LR_put (fun t => (hL t).mono h1 (fun _ h => h) (fun _ _ e => e)) h2, undef_upd hn hd _, h3, h4, hf⟩
    ·cases h
  ·cases h
theorem R.guarded {P : Program} {l : List Oper} {K : (Nat → Value) → World → Prop} {b : Bool} {env : List (Nat × LV)} (hb : lguard ops env o = some b) (hs : ∀ t b, lget env t = .kb b → s t = .bool b)
  (h1 : b = true → O0 P n o s w (fun s' w' => R P n ops l s' w' K)) (h2 : b = false → ∃ d, o.dst = some d ∧ d < n ∧ R P n ops l (upd s d undef) w K) : R P n ops (o :: l) s w K := by
 intro Q hQ a ha
 refine wpList_step fun N hN => ?_
 have hw : Region.wanted o (yielded ops a.tmps) = b := by
  unfold lguard at hb
  unfold Region.wanted
  split at hb
  ·rename_i hg; injection hb with hb; rw [hg]; exact hb
  ·rename_i j b0 hg
   rw [hg]
   split at hb
   ·rename_i o' ho'
    split at hb
    ·rename_i d hd
     split at hb
     ·rename_i b' hl
      injection hb with hb
      have hsd := hs d b' hl
      have hlt : d < a.tmps.size := by
       rcases Nat.lt_or_ge d a.tmps.size with h | h
       ·exact h
       ·have := ha.at_ d
        rw [hsd, Array.getD_eq_getD_getElem?, Array.getElem?_eq_none h] at this
        cases this
      have hy : yielded ops a.tmps j = some b' := by
       have := ha.at_ d
       rw [Array.getD_eq_getD_getElem?, Array.getElem?_eq_getElem hlt] at this
       simp only [Option.getD_some] at this
       unfold yielded
       rw [ho']
       simp only [Option.bind_some, hd]
       rw [Array.getElem?_eq_getElem hlt, this, hsd]
      show (yielded ops a.tmps j == some b0) = b
      rw [← hb, hy]
      cases b' <;> cases b0 <;> rfl
     ·cases hb
    ·cases hb
   ·cases hb
 rw [hw]
 cases b with
 | true =>
  rw [if_pos rfl]
  exact h1 rfl a Q N (fun s' a' w' g1 g2 => hN _ _ (g2 Q hQ a' g1)) ha
 | false =>
  rw [if_neg (by decide)]
  obtain ⟨d, hd, hdn, hR⟩ := h2 rfl
  rw [hd]
  exact hN _ _ (hR Q hQ _ (ha.put hdn))
theorem lseq_ok (hO : X.Ok) (hA : Agree X.P c) {K : (Nat → Value) → World → Prop} : ∀ (l : List Oper) (σ : LS) (s : Nat → Value) (w : World), lseq c X.ag n ops l σ = some σ' → X.SI n σ s w → (∀ s' w', X.SI n σ' s' w' → K s' w') → R X.P n ops l s w K := by
 intro l
 induction l with
 | nil =>
  intro σ s w h hS hK
  injection h with h
  subst h
  exact R.nil (hK s w hS)
 | cons o l ih =>
  intro σ s w h hS hK
  rw [lseq] at h
  have hbool : ∀ t b, lget σ.env t = .kb b → s t = .bool b := fun t b ht => by
   obtain ⟨tv, bl, fr, hL, _⟩ := hS
   have := hL t
   rw [ht] at this
   exact this
  split at h
  ·rename_i hg
   split at h
   ·rename_i σ1 h1
    exact R.guarded hg hbool (fun _ => (lone_ok hO hA h1 hS).mono (fun s' w' h2 => ih σ1 s' w' h h2 hK)) (fun e => by cases e)
   ·cases h
  ·rename_i hg
   split at h
   ·rename_i d hd
    split at h
    ·rename_i hdn
     refine R.guarded hg hbool (fun e => by cases e) (fun _ => ⟨d, hd, hdn, ih _ _ _ h ?_ hK⟩)
     obtain ⟨tv, bl, fr, hL, hn, hI, hH, hf⟩ := hS
     exact ⟨tv, bl, fr, LR_put hL trivial, undef_upd hn hdn _, hI, hH, hf⟩
    ·cases h
   ·cases h
  ·cases h
end
end Go.Am
end

/-
  Functions of Go's library: what they answer, by their contracts. Written by program (ext.py).
-/
import Derived.Test.YtbpoaadkjjfmgaaGreatDoorWalkR
import Derived.Test.YtbpoaadkjjfmgaaGreatDoorAmCfg
import Derived.Test.YtbpoaadkjjfmgaaGreatDoorShelf
section
set_option linter.unusedVariables false
set_option linter.unusedSimpArgs false
namespace Go.Proofs
open Go Go.Am Go.Shelf Go.RowKit Go.Lib Go.Sort
theorem str_of {s : ByteArray} {l : List UInt8} (h : s.data.toList = l) : s = ⟨l.toArray⟩ := by
  apply ByteArray.ext
  apply Array.ext'
  rw [h]
theorem glob_below {w W : World} (h : RowKit.Below w.heap.size w W) (hg : globOk w) : globOk W := (Kept.below h).glob hg
theorem Tryz.splitAt (s : ByteArray) (c : UInt8) (w : World) (hg : globOk w) (hs : s.size < 4294967281) : ∃ q t, (q :: t).map (·.data.toList) = splitC c s.data.toList ∧ t.length ≤ s.size ∧
    ∀ W, RowKit.Below w.heap.size w W → Calls Tryz.prog 180 #[.string s, .string ⟨#[c]⟩] W fun e W' => e = .returned (.slice (some ⟨W.heap.size, 0, none⟩) (t.length + 1) (t.length + 1)) ∧ W' = W.alloc (.cells ((q :: t).map Value.string).toArray 9) := by
  have h0 := splitB_one c s
  have h1 := splitB_all ⟨#[c]⟩ (Nat.le_refl 1) 0 (countB s ⟨#[c]⟩) s rfl
  have h2 : ∀ W, RowKit.Below w.heap.size w W → Calls Tryz.prog 180 #[.string s, .string ⟨#[c]⟩] W fun e W' => e = .returned (.slice (some ⟨W.heap.size, 0, none⟩) (countB s ⟨#[c]⟩ + 1) (countB s ⟨#[c]⟩ + 1)) ∧ W' = W.alloc (.cells ((splitB ⟨#[c]⟩ 0 (countB s ⟨#[c]⟩) s).map Value.string).toArray 9) := fun W hW => by
    obtain ⟨m, hm⟩ := (glob_below hW hg).1
    exact Tryz.strings_Split s ⟨#[c]⟩ m W hs hm (Nat.le_refl 1)
  have h3 := splitC_len c s.data.toList
  generalize hps : splitB ⟨#[c]⟩ 0 (countB s ⟨#[c]⟩) s = ps at h0 h1 h2
  cases ps with
  | nil => simp at h1
  | cons q t =>
    refine ⟨q, t, h0, ?_, fun W hW => ?_⟩
    · rw [← h0] at h3
      simp only [List.length_map, List.length_cons] at h3
      have : s.data.toList.length = s.size := rfl
      omega
    · have h4 := h2 W hW
      have h5 : countB s ⟨#[c]⟩ + 1 = t.length + 1 := by rw [← h1]; rfl
      rw [h5] at h4
      exact h4
theorem vr_slice {Γ : Ctx} {w : World} {b s : Nat} {q : Q} {xs : List V} {x : Value} (h : VR Γ w (.own b s q xs) x) : ∃ p n c, x = .slice p n c := by
  cases h with
  | rd _ _ h => cases h
  | ownNil => exact ⟨_, _, _, rfl⟩
  | own => exact ⟨_, _, _, rfl⟩
theorem vr_bool {Γ : Ctx} {w : World} {b : Bool} {x : Value} (h : VR Γ w (.bool b) x) : x = .bool b := by
  cases h with
  | rd _ _ h => cases h; rfl
theorem vr_str {Γ : Ctx} {w : World} {s : List UInt8} {x : Value} (h : VR Γ w (.str s) x) : x = .string ⟨s.toArray⟩ := by
  cases h with
  | rd _ _ h => exact rd_pr_str h
theorem vr_pol {Γ : Ctx} {w : World} {b : Bool} {b0 s0 b1 s1 b2 s2 : Nat} {q0 q1 q2 : Q} {l0 l1 l2 : List V} {s : List UInt8} {x : Value} (h : VR Γ w (.agg [.bool b, .own b0 s0 q0 l0, .own b1 s1 q1 l1, .own b2 s2 q2 l2, .str s]) x) :
    ∃ (p0 p1 p2 : Option Addr) (n0 n1 n2 c0 c1 c2 : Nat), x = .agg #[.bool b, .slice p0 n0 c0, .slice p1 n1 c1, .slice p2 n2 c2, .string ⟨s.toArray⟩] := by
  have key : ∀ vs : Array Value, [V.bool b, .own b0 s0 q0 l0, .own b1 s1 q1 l1, .own b2 s2 q2 l2, .str s].length = vs.size → (∀ (i : Nat) (c : V) (v : Value), [V.bool b, .own b0 s0 q0 l0, .own b1 s1 q1 l1, .own b2 s2 q2 l2, .str s][i]? = some c → vs[i]? = some v → VR Γ w c v) →
      ∃ (p0 p1 p2 : Option Addr) (n0 n1 n2 c0 c1 c2 : Nat), vs = #[.bool b, .slice p0 n0 c0, .slice p1 n1 c1, .slice p2 n2 c2, .string ⟨s.toArray⟩] := fun vs hl hr => by
    obtain ⟨l⟩ := vs
    match l, hl with
    | [v0, v1, v2, v3, v4], _ =>
      have e0 := vr_bool (hr 0 _ v0 rfl rfl)
      obtain ⟨p0, n0, c0, e1⟩ := vr_slice (hr 1 _ v1 rfl rfl)
      obtain ⟨p1, n1, c1, e2⟩ := vr_slice (hr 2 _ v2 rfl rfl)
      obtain ⟨p2, n2, c2, e3⟩ := vr_slice (hr 3 _ v3 rfl rfl)
      have e4 := vr_str (hr 4 _ v4 rfl rfl)
      subst e0; subst e1; subst e2; subst e3; subst e4
      exact ⟨_, _, _, _, _, _, _, _, _, rfl⟩
  cases h with
  | rd _ _ h => cases h with
    | agg _ vs hl hr =>
      obtain ⟨p0, p1, p2, n0, n1, n2, c0, c1, c2, rfl⟩ := key vs hl (fun i c v h1 h2 => .rd _ _ (hr i c v h1 h2))
      exact ⟨_, _, _, _, _, _, _, _, _, rfl⟩
  | agg _ vs hl hr =>
    obtain ⟨p0, p1, p2, n0, n1, n2, c0, c1, c2, rfl⟩ := key vs hl hr
    exact ⟨_, _, _, _, _, _, _, _, _, rfl⟩
theorem Tryz.parse_ok {d1 : Nat → List V → Option V} (hans : Answers Tryz.prog d1) (s : ByteArray) (ok : Bool) (w : World) (hg : globOk w) (hs : s.size < 4294967281) (hp : polOk (d1 182) (d1 183) s.data.toList = some ok) :
    Calls Tryz.prog 155 #[.string s] w (LeftP w ok) := by
  unfold polOk at hp
  by_cases h0 : s.data.toList = []
  · rw [if_pos h0] at hp
    injection hp with hp
    subst hp
    obtain rfl := str_of h0
    exact Tryz.parse_nil w
  · rw [if_neg h0] at hp
    have hne : s.toList.isEmpty = false := by
      rw [Lib.toList_data]
      cases hh : s.data.toList with
      | nil => exact absurd hh h0
      | cons _ _ => rfl
    obtain ⟨b0, r0, e0, hl0, hS⟩ := Tryz.splitAt s 59 w hg hs
    rw [← e0] at hp
    have hmem : ∀ b ∈ b0 :: r0, b.size ≤ s.size := fun b hb => by
      have h1 : b.data.toList ∈ splitC 59 s.data.toList := by rw [← e0]; exact List.mem_map.2 ⟨b, hb, rfl⟩
      exact splitC_le 59 s.data.toList _ h1
    match r0, hl0, hS, hp, hmem with
    | [], _, hS, hp, _ =>
      injection hp with hp
      subst hp
      exact Tryz.parse_few s 1 _ w hne (by omega) hS
    | [b1], _, hS, hp, _ =>
      injection hp with hp
      subst hp
      exact Tryz.parse_few s 2 _ w hne (by omega) hS
    | b1 :: b2 :: rest, hl, hS, hp, hmem =>
      have hp' : (match d1 182 [polV b0.data.toList b1.data.toList b2.data.toList (rest.map (·.data.toList))], d1 183 [polV b0.data.toList b1.data.toList b2.data.toList (rest.map (·.data.toList))] with
        | some (.str f), some (.agg [.bool _, .own _ _ _ _, .own _ _ _ _, .own _ _ _ _, .str _]) => some (f == s.data.toList)
        | _, _ => none) = some ok := hp
      split at hp'
      · rename_i f bb i0 s0 q0 l0 i1 s1 q1 l1 i2 s2 q2 l2 sn hf hc
        injection hp' with hp'
        obtain ⟨x0, t0, g0, _, hS0⟩ := Tryz.splitAt b0 32 w hg (Nat.lt_of_le_of_lt (hmem b0 (by simp)) hs)
        obtain ⟨x1, t1, g1, _, hS1⟩ := Tryz.splitAt b1 32 w hg (Nat.lt_of_le_of_lt (hmem b1 (by simp)) hs)
        obtain ⟨x2, t2, g2, _, hS2⟩ := Tryz.splitAt b2 32 w hg (Nat.lt_of_le_of_lt (hmem b2 (by simp)) hs)
        have hT : ∀ b W, Calls Tryz.prog 181 #[.string b, .string ⟨#[110, 111, 110, 99, 101, 32]⟩] W fun e W' => e = .returned (.string ⟨(Lib.trimPrefix b.data.toList nonceW).toArray⟩) ∧ W' = W := fun b W => Tryz.strings_TrimPrefix b ⟨#[110, 111, 110, 99, 101, 32]⟩ W
        have hF : ∀ W x y z n, RowKit.Below w.heap.size w W → Rd W (fun k => k < W.heap.size) (.sl 1 true (rStr (t0.map (·.data.toList)))) x → Rd W (fun k => k < W.heap.size) (.sl 1 true (rStr (t1.map (·.data.toList)))) y → Rd W (fun k => k < W.heap.size) (.sl 1 true (rStr (t2.map (·.data.toList)))) z → n.data.toList = nonceOf (rest.map (·.data.toList)) →
          Calls Tryz.prog 182 #[.agg #[.bool true, x, y, z, .string n]] W fun e W' => e = .returned (.string ⟨f.toArray⟩) ∧ Kept W W' ∧ Calls Tryz.prog 183 #[.agg #[.bool true, x, y, z, .string n]] W' fun e W2 => ∃ (bb : Bool) (p0 p1 p2 : Option Addr) (n0 n1 n2 c0 c1 c2 : Nat) (ss : ByteArray), e = .returned (.agg #[.bool bb, .slice p0 n0 c0, .slice p1 n1 c1, .slice p2 n2 c2, .string ss]) ∧ Kept W' W2 := fun W x y z n hW hx hy hz hn => by
          have hGW := glob_below hW hg
          have hrd : Rd W (fun k => k < W.heap.size) (polV b0.data.toList b1.data.toList b2.data.toList (rest.map (·.data.toList))) (.agg #[.bool true, x, y, z, .string n]) := by
            unfold polV
            rw [← g0, ← g1, ← g2]
            exact rd_pol hn hx hy hz
          refine ((hans _ _ _ hf).2 (fun k => k < W.heap.size) W #[.agg #[.bool true, x, y, z, .string n]] hGW (fun _ h => h) rfl (fun i c v h1 h2 => ?_)).mono (fun e W' he => ?_)
          · match i, h1, h2 with
            | 0, h1, h2 => injection h1 with h1; injection h2 with h2; subst h1; subst h2; exact hrd
            | i + 1, h1, h2 => simp at h1
          · split at he
            · rename_i xv
              have hk := Kept.of_answer he
              obtain ⟨Γ, hv, _⟩ := he.val
              obtain rfl := vr_str hv
              refine ⟨rfl, hk, ?_⟩
              refine ((hans _ _ _ hc).2 (fun k => k < W.heap.size) W' #[.agg #[.bool true, x, y, z, .string n]] (hk.glob hGW) (fun _ h => Nat.lt_of_lt_of_le h hk.2.2.2.1) rfl (fun i c v h1 h2 => ?_)).mono (fun e W3 he => ?_)
              · match i, h1, h2 with
                | 0, h1, h2 => injection h1 with h1; injection h2 with h2; subst h1; subst h2; exact hk.rd (fun _ h => h) hrd
                | i + 1, h1, h2 => simp at h1
              · split at he
                · rename_i xv
                  have hk2 := Kept.of_answer he
                  obtain ⟨Γ2, hv2, _⟩ := he.val
                  obtain ⟨p0, p1, p2, n0, n1, n2, c0, c1, c2, rfl⟩ := vr_pol hv2
                  exact ⟨_, _, _, _, _, _, _, _, _, _, _, rfl, hk2⟩
                · exact he.elim
            · exact he.elim
        have hok : ok = ((⟨f.toArray⟩ : ByteArray).toList == s.toList) := by
          rw [Lib.toList_data, Lib.toList_data, ← hp']
        rw [hok]
        cases rest with
        | nil => exact Tryz.parse_three s b0 b1 b2 x0 x1 x2 t0 t1 t2 w hne ⟨f.toArray⟩ hS hS0 hS1 hS2 hT hF
        | cons b3 rest => exact Tryz.parse_four s b0 b1 b2 x0 x1 x2 b3 rest t0 t1 t2 w hne ⟨f.toArray⟩ hS hS0 hS1 hS2 hT hF (by simp only [List.length_cons] at hl; omega)
      · cases hp'
theorem rd_resp {w : World} {S : Nat → Prop} {st kd age : Int} {body pol : List UInt8} {sh : Bool} {x : Value} (h : Rd w S (.agg [.int .i64 st, .int .i64 kd, .str body, .int .i64 age, .bool sh, .str pol]) x) :
    x = .agg #[.int .i64 st, .int .i64 kd, .string ⟨body.toArray⟩, .int .i64 age, .bool sh, .string ⟨pol.toArray⟩] := by
  cases h with
  | agg _ vs hl hr =>
    obtain ⟨l⟩ := vs
    match l, hl with
    | [v0, v1, v2, v3, v4, v5], _ =>
      have e0 := rd_int (hr 0 _ v0 rfl rfl)
      have e1 := rd_int (hr 1 _ v1 rfl rfl)
      have e2 := rd_pr_str (hr 2 _ v2 rfl rfl)
      have e3 := rd_int (hr 3 _ v3 rfl rfl)
      have e4 : v4 = .bool sh := vr_bool (Γ := ⟨w, fun _ => False, S, fun _ => False, fun _ => 0, fun _ => 0, fun _ => 0, fun _ => 0, fun _ => 0, fun _ => False, fun _ => 0, fun _ => False⟩) (.rd _ _ (hr 4 _ v4 rfl rfl))
      have e5 := rd_pr_str (hr 5 _ v5 rfl rfl)
      subst e0; subst e1; subst e2; subst e3; subst e4; subst e5
      rfl
theorem Tryz.resp_ok {d1 : Nat → List V → Option V} (hans : Answers Tryz.prog d1) : ExtOk Tryz.prog 112 (respV (d1 182) (d1 183)) := by
  intro args r h
  refine ⟨⟨_, Tryz.func112, rfl, by kernel_rfl⟩, fun R w vals hg hR hl hv => ?_⟩
  unfold respV at h
  split at h
  · rename_i st kd body age sh pol
    split at h
    · rename_i hlen
      cases hpo : polOk (d1 182) (d1 183) pol with
      | none => rw [hpo] at h; cases h
      | some ok =>
        rw [hpo] at h
        simp only [Option.map_some, Option.some.injEq] at h
        subst h
        obtain ⟨x, rfl, e0⟩ := vals1 hl
        obtain rfl := rd_resp (hv 0 _ _ rfl e0)
        have hs : (⟨pol.toArray⟩ : ByteArray).size < 4294967281 := by
          show pol.toArray.size < _
          simpa using hlen
        refine (Tryz.resp_walk st kd age ⟨body.toArray⟩ ⟨pol.toArray⟩ sh ok (decide (100 ≤ st) && decide (st ≤ 599)) (decide (1 ≤ kd) && decide (kd ≤ 5)) (decide (0 ≤ age) && decide (age ≤ 1000)) w
          (fun W hW => (Tryz.parse_ok hans ⟨pol.toArray⟩ ok W (glob_below hW hg) hs (by simpa using hpo)))
          rfl rfl rfl).mono (fun e w' he => ?_)
        obtain ⟨rfl, hk⟩ := he
        exact answer_plain hk (.bool _)
    · cases h
  · cases h
end Go.Proofs
end
set_option linter.unusedVariables false
namespace Go.Am
open Go Go.Proofs
theorem extAns1 : Answers Go.Proofs.Tryz.prog ext1 := ext_cons (ext_split Tryz.func180 (by kernel_rfl) (by kernel_rfl) (fun s c w hg h => by obtain ⟨m, hm⟩ := hg.1; exact Tryz.strings_Split s ⟨#[c]⟩ m w h hm (Nat.le_refl 1))) (ext_cons (ext_trim Tryz.func181 (by kernel_rfl) (by kernel_rfl) Tryz.strings_TrimPrefix) (ext_cons (ext_join Tryz.func197 (by kernel_rfl) (by kernel_rfl) Tryz.strings_Join_none Tryz.strings_Join) (ext_nil)))
theorem ans1 : Answers Go.Proofs.Tryz.prog D1 := sound_den agree (fun den hD => drawOk agree (by kernel_rfl) hD) extAns1
theorem extAns : Answers Go.Proofs.Tryz.prog ext0 := ext_cons (Tryz.resp_ok ans1) (extAns1)
end Go.Am

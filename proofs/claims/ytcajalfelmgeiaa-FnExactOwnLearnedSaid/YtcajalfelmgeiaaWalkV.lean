/-
  Laws over a net and a host, with a flat result that they mark: their own code walked, call by call. Written by program (walklaw2.py).
-/
import Derived.Test.YtcajalfelmgeiaaMw
import Derived.Test.YtcajalfelmgeiaaWalkN
import Derived.Test.YtcajalfelmgeiaaAmExt4
import Derived.Deep.RegionHeld3
set_option linter.unusedVariables false
set_option linter.unusedSimpArgs false
namespace Go.Am
open Go Go.Proofs
theorem box4 {W : World} {b : Nat} {x0 x1 x2 x3 : Value} {ty : TypeId} (h : W.heap[b]? = some (.cells #[x0, x1, x2, x3] ty (0, 0))) : W.cell? ⟨b, 0, none⟩ = some x0 ∧ W.cell? ⟨b, 1, none⟩ = some x1 ∧ W.cell? ⟨b, 2, none⟩ = some x2 ∧ W.cell? ⟨b, 3, none⟩ = some x3 := by
  refine ⟨?_, ?_, ?_, ?_⟩ <;> simp [World.cell?, h]
theorem kept_drew (w : World) : Kept w w.drew := ⟨rfl, rfl, rfl, Nat.le_refl _, fun _ _ => rfl⟩
theorem mid_boxes {w w3 W : World} {cs : Array Value} {ty : TypeId} {b : Nat} {o : Obj} (h : Mid w w3 (w3.alloc (.cells cs ty)) W) (hb : b < w.heap.size) (ho : w.heap[b]? = some o) : W.heap[b]? = some o ∧ W.heap[w3.heap.size]? = some (.cells cs ty (0, 0)) :=
  ⟨(h.1 b hb).trans ho, (h.2 _ (Nat.le_refl _) (by rw [size_alloc]; omega)).trans (heap_alloc_eq w3 _)⟩
theorem kept_mod {w w1 W : World} (h : Kept w w1) (hm : Mod (fun k => w1.heap.size ≤ k) w1 W) : Kept w W :=
  ⟨hm.os.trans h.1, hm.tape.trans h.2.1, hm.output.trans h.2.2.1, Nat.le_trans h.2.2.2.1 hm.size, fun k hk => (hm.old k (Nat.lt_of_lt_of_le hk h.2.2.2.1) (by have := h.2.2.2.1; omega)).trans (h.2.2.2.2 k hk)⟩
theorem d_to (a : TNet) (h : a.size ≤ 1048576) : D 8 [.agg [.sl 2 false (rows kServer TServer.row a.xServers), .sl 10 true (rows kEntry TEntry.row a.xCache.xEntries), .sl 4 true (rows kSent TSent.row a.xLog), .int .i64 a.xNow]] = some (.agg [.own 0 2 .clean (rows kServer TServer.row a.xServers), .own 1 10 .flat (rows kEntry TEntry.row a.xCache.xEntries), .own 2 4 .flat (rows kSent TSent.row a.xLog), .int .i64 a.xNow]) :=
  fnok_some ok8 (show F8 V (rows kServer TServer.row a.xServers) (rows kEntry TEntry.row a.xCache.xEntries) (rows kSent TSent.row a.xLog) a.xNow (fun y1 y2 y3 y4 => some (.agg [.own 0 2 .clean y1, .own 1 10 .flat y2, .own 2 4 .flat y3, .int .i64 y4])) = _ from toNet a h _)
theorem d_sz (a : TNet) (h : a.ok) : D 6 [.agg [.sl 2 false (rows kServer TServer.row a.xServers), .sl 10 true (rows kEntry TEntry.row a.xCache.xEntries), .sl 4 true (rows kSent TSent.row a.xLog), .int .i64 a.xNow], .int .i64 1048576] = some (.int .i64 (szL 1048576 a.size)) :=
  fnok_some ok6 (show F6 V (rows kServer TServer.row a.xServers) (rows kEntry TEntry.row a.xCache.xEntries) (rows kSent TSent.row a.xLog) a.xNow 1048576 (fun y => some (.int .i64 y)) = _ from szNet a 1048576 (by decide) (by decide) h _)
theorem d_en (a : TNet) (h : a.ok) : D 11 [.agg [.sl 2 false (rows kServer TServer.row a.xServers), .sl 10 true (rows kEntry TEntry.row a.xCache.xEntries), .sl 4 true (rows kSent TSent.row a.xLog), .int .i64 a.xNow], .agg [.sl 2 false (rows kServer TServer.row a.xServers), .sl 10 true (rows kEntry TEntry.row a.xCache.xEntries), .sl 4 true (rows kSent TSent.row a.xLog), .int .i64 a.xNow]] = some (.bool true) :=
  fnok_some ok11 (show F11 V (rows kServer TServer.row a.xServers) (rows kEntry TEntry.row a.xCache.xEntries) (rows kSent TSent.row a.xLog) a.xNow (rows kServer TServer.row a.xServers) (rows kEntry TEntry.row a.xCache.xEntries) (rows kSent TSent.row a.xLog) a.xNow (fun y => some (.bool y)) = _ from (eqNet a a h _).trans (by rw [decide_eq_true rfl]))
theorem hmt (k : Nat) (z : Int) (w : World) (hz : z = (k : Int)) (hk : k < 4611686018427387904) (hg : globOk w) : Calls Try.prog 38 #[.int .i64 z] w fun e w' => ∃ s, e = .returned (.string s) ∧ s.data.toList = mt k ∧ Kept w w' := by
  subst hz
  have hd : D 38 [.int .i64 (k : Int)] = some (.str (mt k)) := fnok_some ok38 (show F38 V (k : Int) (fun y => some (.str y)) = _ from ei_lmarkText (k : Int) (fun y => some (V.str y)) _ (mt_eq k hk))
  refine ((answers _ _ _ hd).2 (fun _ => False) w #[.int .i64 (k : Int)] hg (fun _ h => h.elim) rfl (fun i c v h1 h2 => ?_)).mono (fun e w' h => ?_)
  · match i, h1, h2 with
    | 0, h1, h2 => injection h1 with h1; injection h2 with h2; subst h1; subst h2; exact .int _ _
    | i + 1, h1, _ => simp at h1
  · cases e with
    | returned x =>
      obtain ⟨Γ, hv, _⟩ := h.val
      cases hv with
      | rd _ _ hr => cases hr with | str _ s hs => exact ⟨s, rfl, hs, Kept.of_answer h⟩
    | _ => exact h.elim
theorem net_rows (a : TNet) (h : a.size ≤ 1048576) : (rows kServer TServer.row a.xServers).length ≤ 1048576 ∧ (rows kEntry TEntry.row a.xCache.xEntries).length ≤ 1048576 ∧ (rows kSent TSent.row a.xLog).length ≤ 1048576 ∧ ∀ x ∈ rows kServer TServer.row a.xServers, ∃ a f rs, x.cells = [a, .sl 7 f rs] ∧ rs.length ≤ 1048576 := by
  unfold TNet.size TCache.size at h
  refine ⟨by rw [rows_len]; omega, by rw [rows_len]; omega, by rw [rows_len]; omega, fun x hx => ?_⟩
  obtain ⟨s, hs, rfl⟩ := List.mem_map.1 hx
  refine ⟨.str s.xHost, true, rows kFile TFile.row s.xFiles, rfl, ?_⟩
  have := sumL_mem (f := TServer.size) hs
  have h7 : s.xFiles.length ≤ s.size := by unfold TServer.size; omega
  rw [rows_len]
  omega
theorem rd_net {w : World} {S : Nat → Prop} {c0 c1 c2 : V} {n : Int} {x : Value} (h : Rd w S (.agg [c0, c1, c2, .int .i64 n]) x) : ∃ sv ev lv, x = .agg #[sv, ev, lv, .int .i64 n] := by
  cases h with
  | agg cs vs hl hr =>
    have e4 : vs.size = 4 := by simpa using hl.symm
    have e3 : vs[3] = .int .i64 n := rd_int (hr 3 _ _ rfl (Array.getElem?_eq_getElem (show 3 < vs.size by omega)))
    refine ⟨vs[0], vs[1], vs[2], ?_⟩
    congr 1
    apply Array.ext
    · simpa using e4
    · intro i h1 h2
      simp at h2
      match i, h2 with
      | 0, _ => rfl
      | 1, _ => rfl
      | 2, _ => rfl
      | 3, _ => simpa using e3
      | i + 4, h => omega
end Go.Am
namespace Go.Proofs
open Go Go.Am Go.RowKit Go.Sort
set_option maxHeartbeats 2000000 in
set_option maxRecDepth 100000 in
theorem Try.law4_long (sv ev lv : Value) (now : Int) (s : ByteArray) (w : World) (hs : 1048576 < (s.size : Int)) :
    Calls Try.prog 4 #[.agg #[sv, ev, lv, .int .i64 now], .string s] w fun e w' => e = .returned (.bool true) ∧ Kept w w' := by
  go_enter Try.func4, Try.ntmps4
  go_wp2
  go_ret
  exact ⟨rfl, Kept.alloc w _⟩
set_option maxHeartbeats 2000000 in
set_option maxRecDepth 100000 in
theorem Try.law4_left (sv ev lv : Value) (now : Int) (s : ByteArray) (w : World) (hs : (s.size : Int) ≤ 1048576) (left : Int) (hl : left < 0)
  (hsz : ∀ W, Kept w W → Calls Try.prog 6 #[.agg #[sv, ev, lv, .int .i64 now], .int .i64 1048576] W fun e w' => e = .returned (.int .i64 left) ∧ Kept W w') :
    Calls Try.prog 4 #[.agg #[sv, ev, lv, .int .i64 now], .string s] w fun e w' => e = .returned (.bool true) ∧ Kept w w' := by
  go_enter Try.func4, Try.ntmps4
  go_wp2_with (go_at_call_of 6 (Value.bool true); skip)
  have hsz := hsz (w.alloc (.cells #[sv, ev, lv, .int .i64 now] 28)) (Kept.alloc w _)
  refine Calls.mono hsz ?_
  clear hsz
  rintro e w1 ⟨rfl, k1⟩
  go_wp2
  go_ret
  exact ⟨rfl, (Kept.alloc w _).trans k1⟩
set_option maxHeartbeats 4000000 in
set_option maxRecDepth 100000 in
theorem Try.law4_walk (sv ev lv : Value) (now : Int) (s : ByteArray) (w : World) (hs : (s.size : Int) ≤ 1048576) (left : Int) (hl : 0 ≤ left) (mm : Nat)
  (hsz : ∀ W, Kept w W → Calls Try.prog 6 #[.agg #[sv, ev, lv, .int .i64 now], .int .i64 1048576] W fun e w' => e = .returned (.int .i64 left) ∧ Kept W w')
  (hch : ∀ W, Kept w W → Chain Try.prog 8 15 16 17 11 12 18 19 now mm (.agg #[sv, ev, lv, .int .i64 now]) (.string s) W) :
    Calls Try.prog 4 #[.agg #[sv, ev, lv, .int .i64 now], .string s] w fun e w' => e = .returned (.bool true) ∧ Kept w w' := by
  have hmm : (0 : Int) ≤ (mm : Int) := Int.natCast_nonneg _
  go_enter Try.func4, Try.ntmps4
  go_wp2_with (go_at_call_of 6 (Value.bool true); skip)
  have hsz := hsz (w.alloc (.cells #[sv, ev, lv, .int .i64 now] 28)) (Kept.alloc w _)
  refine Calls.mono hsz ?_
  clear hsz
  rintro e w1 ⟨rfl, k1⟩
  have b1 := blk_kept k1 (heap_alloc_eq w _)
  have B1 : Aside (w1.heap[w.heap.size]? = some (.cells #[sv, ev, lv, .int .i64 now] 28 (0, 0))) := b1
  have hb1 : w.heap.size < w1.heap.size := (Array.getElem?_eq_some_iff.1 b1).1
  have HB1 : Aside (w.heap.size < w1.heap.size) := hb1
  obtain ⟨c0, c1, c2, c3⟩ := box4 b1
  have hch := hch w1 ((Kept.alloc w _).trans k1)
  have K1 : Aside (Kept (w.alloc (.cells #[sv, ev, lv, .int .i64 now] 28)) w1) := k1
  clear k1 b1 hb1
  unfold Chain at hch
  go_wp2_with (go_at_call_of 8 (Value.bool true); skip)
  refine Calls.mono hch ?_
  clear hch
  rintro e w2 ⟨x1, rfl, o2, hch⟩
  clear o2
  go_wp2_with (go_at_call_of 15 (Value.bool true); skip)
  refine Calls.mono (hch _ (Kept.refl _)) ?_
  clear hch
  rintro e w3 ⟨v0, rfl, o3, hch⟩
  have b3 := (o3 _ HB1.out).trans B1.out
  clear c0 c1 c2 c3
  obtain ⟨c0, c1, c2, c3⟩ := box4 b3
  clear b3 o3
  go_wp2_with (go_at_call_of 8 (Value.bool true); skip)
  refine Calls.mono (hch _ (Kept.refl _)) ?_
  clear hch
  rintro e w4 ⟨_, _, _, rfl, ⟨sa, sn, sc, rfl⟩, ⟨ea, en, ec, rfl⟩, ⟨la, ln, lc, rfl⟩, o4, hch⟩
  have b4 := (o4 _ HB1.out).trans B1.out
  clear c0 c1 c2 c3
  obtain ⟨c0, c1, c2, c3⟩ := box4 b4
  clear b4 o4
  go_wp2_with (go_at_call_of 16 (Value.bool true); skip)
  refine Calls.mono (hch _ (Kept.alloc w4 _)) ?_
  clear hch
  rintro e w5 ⟨g0, rfl, m, hch⟩
  clear c0 c1 c2 c3
  obtain ⟨b, d⟩ := mid_boxes m HB1.out B1.out
  obtain ⟨c0, c1, c2, c3⟩ := box4 b
  obtain ⟨d0, d1, d2, d3⟩ := box4 d
  clear b d m
  go_wp2_with (go_at_call_of 17 (Value.bool true); skip)
  refine Calls.mono (hch _ (Kept.refl _)) ?_
  clear hch c0 c1 c2 c3 d0 d1 d2 d3
  rintro e w6 ⟨rfl, m, hch⟩
  obtain ⟨b, d⟩ := mid_boxes m HB1.out B1.out
  obtain ⟨c0, c1, c2, c3⟩ := box4 b
  obtain ⟨d0, d1, d2, d3⟩ := box4 d
  clear b d m
  go_wp2
  go_region_held3 (fun w' => w'.cell? ⟨w.heap.size, 0, none⟩ = some sv ∧ w'.cell? ⟨w.heap.size, 1, none⟩ = some ev ∧ w'.cell? ⟨w.heap.size, 2, none⟩ = some lv ∧ w'.cell? ⟨w.heap.size, 3, none⟩ = some (.int .i64 now) ∧ w'.cell? ⟨w4.heap.size, 0, none⟩ = some (.slice sa sn sc) ∧ w'.cell? ⟨w4.heap.size, 1, none⟩ = some (.slice ea en ec) ∧ w'.cell? ⟨w4.heap.size, 2, none⟩ = some (.slice la ln lc) ∧ w'.cell? ⟨w4.heap.size, 3, none⟩ = some (.int .i64 now)) (go_keep)
    (first
      | (go_at_call 8; refine Calls.mono (hch _ (kept_drew _)) ?_; clear hch; rintro e w7 ⟨t, rfl, m7, hch⟩; have M7 := mid_boxes m7 HB1.out B1.out; have x7 := box4 M7.1; have y7 := box4 M7.2; clear M7 m7)
      | (go_at_call 11; refine Calls.mono (hch _ (Kept.refl _)) ?_; clear hch; rintro e w8 ⟨rfl, m8, hch⟩; have M8 := mid_boxes m8 HB1.out B1.out; have x8 := box4 M8.1; have y8 := box4 M8.2; clear M8 m8))
  clear c0 c1 c2 c3 d0 d1 d2 d3
  obtain ⟨c0, c1, c2, c3⟩ := x8
  obtain ⟨d0, d1, d2, d3⟩ := y8
  clear x7 y7
  go_wp2_with (go_at_call_of 12 (Value.bool true); skip)
  refine Calls.mono (hch _ (Kept.refl _)) ?_
  clear hch c0 c1 c2 c3 d0 d1 d2 d3
  rintro e w9 ⟨z, rfl, z1, z2, m, hch⟩
  have z0 : 0 ≤ z := by omega
  clear z1 z2
  obtain ⟨b, d⟩ := mid_boxes m HB1.out B1.out
  obtain ⟨c0, c1, c2, c3⟩ := box4 b
  obtain ⟨d0, d1, d2, d3⟩ := box4 d
  clear b d m
  go_wp2_with (go_at_call_of 17 (Value.bool true); skip)
  refine Calls.mono (hch _ (Kept.refl _)) ?_
  clear hch c0 c1 c2 c3 d0 d1 d2 d3
  rintro e w10 ⟨rfl, m, hch⟩
  obtain ⟨b, d⟩ := mid_boxes m HB1.out B1.out
  obtain ⟨c0, c1, c2, c3⟩ := box4 b
  obtain ⟨d0, d1, d2, d3⟩ := box4 d
  clear b d m
  go_wp2_with (go_at_call_of 18 (Value.bool true); skip)
  refine Calls.mono (hch _ (Kept.refl _)) ?_
  clear hch c0 c1 c2 c3 d0 d1 d2 d3
  rintro e w11 ⟨rfl, m, hch⟩
  obtain ⟨b, d⟩ := mid_boxes m HB1.out B1.out
  obtain ⟨c0, c1, c2, c3⟩ := box4 b
  obtain ⟨d0, d1, d2, d3⟩ := box4 d
  clear b d m
  go_wp2_with (go_at_call_of 19 (Value.bool true); skip)
  refine Calls.mono (hch _ (Kept.refl _)) ?_
  clear hch c0 c1 c2 c3 d0 d1 d2 d3
  rintro e w12 ⟨rfl, m, hch⟩
  obtain ⟨b, d⟩ := mid_boxes m HB1.out B1.out
  obtain ⟨c0, c1, c2, c3⟩ := box4 b
  obtain ⟨d0, d1, d2, d3⟩ := box4 d
  clear b d m
  go_wp2_with (go_at_call_of 8 (Value.bool true); skip)
  refine Calls.mono (hch _ (Kept.refl _)) ?_
  clear hch c0 c1 c2 c3 d0 d1 d2 d3
  rintro e w13 ⟨t2, rfl, m, hch⟩
  obtain ⟨b, d⟩ := mid_boxes m HB1.out B1.out
  obtain ⟨c0, c1, c2, c3⟩ := box4 b
  obtain ⟨d0, d1, d2, d3⟩ := box4 d
  clear b d m
  go_wp2_with (go_at_call_of 16 (Value.bool true); skip)
  refine Calls.mono (hch _ (Kept.refl _)) ?_
  clear hch c0 c1 c2 c3 d0 d1 d2 d3
  rintro e w14 ⟨h0, rfl, m, hch⟩
  obtain ⟨b, d⟩ := mid_boxes m HB1.out B1.out
  obtain ⟨c0, c1, c2, c3⟩ := box4 b
  obtain ⟨d0, d1, d2, d3⟩ := box4 d
  clear b d m
  go_wp2_with (go_at_call_of 17 (Value.bool true); skip)
  refine Calls.mono (hch _ (Kept.refl _)) ?_
  clear hch c0 c1 c2 c3 d0 d1 d2 d3
  rintro e w15 ⟨rfl, m, hch⟩
  obtain ⟨b, d⟩ := mid_boxes m HB1.out B1.out
  obtain ⟨c0, c1, c2, c3⟩ := box4 b
  obtain ⟨d0, d1, d2, d3⟩ := box4 d
  clear b d m
  go_wp2_with (go_at_call_of 19 (Value.bool true); skip)
  refine Calls.mono (hch _ (Kept.refl _)) ?_
  clear hch c0 c1 c2 c3 d0 d1 d2 d3
  rintro e w16 ⟨rfl, m, hm⟩
  clear m
  go_wp2
  go_ret
  exact ⟨rfl, kept_mod ((Kept.alloc w _).trans K1.out) hm⟩
end Go.Proofs
namespace Go.Am
open Go Go.Proofs
theorem d_eq4 (l : List TAddr) (h : okL TAddr.ok l) : D 17 [.sl 2 true (rows kAddr TAddr.row l), .sl 2 true (rows kAddr TAddr.row l)] = some (.bool true) :=
  fnok_some ok17 (show F17 V (rows kAddr TAddr.row l) (rows kAddr TAddr.row l) (fun y => some (.bool y)) = _ from (eqAddrS l l h _).trans (by rw [decide_eq_true rfl]))
theorem mrows4 (n : Nat) : mrows mrA 2 n = (rows kAddr TAddr.row (mAddrs n)) := by
  unfold mrows mAddrs
  simp only [rows, List.map_map]
  rfl
theorem d_he4 (n : Nat) (hn : n ≤ 1048576) : D 19 [.sl 2 true (mrows mrA 2 n), .int .i64 1] = some (.int .i64 ((1 + n * 2 : Nat) : Int)) := by
  rw [mrows4]
  exact fnok_some ok19 (show F19 V (rows kAddr TAddr.row (mAddrs n)) 1 (fun y => some (.int .i64 y)) = _ from ei_lheldAddrS (mAddrs n) 1 (fun y => some (V.int .i64 y)) _ (held_mAddrs n hn))
theorem d_sp4 {a : TNet} {h : List UInt8} {l : List TAddr} (e : sCrossLearned a h = some l) : D 15 [.agg [.sl 2 false (rows kServer TServer.row a.xServers), .sl 10 true (rows kEntry TEntry.row a.xCache.xEntries), .sl 4 true (rows kSent TSent.row a.xLog), .int .i64 a.xNow], .str h] = some (.own 0 2 .flat (rows kAddr TAddr.row l)) :=
  fnok_some ok15 (show F15 V (rows kServer TServer.row a.xServers) (rows kEntry TEntry.row a.xCache.xEntries) (rows kSent TSent.row a.xLog) a.xNow h (fun y => some (.own 0 2 .flat y)) = _ from ei_sCrossLearned a h (fun y => some (V.own 0 2 .flat y)) _ e)
theorem d_im4 {a : TNet} {h : List UInt8} {l : List TAddr} (e : iCrossLearned a h = some l) : D 16 [.agg [.sl 2 false (rows kServer TServer.row a.xServers), .sl 10 true (rows kEntry TEntry.row a.xCache.xEntries), .sl 4 true (rows kSent TSent.row a.xLog), .int .i64 a.xNow], .str h] = some (.own 0 2 .flat (rows kAddr TAddr.row l)) :=
  fnok_some ok16 (show F16 V (rows kServer TServer.row a.xServers) (rows kEntry TEntry.row a.xCache.xEntries) (rows kSent TSent.row a.xLog) a.xNow h (fun y => some (.own 0 2 .flat y)) = _ from ei_iCrossLearned a h (fun y => some (V.own 0 2 .flat y)) _ e)
/-- What the law answers: true, and nothing that was there is changed. -/
def Told4 (args : List V) : Prop := ∀ (R : Nat → Prop) (w : World) (vals : Array Value), globOk w → (∀ k, R k → k < w.heap.size) → args.length = vals.size → (∀ (i : Nat) (c : V) (v : Value), args[i]? = some c → vals[i]? = some v → Rd w R c v) →
    Calls Try.prog 4 vals w fun
      | .returned x, w' => Answer R w (.bool true) x w'
      | _, _ => False
open Classical in
noncomputable def D4 : Nat → List V → Option V := fun f args => if f = 4 ∧ Told4 args then some (.bool true) else D f args
theorem answers4 : Answers Try.prog D4 := by
  intro f args r h
  unfold D4 at h
  split at h
  · rename_i hc
    obtain ⟨rfl, ht⟩ := hc
    injection h with h
    subst h
    exact ⟨⟨Try.f4, Try.func4, rfl, by decide⟩, ht⟩
  · exact answers f args r h
theorem law4 (a : TNet) (h : List UInt8) (o0 : a.ok) (o1 : okS h) : D4 4 [.agg [.sl 2 false (rows kServer TServer.row a.xServers), .sl 10 true (rows kEntry TEntry.row a.xCache.xEntries), .sl 4 true (rows kSent TSent.row a.xLog), .int .i64 a.xNow], .str h] = some (.bool true) := by
  refine if_pos ⟨rfl, ?_⟩
  intro R w vals hg hR hl hv
  obtain ⟨N, H, rfl, e0, e1⟩ := vals2 hl
  have hN := hv 0 _ _ rfl e0
  have hH := hv 1 _ _ rfl e1
  obtain ⟨s, rfl, hs⟩ := rd_str hH
  obtain ⟨sv, ev, lv, rfl⟩ := rd_net hN
  have fin : ∀ {e : Ending} {w' : World}, e = .returned (.bool true) ∧ Kept w w' → (match e, w' with
      | .returned x, w' => Answer R w (.bool true) x w'
      | _, _ => False) := fun hk => by
    obtain ⟨rfl, hk⟩ := hk
    exact answer_plain hk (.bool true)
  have hss : s.size = h.length := by rw [← hs]; rfl
  have hNR : ∀ W, Kept w W → Rd W R (.agg [.sl 2 false (rows kServer TServer.row a.xServers), .sl 10 true (rows kEntry TEntry.row a.xCache.xEntries), .sl 4 true (rows kSent TSent.row a.xLog), .int .i64 a.xNow]) (.agg #[sv, ev, lv, .int .i64 a.xNow]) := fun W hk => hN.mono (fun _ h => h) (fun k hk' o => by simp only [World.cell?, hk.2.2.2.2 k (hR k hk')])
  by_cases c1 : 1048576 < (s.size : Int)
  · exact (Try.law4_long sv ev lv a.xNow s w c1).mono (fun e w' h => fin h)
  · have hsz : ∀ W, Kept w W → Calls Try.prog 6 #[.agg #[sv, ev, lv, .int .i64 a.xNow], .int .i64 1048576] W fun e w' => e = .returned (.int .i64 (szL 1048576 a.size)) ∧ Kept W w' := fun W hk => by
      refine ((answers _ _ _ (d_sz a o0)).2 R W _ (hk.glob hg) (fun k h => Nat.lt_of_lt_of_le (hR k h) hk.2.2.2.1) rfl (fun i c v h1 h2 => ?_)).mono (fun e w' h => ?_)
      · match i, h1, h2 with
        | 0, h1, h2 => injection h1 with h1; injection h2 with h2; subst h1; subst h2; exact hNR W hk
        | 1, h1, h2 => injection h1 with h1; injection h2 with h2; subst h1; subst h2; exact .int _ _
        | i + 2, h1, _ => simp at h1
      · cases e with
        | returned x => rw [answer_int h]; exact ⟨rfl, Kept.of_answer h⟩
        | _ => exact h.elim
    by_cases c2 : a.size ≤ 1048576
    · have e2 : szL 1048576 a.size = 1048576 - (a.size : Int) := if_neg (by omega)
      have hlog : a.xLog.length ≤ 1048576 := by unfold TNet.size at c2; omega
      obtain ⟨l, hl1, hl2, hl3, hl4⟩ := eq_Cross a h o0 hlog
      obtain ⟨n1, n2, n3, n4⟩ := net_rows a c2
      have n5 : (rows kAddr TAddr.row l).length = l.length := rows_len _
      refine (Try.law4_walk sv ev lv a.xNow s w (by omega) _ (by omega) (1 + (rows kAddr TAddr.row l).length * 2) hsz (fun W hk => ?_)).mono (fun e w' h => fin h)
      refine mark2_chain (mr := mrA) (mt := mt) answers (by decide) (fun k => rfl) (by rw [n5]; exact hl3) n1 n2 n3 n4 (d_to a c2) (d_sp4 hl1) (d_im4 hl2) (d_eq4 l ⟨by unfold maxLen; omega, hl4⟩) (d_en a o0) (d_he4 _ (by rw [n5]; exact hl3)) (fun bk o cap nn cur0 ty W hgW hbk hb hs hn => Try.markAddr mt hmt bk o cap nn 1 cur0 ty W hgW hbk hb hs hn (by decide)) (fun a cap W => Try.markAddr0 a cap 1 W)
        (fun X sv ev lv W hX1 hX2 hgW h1 h2 h3 => Try.markNet_new mt hmt X hX1 sv ev lv a.xNow W hX2 hgW h1 h2 h3) (hk.glob hg) (fun k h => Nat.lt_of_lt_of_le (hR k h) hk.2.2.2.1) (hNR W hk) (.str _ _ hs)
    · exact (Try.law4_left sv ev lv a.xNow s w (by omega) _ (by unfold szL; rw [if_pos (by omega)]; decide) hsz).mono (fun e w' h => fin h)
end Go.Am
namespace Go.Proofs
open Go Go.Am Go.RowKit Go.Sort
set_option maxHeartbeats 2000000 in
set_option maxRecDepth 100000 in
theorem Try.law5_long (sv ev lv : Value) (now : Int) (s : ByteArray) (w : World) (hs : 1048576 < (s.size : Int)) :
    Calls Try.prog 5 #[.agg #[sv, ev, lv, .int .i64 now], .string s] w fun e w' => e = .returned (.bool true) ∧ Kept w w' := by
  go_enter Try.func5, Try.ntmps5
  go_wp2
  go_ret
  exact ⟨rfl, Kept.alloc w _⟩
set_option maxHeartbeats 2000000 in
set_option maxRecDepth 100000 in
theorem Try.law5_left (sv ev lv : Value) (now : Int) (s : ByteArray) (w : World) (hs : (s.size : Int) ≤ 1048576) (left : Int) (hl : left < 0)
  (hsz : ∀ W, Kept w W → Calls Try.prog 6 #[.agg #[sv, ev, lv, .int .i64 now], .int .i64 1048576] W fun e w' => e = .returned (.int .i64 left) ∧ Kept W w') :
    Calls Try.prog 5 #[.agg #[sv, ev, lv, .int .i64 now], .string s] w fun e w' => e = .returned (.bool true) ∧ Kept w w' := by
  go_enter Try.func5, Try.ntmps5
  go_wp2_with (go_at_call_of 6 (Value.bool true); skip)
  have hsz := hsz (w.alloc (.cells #[sv, ev, lv, .int .i64 now] 28)) (Kept.alloc w _)
  refine Calls.mono hsz ?_
  clear hsz
  rintro e w1 ⟨rfl, k1⟩
  go_wp2
  go_ret
  exact ⟨rfl, (Kept.alloc w _).trans k1⟩
set_option maxHeartbeats 4000000 in
set_option maxRecDepth 100000 in
theorem Try.law5_walk (sv ev lv : Value) (now : Int) (s : ByteArray) (w : World) (hs : (s.size : Int) ≤ 1048576) (left : Int) (hl : 0 ≤ left) (mm : Nat)
  (hsz : ∀ W, Kept w W → Calls Try.prog 6 #[.agg #[sv, ev, lv, .int .i64 now], .int .i64 1048576] W fun e w' => e = .returned (.int .i64 left) ∧ Kept W w')
  (hch : ∀ W, Kept w W → Chain Try.prog 8 20 21 17 11 12 18 19 now mm (.agg #[sv, ev, lv, .int .i64 now]) (.string s) W) :
    Calls Try.prog 5 #[.agg #[sv, ev, lv, .int .i64 now], .string s] w fun e w' => e = .returned (.bool true) ∧ Kept w w' := by
  have hmm : (0 : Int) ≤ (mm : Int) := Int.natCast_nonneg _
  go_enter Try.func5, Try.ntmps5
  go_wp2_with (go_at_call_of 6 (Value.bool true); skip)
  have hsz := hsz (w.alloc (.cells #[sv, ev, lv, .int .i64 now] 28)) (Kept.alloc w _)
  refine Calls.mono hsz ?_
  clear hsz
  rintro e w1 ⟨rfl, k1⟩
  have b1 := blk_kept k1 (heap_alloc_eq w _)
  have B1 : Aside (w1.heap[w.heap.size]? = some (.cells #[sv, ev, lv, .int .i64 now] 28 (0, 0))) := b1
  have hb1 : w.heap.size < w1.heap.size := (Array.getElem?_eq_some_iff.1 b1).1
  have HB1 : Aside (w.heap.size < w1.heap.size) := hb1
  obtain ⟨c0, c1, c2, c3⟩ := box4 b1
  have hch := hch w1 ((Kept.alloc w _).trans k1)
  have K1 : Aside (Kept (w.alloc (.cells #[sv, ev, lv, .int .i64 now] 28)) w1) := k1
  clear k1 b1 hb1
  unfold Chain at hch
  go_wp2_with (go_at_call_of 8 (Value.bool true); skip)
  refine Calls.mono hch ?_
  clear hch
  rintro e w2 ⟨x1, rfl, o2, hch⟩
  clear o2
  go_wp2_with (go_at_call_of 20 (Value.bool true); skip)
  refine Calls.mono (hch _ (Kept.refl _)) ?_
  clear hch
  rintro e w3 ⟨v0, rfl, o3, hch⟩
  have b3 := (o3 _ HB1.out).trans B1.out
  clear c0 c1 c2 c3
  obtain ⟨c0, c1, c2, c3⟩ := box4 b3
  clear b3 o3
  go_wp2_with (go_at_call_of 8 (Value.bool true); skip)
  refine Calls.mono (hch _ (Kept.refl _)) ?_
  clear hch
  rintro e w4 ⟨_, _, _, rfl, ⟨sa, sn, sc, rfl⟩, ⟨ea, en, ec, rfl⟩, ⟨la, ln, lc, rfl⟩, o4, hch⟩
  have b4 := (o4 _ HB1.out).trans B1.out
  clear c0 c1 c2 c3
  obtain ⟨c0, c1, c2, c3⟩ := box4 b4
  clear b4 o4
  go_wp2_with (go_at_call_of 21 (Value.bool true); skip)
  refine Calls.mono (hch _ (Kept.alloc w4 _)) ?_
  clear hch
  rintro e w5 ⟨g0, rfl, m, hch⟩
  clear c0 c1 c2 c3
  obtain ⟨b, d⟩ := mid_boxes m HB1.out B1.out
  obtain ⟨c0, c1, c2, c3⟩ := box4 b
  obtain ⟨d0, d1, d2, d3⟩ := box4 d
  clear b d m
  go_wp2_with (go_at_call_of 17 (Value.bool true); skip)
  refine Calls.mono (hch _ (Kept.refl _)) ?_
  clear hch c0 c1 c2 c3 d0 d1 d2 d3
  rintro e w6 ⟨rfl, m, hch⟩
  obtain ⟨b, d⟩ := mid_boxes m HB1.out B1.out
  obtain ⟨c0, c1, c2, c3⟩ := box4 b
  obtain ⟨d0, d1, d2, d3⟩ := box4 d
  clear b d m
  go_wp2
  go_region_held3 (fun w' => w'.cell? ⟨w.heap.size, 0, none⟩ = some sv ∧ w'.cell? ⟨w.heap.size, 1, none⟩ = some ev ∧ w'.cell? ⟨w.heap.size, 2, none⟩ = some lv ∧ w'.cell? ⟨w.heap.size, 3, none⟩ = some (.int .i64 now) ∧ w'.cell? ⟨w4.heap.size, 0, none⟩ = some (.slice sa sn sc) ∧ w'.cell? ⟨w4.heap.size, 1, none⟩ = some (.slice ea en ec) ∧ w'.cell? ⟨w4.heap.size, 2, none⟩ = some (.slice la ln lc) ∧ w'.cell? ⟨w4.heap.size, 3, none⟩ = some (.int .i64 now)) (go_keep)
    (first
      | (go_at_call 8; refine Calls.mono (hch _ (kept_drew _)) ?_; clear hch; rintro e w7 ⟨t, rfl, m7, hch⟩; have M7 := mid_boxes m7 HB1.out B1.out; have x7 := box4 M7.1; have y7 := box4 M7.2; clear M7 m7)
      | (go_at_call 11; refine Calls.mono (hch _ (Kept.refl _)) ?_; clear hch; rintro e w8 ⟨rfl, m8, hch⟩; have M8 := mid_boxes m8 HB1.out B1.out; have x8 := box4 M8.1; have y8 := box4 M8.2; clear M8 m8))
  clear c0 c1 c2 c3 d0 d1 d2 d3
  obtain ⟨c0, c1, c2, c3⟩ := x8
  obtain ⟨d0, d1, d2, d3⟩ := y8
  clear x7 y7
  go_wp2_with (go_at_call_of 12 (Value.bool true); skip)
  refine Calls.mono (hch _ (Kept.refl _)) ?_
  clear hch c0 c1 c2 c3 d0 d1 d2 d3
  rintro e w9 ⟨z, rfl, z1, z2, m, hch⟩
  have z0 : 0 ≤ z := by omega
  clear z1 z2
  obtain ⟨b, d⟩ := mid_boxes m HB1.out B1.out
  obtain ⟨c0, c1, c2, c3⟩ := box4 b
  obtain ⟨d0, d1, d2, d3⟩ := box4 d
  clear b d m
  go_wp2_with (go_at_call_of 17 (Value.bool true); skip)
  refine Calls.mono (hch _ (Kept.refl _)) ?_
  clear hch c0 c1 c2 c3 d0 d1 d2 d3
  rintro e w10 ⟨rfl, m, hch⟩
  obtain ⟨b, d⟩ := mid_boxes m HB1.out B1.out
  obtain ⟨c0, c1, c2, c3⟩ := box4 b
  obtain ⟨d0, d1, d2, d3⟩ := box4 d
  clear b d m
  go_wp2_with (go_at_call_of 18 (Value.bool true); skip)
  refine Calls.mono (hch _ (Kept.refl _)) ?_
  clear hch c0 c1 c2 c3 d0 d1 d2 d3
  rintro e w11 ⟨rfl, m, hch⟩
  obtain ⟨b, d⟩ := mid_boxes m HB1.out B1.out
  obtain ⟨c0, c1, c2, c3⟩ := box4 b
  obtain ⟨d0, d1, d2, d3⟩ := box4 d
  clear b d m
  go_wp2_with (go_at_call_of 19 (Value.bool true); skip)
  refine Calls.mono (hch _ (Kept.refl _)) ?_
  clear hch c0 c1 c2 c3 d0 d1 d2 d3
  rintro e w12 ⟨rfl, m, hch⟩
  obtain ⟨b, d⟩ := mid_boxes m HB1.out B1.out
  obtain ⟨c0, c1, c2, c3⟩ := box4 b
  obtain ⟨d0, d1, d2, d3⟩ := box4 d
  clear b d m
  go_wp2_with (go_at_call_of 8 (Value.bool true); skip)
  refine Calls.mono (hch _ (Kept.refl _)) ?_
  clear hch c0 c1 c2 c3 d0 d1 d2 d3
  rintro e w13 ⟨t2, rfl, m, hch⟩
  obtain ⟨b, d⟩ := mid_boxes m HB1.out B1.out
  obtain ⟨c0, c1, c2, c3⟩ := box4 b
  obtain ⟨d0, d1, d2, d3⟩ := box4 d
  clear b d m
  go_wp2_with (go_at_call_of 21 (Value.bool true); skip)
  refine Calls.mono (hch _ (Kept.refl _)) ?_
  clear hch c0 c1 c2 c3 d0 d1 d2 d3
  rintro e w14 ⟨h0, rfl, m, hch⟩
  obtain ⟨b, d⟩ := mid_boxes m HB1.out B1.out
  obtain ⟨c0, c1, c2, c3⟩ := box4 b
  obtain ⟨d0, d1, d2, d3⟩ := box4 d
  clear b d m
  go_wp2_with (go_at_call_of 17 (Value.bool true); skip)
  refine Calls.mono (hch _ (Kept.refl _)) ?_
  clear hch c0 c1 c2 c3 d0 d1 d2 d3
  rintro e w15 ⟨rfl, m, hch⟩
  obtain ⟨b, d⟩ := mid_boxes m HB1.out B1.out
  obtain ⟨c0, c1, c2, c3⟩ := box4 b
  obtain ⟨d0, d1, d2, d3⟩ := box4 d
  clear b d m
  go_wp2_with (go_at_call_of 19 (Value.bool true); skip)
  refine Calls.mono (hch _ (Kept.refl _)) ?_
  clear hch c0 c1 c2 c3 d0 d1 d2 d3
  rintro e w16 ⟨rfl, m, hm⟩
  clear m
  go_wp2
  go_ret
  exact ⟨rfl, kept_mod ((Kept.alloc w _).trans K1.out) hm⟩
end Go.Proofs
namespace Go.Am
open Go Go.Proofs
theorem d_eq5 (l : List TAddr) (h : okL TAddr.ok l) : D 17 [.sl 2 true (rows kAddr TAddr.row l), .sl 2 true (rows kAddr TAddr.row l)] = some (.bool true) :=
  fnok_some ok17 (show F17 V (rows kAddr TAddr.row l) (rows kAddr TAddr.row l) (fun y => some (.bool y)) = _ from (eqAddrS l l h _).trans (by rw [decide_eq_true rfl]))
theorem mrows5 (n : Nat) : mrows mrA 2 n = (rows kAddr TAddr.row (mAddrs n)) := by
  unfold mrows mAddrs
  simp only [rows, List.map_map]
  rfl
theorem d_he5 (n : Nat) (hn : n ≤ 1048576) : D 19 [.sl 2 true (mrows mrA 2 n), .int .i64 1] = some (.int .i64 ((1 + n * 2 : Nat) : Int)) := by
  rw [mrows5]
  exact fnok_some ok19 (show F19 V (rows kAddr TAddr.row (mAddrs n)) 1 (fun y => some (.int .i64 y)) = _ from ei_lheldAddrS (mAddrs n) 1 (fun y => some (V.int .i64 y)) _ (held_mAddrs n hn))
theorem d_sp5 {a : TNet} {h : List UInt8} {l : List TAddr} (e : sOwnLearned a h = some l) : D 20 [.agg [.sl 2 false (rows kServer TServer.row a.xServers), .sl 10 true (rows kEntry TEntry.row a.xCache.xEntries), .sl 4 true (rows kSent TSent.row a.xLog), .int .i64 a.xNow], .str h] = some (.own 0 2 .flat (rows kAddr TAddr.row l)) :=
  fnok_some ok20 (show F20 V (rows kServer TServer.row a.xServers) (rows kEntry TEntry.row a.xCache.xEntries) (rows kSent TSent.row a.xLog) a.xNow h (fun y => some (.own 0 2 .flat y)) = _ from ei_sOwnLearned a h (fun y => some (V.own 0 2 .flat y)) _ e)
theorem d_im5 {a : TNet} {h : List UInt8} {l : List TAddr} (e : iOwnLearned a h = some l) : D 21 [.agg [.sl 2 false (rows kServer TServer.row a.xServers), .sl 10 true (rows kEntry TEntry.row a.xCache.xEntries), .sl 4 true (rows kSent TSent.row a.xLog), .int .i64 a.xNow], .str h] = some (.own 0 2 .flat (rows kAddr TAddr.row l)) :=
  fnok_some ok21 (show F21 V (rows kServer TServer.row a.xServers) (rows kEntry TEntry.row a.xCache.xEntries) (rows kSent TSent.row a.xLog) a.xNow h (fun y => some (.own 0 2 .flat y)) = _ from ei_iOwnLearned a h (fun y => some (V.own 0 2 .flat y)) _ e)
/-- What the law answers: true, and nothing that was there is changed. -/
def Told5 (args : List V) : Prop := ∀ (R : Nat → Prop) (w : World) (vals : Array Value), globOk w → (∀ k, R k → k < w.heap.size) → args.length = vals.size → (∀ (i : Nat) (c : V) (v : Value), args[i]? = some c → vals[i]? = some v → Rd w R c v) →
    Calls Try.prog 5 vals w fun
      | .returned x, w' => Answer R w (.bool true) x w'
      | _, _ => False
open Classical in
noncomputable def D5 : Nat → List V → Option V := fun f args => if f = 5 ∧ Told5 args then some (.bool true) else D f args
theorem answers5 : Answers Try.prog D5 := by
  intro f args r h
  unfold D5 at h
  split at h
  · rename_i hc
    obtain ⟨rfl, ht⟩ := hc
    injection h with h
    subst h
    exact ⟨⟨Try.f5, Try.func5, rfl, by decide⟩, ht⟩
  · exact answers f args r h
theorem law5 (a : TNet) (h : List UInt8) (o0 : a.ok) (o1 : okS h) : D5 5 [.agg [.sl 2 false (rows kServer TServer.row a.xServers), .sl 10 true (rows kEntry TEntry.row a.xCache.xEntries), .sl 4 true (rows kSent TSent.row a.xLog), .int .i64 a.xNow], .str h] = some (.bool true) := by
  refine if_pos ⟨rfl, ?_⟩
  intro R w vals hg hR hl hv
  obtain ⟨N, H, rfl, e0, e1⟩ := vals2 hl
  have hN := hv 0 _ _ rfl e0
  have hH := hv 1 _ _ rfl e1
  obtain ⟨s, rfl, hs⟩ := rd_str hH
  obtain ⟨sv, ev, lv, rfl⟩ := rd_net hN
  have fin : ∀ {e : Ending} {w' : World}, e = .returned (.bool true) ∧ Kept w w' → (match e, w' with
      | .returned x, w' => Answer R w (.bool true) x w'
      | _, _ => False) := fun hk => by
    obtain ⟨rfl, hk⟩ := hk
    exact answer_plain hk (.bool true)
  have hss : s.size = h.length := by rw [← hs]; rfl
  have hNR : ∀ W, Kept w W → Rd W R (.agg [.sl 2 false (rows kServer TServer.row a.xServers), .sl 10 true (rows kEntry TEntry.row a.xCache.xEntries), .sl 4 true (rows kSent TSent.row a.xLog), .int .i64 a.xNow]) (.agg #[sv, ev, lv, .int .i64 a.xNow]) := fun W hk => hN.mono (fun _ h => h) (fun k hk' o => by simp only [World.cell?, hk.2.2.2.2 k (hR k hk')])
  by_cases c1 : 1048576 < (s.size : Int)
  · exact (Try.law5_long sv ev lv a.xNow s w c1).mono (fun e w' h => fin h)
  · have hsz : ∀ W, Kept w W → Calls Try.prog 6 #[.agg #[sv, ev, lv, .int .i64 a.xNow], .int .i64 1048576] W fun e w' => e = .returned (.int .i64 (szL 1048576 a.size)) ∧ Kept W w' := fun W hk => by
      refine ((answers _ _ _ (d_sz a o0)).2 R W _ (hk.glob hg) (fun k h => Nat.lt_of_lt_of_le (hR k h) hk.2.2.2.1) rfl (fun i c v h1 h2 => ?_)).mono (fun e w' h => ?_)
      · match i, h1, h2 with
        | 0, h1, h2 => injection h1 with h1; injection h2 with h2; subst h1; subst h2; exact hNR W hk
        | 1, h1, h2 => injection h1 with h1; injection h2 with h2; subst h1; subst h2; exact .int _ _
        | i + 2, h1, _ => simp at h1
      · cases e with
        | returned x => rw [answer_int h]; exact ⟨rfl, Kept.of_answer h⟩
        | _ => exact h.elim
    by_cases c2 : a.size ≤ 1048576
    · have e2 : szL 1048576 a.size = 1048576 - (a.size : Int) := if_neg (by omega)
      have hlog : a.xLog.length ≤ 1048576 := by unfold TNet.size at c2; omega
      obtain ⟨l, hl1, hl2, hl3, hl4⟩ := eq_Own a h o0 hlog
      obtain ⟨n1, n2, n3, n4⟩ := net_rows a c2
      have n5 : (rows kAddr TAddr.row l).length = l.length := rows_len _
      refine (Try.law5_walk sv ev lv a.xNow s w (by omega) _ (by omega) (1 + (rows kAddr TAddr.row l).length * 2) hsz (fun W hk => ?_)).mono (fun e w' h => fin h)
      refine mark2_chain (mr := mrA) (mt := mt) answers (by decide) (fun k => rfl) (by rw [n5]; exact hl3) n1 n2 n3 n4 (d_to a c2) (d_sp5 hl1) (d_im5 hl2) (d_eq5 l ⟨by unfold maxLen; omega, hl4⟩) (d_en a o0) (d_he5 _ (by rw [n5]; exact hl3)) (fun bk o cap nn cur0 ty W hgW hbk hb hs hn => Try.markAddr mt hmt bk o cap nn 1 cur0 ty W hgW hbk hb hs hn (by decide)) (fun a cap W => Try.markAddr0 a cap 1 W)
        (fun X sv ev lv W hX1 hX2 hgW h1 h2 h3 => Try.markNet_new mt hmt X hX1 sv ev lv a.xNow W hX2 hgW h1 h2 h3) (hk.glob hg) (fun k h => Nat.lt_of_lt_of_le (hR k h) hk.2.2.2.1) (hNR W hk) (.str _ _ hs)
    · exact (Try.law5_left sv ev lv a.xNow s w (by omega) _ (by unfold szL; rw [if_pos (by omega)]; decide) hsz).mono (fun e w' h => fin h)
end Go.Am
namespace Go.Proofs
open Go Go.Am Go.RowKit Go.Sort
end Go.Proofs

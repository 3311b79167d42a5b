/-
  impl.SortAddrs walked: a fresh copy is sorted by the library's contract and compacted; its answer is an own new slice. Written by program (walksort.py).
-/
import Derived.Shelf.SlLaysF0
import Derived.Test.YtcajalfelmgeiaaProg
import Derived.Test.YtcajalfelmgeiaaAmExt3
import Derived.Test.YtcajalfelmgeiaaAmComp
import Derived.Test.YtcajalfelmgeiaaShelf
import Derived.Shelf.SlSortCmp.WholeK
import Derived.Deep.AppendLies
import Derived.Laws.StructEq
import Derived.RegionTactic
import Derived.WalkKit
section
namespace Go.Proofs
open Go.Shelf
def Try.sortAddr_ren : Go.Shelf.Ren := ⟨fun | 6 => 61 | 15 => 72 | 14 => 75 | 28 => 91 | 29 => 92 | 20 => 95 | 21 => 96 | 22 => 97 | 23 => 98 | 24 => 99 | 25 => 100 | 26 => 101 | 27 => 102 | 46 => 110 | 47 => 105 | 48 => 106 | 49 => 111 | 50 => 112 | 57 => 115 | n => n, fun | 22 => 45 | 24 => 66 | 25 => 96 | 3 => 3 | 39 => 113 | 0 => 0 | 53 => 137 | 55 => 139 | 4 => 4 | 46 => 129 | 45 => 128 | 50 => 134 | 5 => 5 | 9 => 9 | 66 => 147 | 70 => 151 | 76 => 155 | 77 => 156 | n => n, fun | n => n⟩
theorem Try.sortAddr : Go.Proofs.SlLaysF0.n6 Try.prog Try.sortAddr_ren := {
  mixed := by kernel_rfl
  f6 := ⟨Try.f61.name, by decide, Try.func61.trans (congrArg some (by kernel_rfl))⟩
  f14 := ⟨Try.f75.name, by decide, Try.func75.trans (congrArg some (by kernel_rfl))⟩
  f15 := Try.func72.trans (congrArg some (by kernel_rfl))
  f20 := ⟨Try.f95.name, by decide, Try.func95.trans (congrArg some (by kernel_rfl))⟩
  f21 := ⟨Try.f96.name, by decide, Try.func96.trans (congrArg some (by kernel_rfl))⟩
  f22 := ⟨Try.f97.name, by decide, Try.func97.trans (congrArg some (by kernel_rfl))⟩
  f23 := ⟨Try.f98.name, by decide, Try.func98.trans (congrArg some (by kernel_rfl))⟩
  f24 := ⟨Try.f99.name, by decide, Try.func99.trans (congrArg some (by kernel_rfl))⟩
  f25 := ⟨Try.f100.name, by decide, Try.func100.trans (congrArg some (by kernel_rfl))⟩
  f26 := ⟨Try.f101.name, by decide, Try.func101.trans (congrArg some (by kernel_rfl))⟩
  f27 := ⟨Try.f102.name, by decide, Try.func102.trans (congrArg some (by kernel_rfl))⟩
  f28 := Try.func91.trans (congrArg some (by kernel_rfl))
  f29 := Try.func92.trans (congrArg some (by kernel_rfl))
  f46 := ⟨Try.f110.name, by decide, Try.func110.trans (congrArg some (by kernel_rfl))⟩
  f47 := Try.func105.trans (congrArg some (by kernel_rfl))
  f48 := Try.func106.trans (congrArg some (by kernel_rfl))
  f49 := ⟨Try.f111.name, by decide, Try.func111.trans (congrArg some (by kernel_rfl))⟩
  f50 := ⟨Try.f112.name, by decide, Try.func112.trans (congrArg some (by kernel_rfl))⟩
  f57 := ⟨Try.f115.name, by decide, Try.func115.trans (congrArg some (by kernel_rfl))⟩
  t0 := Try.underlying0
  a0 := Try.isAgg0
  z0 := Try.sizeOf0
  v0 := Try.zeroValue0
  t3 := Try.underlying3
  a3 := Try.isAgg3
  z3 := Try.sizeOf3
  v3 := Try.zeroValue3
  t4 := Try.underlying4
  a4 := Try.isAgg4
  z4 := Try.sizeOf4
  v4 := Try.zeroValue4
  t5 := Try.underlying5
  a5 := Try.isAgg5
  z5 := Try.sizeOf5
  v5 := Try.zeroValue5
  t9 := Try.underlying9
  a9 := Try.isAgg9
  z9 := Try.sizeOf9
  v9 := Try.zeroValue9
  t22 := Try.underlying45
  a22 := Try.isAgg45
  z22 := Try.sizeOf45
  v22 := Try.zeroValue45
  t25 := Try.underlying96
  a25 := Try.isAgg96
  z25 := Try.sizeOf96
  v25 := Try.zeroValue96
  t39 := Try.underlying113
  a39 := Try.isAgg113
  z39 := Try.sizeOf113
  v39 := Try.zeroValue113
  t45 := Try.underlying128
  a45 := Try.isAgg128
  z45 := Try.sizeOf128
  v45 := Try.zeroValue128
  t46 := Try.underlying129
  a46 := Try.isAgg129
  z46 := Try.sizeOf129
  v46 := Try.zeroValue129
  t50 := Try.underlying134
  a50 := Try.isAgg134
  z50 := Try.sizeOf134
  v50 := Try.zeroValue134
  t53 := Try.underlying137
  a53 := Try.isAgg137
  z53 := Try.sizeOf137
  v53 := Try.zeroValue137
  t55 := Try.underlying139
  a55 := Try.isAgg139
  z55 := Try.sizeOf139
  v55 := Try.zeroValue139
  t66 := Try.underlying147
  a66 := Try.isAgg147
  z66 := Try.sizeOf147
  v66 := Try.zeroValue147
  t70 := Try.underlying151
  a70 := Try.isAgg151
  z70 := Try.sizeOf151
  v70 := Try.zeroValue151
  t76 := Try.underlying155
  a76 := Try.isAgg155
  z76 := Try.sizeOf155
  v76 := Try.zeroValue155
  t77 := Try.underlying156
  a77 := Try.isAgg156
  z77 := Try.sizeOf156
  v77 := Try.zeroValue156 }
end Go.Proofs
end
set_option linter.unusedVariables false
set_option linter.unusedSimpArgs false
namespace Go.Proofs
open Go Go.Am Go.Shelf Go.RowKit Go.Lib Go.Sort

def Try.compAddr_ren : Go.Shelf.Ren := ⟨fun | 43 => 63 | n => n, fun | 22 => 45 | 23 => 66 | n => n, fun | n => n⟩
theorem Try.compAddr : CompLays Try.prog Try.compAddr_ren := {
  mixed := by kernel_rfl
  f43 := ⟨Try.f63.name, by decide, Try.func63.trans (congrArg some (by kernel_rfl))⟩
  t0 := Try.underlying0
  a0 := Try.isAgg0
  z0 := Try.sizeOf0
  v0 := Try.zeroValue0
  t3 := Try.underlying3
  a3 := Try.isAgg3
  z3 := Try.sizeOf3
  v3 := Try.zeroValue3
  t4 := Try.underlying4
  a4 := Try.isAgg4
  z4 := Try.sizeOf4
  v4 := Try.zeroValue4
  t22 := Try.underlying45
  a22 := Try.isAgg45
  z22 := Try.sizeOf45
  v22 := Try.zeroValue45 }

theorem Try.infoAddr : (Try.prog.info? 66).map (fun i => (i.zero, i.size, i.bytes)) = some (some (.agg #[.string ByteArray.empty, .string ByteArray.empty]), 2, 32) := by kernel_rfl
theorem Try.eqAddr0 (x y : Pr) (w : World) : (Op.equalIn 10000 66 (.agg (encPr x).toArray) (.agg (encPr y).toArray)).run Try.prog w = .ok (decide (x = y)) w := by
  have u9 := Try.underlying9
  have a9 := Try.isAgg9
  have z9 := Try.sizeOf9
  have hS : Try.prog.underlying 66 = some (.struct (Try.prog.fieldsOf 66)) := by kernel_rfl
  have hp : Try.prog.stoodInHeld 66 = false := by kernel_rfl
  obtain ⟨x1, x2⟩ := x
  obtain ⟨y1, y2⟩ := y
  simp only [encPr]
  rw [show (10000 : Nat) = 9999 + 1 from rfl, run_equalIn_agg w 9999 66 _ _ hS hp]
  simp only [Program.fieldsOf, Try.underlying66]
  go_simp
  by_cases h1 : x1 = y1 <;> by_cases h2 : x2 = y2 <;> simp [h1, h2]
theorem Try.eqAddr : EqlAt Try.prog 66 (fun x : Pr => .agg (encPr x).toArray) (fun x y => decide (x = y)) := by
  refine ⟨fun x y w => ?_, GuardAt.agg _ (by kernel_rfl)⟩
  rw [run_eql_struct, Try.eqAddr0]
  rfl
theorem Try.neAddr : NeqAt Try.prog 66 (fun x : Pr => .agg (encPr x).toArray) (fun x y => decide (x = y)) := by
  refine ⟨fun x y w => ?_, GuardAt.agg _ (by kernel_rfl)⟩
  rw [run_neq_struct, Try.eqAddr0]
  rfl

set_option maxHeartbeats 1000000 in
set_option maxRecDepth 100000 in
theorem Try.cmpAddr (x y : Pr) (W : World) : Calls Try.prog 62 #[.agg (encPr x).toArray, .agg (encPr y).toArray] W fun e w' => e = .returned (.int .i64 (cmpPr x y)) ∧ ∃ q os', w' = grow (W.drewN q) os' := by
  obtain ⟨x1, x2⟩ := x
  obtain ⟨y1, y2⟩ := y
  have h1 := fun W' => Try.strings_Compare ⟨x1.toArray⟩ ⟨y1.toArray⟩ W'
  have h2 := fun W' => Try.strings_Compare ⟨x2.toArray⟩ ⟨y2.toArray⟩ W'
  have e1 : cmpPr (x1, x2) (y1, y2) = if Lib.compareBytes x1 y1 ≠ 0 then Lib.compareBytes x1 y1 else Lib.compareBytes x2 y2 := rfl
  rw [e1]
  clear e1
  simp only [encPr]
  change ∀ W', Calls Try.prog 76 _ W' (fun e w' => e = .returned (.int .i64 (Lib.compareBytes x1 y1)) ∧ w' = W') at h1
  change ∀ W', Calls Try.prog 76 _ W' (fun e w' => e = .returned (.int .i64 (Lib.compareBytes x2 y2)) ∧ w' = W') at h2
  generalize Lib.compareBytes x1 y1 = r1 at h1 ⊢
  generalize Lib.compareBytes x2 y2 = r2 at h2 ⊢
  generalize (⟨x1.toArray⟩ : ByteArray) = s1 at h1 ⊢
  generalize (⟨y1.toArray⟩ : ByteArray) = s2 at h1 ⊢
  generalize (⟨x2.toArray⟩ : ByteArray) = s3 at h2 ⊢
  generalize (⟨y2.toArray⟩ : ByteArray) = s4 at h2 ⊢
  by_cases hr : r1 = 0
  · subst hr
    go_enter Try.func62, Try.ntmps62
    go_wp2_with (go_at_call 76; first | (refine (h1 _).mono ?_; rintro e w' ⟨rfl, rfl⟩) | (refine (h2 _).mono ?_; rintro e w' ⟨rfl, rfl⟩))
    go_ret
    exact ⟨rfl, 0, _, by rw [alloc_eq_grow, alloc_eq_grow, grow_grow]; rfl⟩
  · go_enter Try.func62, Try.ntmps62
    go_wp2_with (go_at_call 76; first | (refine (h1 _).mono ?_; rintro e w' ⟨rfl, rfl⟩) | (refine (h2 _).mono ?_; rintro e w' ⟨rfl, rfl⟩))
    go_ret
    exact ⟨by simp [hr], 0, _, by rw [alloc_eq_grow, alloc_eq_grow, grow_grow]; rfl⟩

theorem ltPr_swo : SWO (ltOf cmpPr) where
  irrefl x := lt_irrefl x
  trans x y z h1 h2 := lt_trans' (x := x) h1 h2
  ntrans x y z h1 h2 := by
    cases h : ltOf cmpPr x z with
    | false => rfl
    | true =>
      by_cases e : y = z
      · subst e; rw [h] at h1; cases h1
      · have := lt_trans' (x := x) h (lt_of_not h2 (Ne.symm (fun e' => e e'.symm)).symm)
        rw [show ltPr x y = ltOf cmpPr x y from rfl, h1] at this
        cases this
theorem news_get (l : List Pr) : ∀ (j : Nat), (l.flatMap encPr)[j]? = l[j / 2]?.bind fun p => (encPr p)[j % 2]? := by
  induction l with
  | nil => intro j; simp
  | cons p l ih =>
    intro j
    rw [List.flatMap_cons]
    by_cases h : j < 2
    · rw [List.getElem?_append_left (by simpa [encPr] using h), show j / 2 = 0 by omega, show j % 2 = j by omega]
      rfl
    · rw [List.getElem?_append_right (by simp [encPr]; omega), show (encPr p).length = 2 from rfl, ih, show j / 2 = (j - 2) / 2 + 1 by omega, show (j - 2) % 2 = j % 2 by omega]
      rfl
theorem news_len (l : List Pr) : (l.flatMap encPr).length = l.length * 2 := by
  induction l with
  | nil => rfl
  | cons p l ih => rw [List.flatMap_cons, List.length_append, ih, List.length_cons]; simp [encPr]; omega
theorem holds_news {w : World} {base g n cap : Nat} {ty : TypeId} {l : List Pr} (h : w.ownsRow base ty 2 (.slice (some ⟨g, 0, none⟩) n cap) n (l.flatMap encPr)) : ∃ cur, w.heap[g]? = some (.cells cur ty (0, 0)) ∧ cur.size = cap * 2 ∧ n = l.length ∧ n ≤ cap ∧ cap ≤ maxLen ∧ base ≤ g ∧ HoldsK encPr 2 w g 0 l.toArray := by
  have hn : l.length = n := by have := h.1; rw [news_len] at this; omega
  rcases h.2 with ⟨e, _⟩ | ⟨g', cap', cur, hv, hb, hg, h1, h2, h3, h4⟩
  · cases e
  · injection hv with e1 e2 e3
    injection e1 with e1
    injection e1 with e1 _
    subst e1 e3
    refine ⟨cur, hg, h3, hn.symm, h1, h2, hb, fun t ht => ?_⟩
    have ht' : t < l.length * 2 := by simpa using ht
    refine ⟨?_, by simp [World.frozen?, hg]⟩
    have e : (cur.toList.take (n * 2))[t]? = (l.flatMap encPr)[t]? := by rw [h4]
    rw [List.getElem?_take, if_pos (by omega), news_get] at e
    have hj : t / 2 < l.length := by omega
    rw [List.getElem?_eq_getElem hj] at e
    have hm : t % 2 < (encPr l[t / 2]).length := by show t % 2 < 2; omega
    simp only [Option.bind_some] at e
    rw [List.getElem?_eq_getElem hm] at e
    show w.cell? ⟨g, 0 + t, none⟩ = some (id (flatK encPr 2 l.toArray)[t]!)
    rw [get_flatK _ _ _ _ (by simpa using ht')]
    have e5 : l.toArray[t / 2]! = l[t / 2] := by simp [hj]
    rw [e5, getElem!_pos (encPr l[t / 2]) (t % 2) hm, Nat.zero_add]
    simp only [World.cell?, hg, id]
    rw [← e]
    simp

set_option maxHeartbeats 1000000 in
set_option maxRecDepth 100000 in
/-- What stands behind the copy: it is sorted and compacted. -/
theorem Try.sortTail (l : List Pr) (w W1 : World) (g cap : Nat) (cur : Array Value) (hb : RowKit.Below w.heap.size w W1) (hg : w.heap.size ≤ g) (hg1 : W1.heap[g]? = some (.cells cur 66 (0, 0))) (hcs : cur.size = cap * 2) (hcap : l.length ≤ cap) (hm : cap ≤ maxLen) (hl : l.length ≤ 1099511627776) (hH : HoldsK encPr 2 W1 g 0 l.toArray) :
    Calls Try.prog 61 #[.slice (some ⟨g, 0, none⟩) l.length cap, .func (.func 62) #[] #[]] W1 fun e W2 => e = .returned (.tuple #[]) ∧
      Calls Try.prog 63 #[.slice (some ⟨g, 0, none⟩) l.length cap] W2 (LeftPr w l) := by
  have hlt1 : g < W1.heap.size := by
    rcases Nat.lt_or_ge g W1.heap.size with h | h
    · exact h
    · rw [Array.getElem?_eq_none h] at hg1; cases hg1
  have eg : ∀ args w, (callFunc 62 args).run Try.prog w = .ok (.enter 62 args) w := enters_of Try.func62 (by kernel_rfl) rfl
  have hcon := AnyQ.slices_SortFunc Try.sortAddr 2 Try.isAgg66 Try.sizeOf66 encPr (fun _ => rfl) (fun x v hv => by simp [encPr] at hv; rcases hv with rfl | rfl <;> rfl) cmpPr ltPr_swo 62 #[] g 0 cap l.toArray W1 eg (fun _ _ _ _ x y => Try.cmpAddr x y _) hH hlt1 (by simp; omega)
  have hsz : l.toArray.size = l.length := by simp
  rw [hsz] at hcon
  refine hcon.mono ?_
  rintro e W2 ⟨rfl, d', nn, os, hp, hs, rfl⟩
  refine ⟨rfl, ?_⟩
  have hu := sorted_unique_holds ltPr_swo (fun x y h1 h2 => lt_tri (x := x) (y := y) h1 h2) l.toArray d' (by rw [hsz]; exact hp) (by rw [hsz]; exact hs)
  have hd : d' = (l.mergeSort fun x y => !ltPr y x).toArray := Array.ext' (show d'.toList = _ from hu)
  have hds : d'.size = l.length := by rw [hd]; simp
  have hH2 : HoldsK encPr 2 (sortWorldK encPr 2 W1 g 0 nn d' os) g 0 d' :=
    holdsK_grow encPr 2 _ os g 0 d' (by simp only [putRowK, size_putRow, heap_ahead]; exact hlt1) (holdsK_putRowK encPr 2 _ g 0 l.toArray d' (holdsK_ahead encPr 2 W1 nn g 0 _ hH) (by rw [hds]; simp))
  have hc := compact_struct Try.compAddr 2 Try.isAgg66 Try.sizeOf66 encPr (fun _ => rfl) (fun x v hv => by simp [encPr] at hv; rcases hv with rfl | rfl <;> rfl) Try.eqAddr Try.neAddr ([], []) Try.zeroValue66 g 0 cap d' _ hH2 (by rw [hds]; omega) (by rw [hds]; exact hcap)
  rw [hds] at hc
  refine Calls.mono hc ?_
  rintro e W3 ⟨rfl, q, F, hF, rfl, hFx⟩
  rw [← hds] at hF hFx
  have := left_pr (nn := nn) (q := q) (os := os) hb hg hg1 hcap hm hcs hd hF hFx
  rw [hds] at this
  exact this

set_option maxHeartbeats 2000000 in
set_option maxRecDepth 100000 in
theorem Try.SortAddrs_some (bk o cap : Nat) (l : List Pr) (w : World) (h0 : 0 < l.length) (hc : ∀ j x, l[j]? = some x → ∀ t v, (encPr x)[t]? = some v → w.cell? ⟨bk, o + j * 2 + t, none⟩ = some v) (hb : bk < w.heap.size) (hl : l.length ≤ 1099511627776) (hcap : l.length ≤ cap) :
    Calls Try.prog 42 #[.slice (some ⟨bk, o, none⟩) l.length cap] w fun e w' => LeftPr w l e w' := by
  obtain ⟨i0, hi, hz0, hz1, hz2⟩ := info_parts Try.infoAddr
  have hnews : ∀ (W : World), RowKit.Below w.heap.size w W → ∀ j u, (l.flatMap encPr)[j]? = some u → W.cell? ((⟨bk, o, none⟩ : Addr).add j) = some u := fun W hW j u hj => by
    have hjl : j < l.length * 2 := by rw [← news_len]; exact (List.getElem?_eq_some_iff.1 hj).1
    rw [news_get] at hj
    have hj2 : j / 2 < l.length := by omega
    rw [List.getElem?_eq_getElem hj2, Option.bind_some] at hj
    have := hc (j / 2) _ (List.getElem?_eq_getElem hj2) (j % 2) u hj
    rw [Addr.add_lit, hW.cell (p := ⟨bk, o + j, none⟩) hb]
    rwa [show o + j / 2 * 2 + j % 2 = o + j by omega] at this
  have HN : Aside (∀ (W : World), RowKit.Below w.heap.size w W → ∀ j u, (l.flatMap encPr)[j]? = some u → W.cell? ((⟨bk, o, none⟩ : Addr).add j) = some u) := hnews
  clear hnews hc
  have H1 : Aside (∀ u ∈ l.flatMap encPr, u.oneCell' = true) := fun u hu => by
    obtain ⟨p, _, hp⟩ := List.mem_flatMap.1 hu
    simp [encPr] at hp
    rcases hp with rfl | rfl <;> rfl
  have HA : Aside (RowKit.Below w.heap.size w (w.alloc (.cells #[] 66 (0, 0)))) := (RowKit.Below.refl _ _).alloc (Nat.le_refl _) _
  have HO : Aside ((w.alloc (.cells #[] 66 (0, 0))).ownsRow w.heap.size 66 2 (.slice (some ⟨w.heap.size, 0, none⟩) 0 0) 0 []) := ⟨rfl, .inr ⟨w.heap.size, 0, #[], rfl, Nat.le_refl _, (show (w.heap.push _)[w.heap.size]? = _ by simp), Nat.le_refl _, Nat.zero_le _, rfl, rfl⟩⟩
  have NL := news_len l
  generalize hxs : l.flatMap encPr = news at HN H1 NL
  go_enter Try.func42, Try.ntmps42
  go_wp2_with (first
    | (at_builtin; refine wpList_append_lies _ rfl _ _ 45 rfl w.heap.size 66 i0 (.agg #[.string ByteArray.empty, .string ByteArray.empty]) 2 32 Try.underlying45 hi hz0 hz1 hz2 rfl (by decide) (.slice (some ⟨w.heap.size, 0, none⟩) 0 0) 0 [] rfl HO.out ⟨bk, o, none⟩ l.length cap news rfl NL (HN.out _ HA.out) H1.out h0 (by unfold maxLen; omega) (by omega) (show w.heap.size ≤ (w.heap.push _).size by simp) _ rfl ?_; intro g cap1 W1 hown hgrow hat hlt
       rw [List.nil_append, Nat.zero_add] at hown
       rw [← hxs] at hown
       obtain ⟨cur, hg1, hcs, hnl, hcap1, hm1, hbg, hH⟩ := holds_news hown
       have hb1 : RowKit.Below w.heap.size w W1 := RowKit.Below.grown HA.out hgrow (show w.heap.size ≤ (w.heap.push _).size by simp) (fun k hk => by simp [Value.ownBlock] at hk; omega)
       have hT := Try.sortTail l w W1 g cap1 cur hb1 hbg hg1 hcs hcap1 hm1 hl hH
       clear hown hgrow hat hlt hg1 hcs hnl hcap1 hm1 hbg hH hb1)
    | (go_at_call 61; refine hT.mono ?_; rintro e W2 ⟨rfl, hC⟩)
    | (go_at_call 63; refine hC.mono ?_; intro e W3 hL; obtain ⟨g3, cap3, cur3, ty3, rfl, hrest⟩ := id hL; have HL : Aside (LeftPr w l _ W3) := hL; clear hL hrest))
  go_ret
  exact HL.out
theorem run_append_none {P : Program} (w : World) (t ty e : TypeId) (i : TypeInfo) (ht : P.underlying t = some (.slice e)) (hi : P.info? e = some i) (p : Addr) (b : Option Addr) (cap : Nat) :
    (Builtin.append_ #[t, t] ty #[.slice (some p) 0 0, .slice b 0 cap]).run P w = .ok (.slice (some p) 0 0) w := by
  cases b <;> simp [Builtin.append_, run_underlying ht, sizeOf, typeInfo, hi, storeCells, loadCells, loadCellsFrom, Builtin.lenOf, Builtin.firstCells]
theorem wpList_append_none {P : Program} (w : World) {ops : Array Oper} {rest : List Oper} {o : Oper} {a : Act} {Q : Exit → Act → World → Prop} (hgd : o.guard = none) (s x : Operand) (t : TypeId)
    (ho : o.op = .call { callee := .builtin .append, args := #[s, x], argTypes := #[t, t] }) (e : TypeId) (i : TypeInfo) (ht : P.underlying t = some (.slice e)) (hi : P.info? e = some i) (p : Addr) (b : Option Addr) (cap : Nat)
    (hs : a.eval s = .slice (some p) 0 0) (hx : a.eval x = .slice b 0 cap) (h : wpList P ops Q rest (a.put o.dst (.slice (some p) 0 0)) w) : wpList P ops Q (o :: rest) a w :=
  wpList_plain hgd fun _ hK => by
    unfold Oper.wp execOp
    simp only [ho, resolve, invoke, builtin, Sem.run_bind, Sem.run_pure, Result.andThen_ok, List.map_toArray, List.map_cons, List.map_nil, hs, hx, run_append_none w t o.type e i ht hi p b cap]
    exact hK _ _ h
set_option maxHeartbeats 2000000 in
set_option maxRecDepth 100000 in
theorem Try.SortAddrs_none (a : Option Addr) (cap : Nat) (w : World) :
    Calls Try.prog 42 #[.slice a 0 cap] w fun e w' => LeftPr w [] e w' := by
  obtain ⟨i0, hi, hz0, hz1, hz2⟩ := info_parts Try.infoAddr
  have hT := Try.sortTail [] w (w.alloc (.cells #[] 66 (0, 0))) w.heap.size 0 #[] ((RowKit.Below.refl _ _).alloc (Nat.le_refl _) _) (Nat.le_refl _) (show (w.heap.push _)[w.heap.size]? = _ by simp) rfl (Nat.le_refl _) (Nat.zero_le _) (Nat.zero_le _) (fun t ht => by simp at ht)
  change Calls Try.prog 61 #[.slice (some ⟨w.heap.size, 0, none⟩) 0 0, .func (.func 62) #[] #[]] _ (fun e W2 => e = .returned (.tuple #[]) ∧ Calls Try.prog 63 #[.slice (some ⟨w.heap.size, 0, none⟩) 0 0] W2 (LeftPr w [])) at hT
  go_enter Try.func42, Try.ntmps42
  go_wp2_with (first
    | (at_builtin; refine wpList_append_none _ rfl _ _ 45 rfl 66 i0 Try.underlying45 hi ⟨w.heap.size, 0, none⟩ a cap rfl rfl ?_)
    | (go_at_call 61; refine hT.mono ?_; rintro e W2 ⟨rfl, hC⟩)
    | (go_at_call 63; refine hC.mono ?_; intro e W3 hL; obtain ⟨g3, cap3, cur3, ty3, rfl, hrest⟩ := id hL; have HL : Aside (LeftPr w [] _ W3) := hL; clear hL hrest))
  go_ret
  exact HL.out
end Go.Proofs

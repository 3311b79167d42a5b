/-
  slices.Compact at a struct (an aggregate of c cells): the library's two loops walked, over any program that bears that body. No theorem about a Go program of this place stands here.
-/
import Derived.Shelf.SlLaysE
import Derived.Shelf.SlicesE.Compact
import Derived.Shelf.SlicesQ.Load
import Derived.Shelf.GgSortFunc.RowK
import Derived.Sort.WalkB12
import Derived.Lib.SlicesMore
import Derived.Lib.SlicesCompact
set_option linter.unusedVariables false
set_option linter.unusedSimpArgs false
namespace Go.Am
open Go Go.Proofs Go.Shelf Go.RowKit Go.Lib Go.Sort
section
variable {P : Program} {ρ : Ren} {α : Type} [Inhabited α] [DecidableEq α]

omit [DecidableEq α] in
theorem cells_of {enc : α → List Value} {c : Nat} {W : World} {blk off : Nat} {d : Array α} (h : HoldsK enc c W blk off d) (hk : ∀ x, (enc x).length = c) {i : Nat} (hi : i < d.size) :
    ∀ j v, (enc d[i]!)[j]? = some v → W.cell? ((⟨blk, off + i * c, none⟩ : Addr).add j) = some v := fun j v hv => by
  have hj : j < c := by have := (List.getElem?_eq_some_iff.1 hv).1; rwa [hk] at this
  rw [Addr.add_lit, (h.cell hi hj).1, getElem!_pos (enc d[i]!) j (by rw [hk]; exact hj)]
  rw [List.getElem?_eq_getElem (by rw [hk]; exact hj)] at hv
  exact hv
theorem stores_into (P : Program) {W : World} {blk off : Nat} {F : Array Value} (h : Holds id W blk off F) (s : Nat) (vs : List Value) (hs : s + vs.length ≤ F.size) (h1 : ∀ v ∈ vs, v.oneCell' = true) :
    Sem.run P (storeCells ⟨blk, off + s, none⟩ vs 0) W = .ok () (W.setCells blk (off + s) vs) := by
  have := run_storeCells_cells (P := P) blk (off + s) vs 0 W (fun c hc => by rw [Nat.add_zero, Nat.add_assoc, (h (s + c) (by omega)).1]; rfl) (fun c hc => by rw [Nat.add_zero, Nat.add_assoc]; exact (h (s + c) (by omega)).2) h1
  rwa [Nat.add_zero] at this
omit [DecidableEq α] in
theorem setMany_one (enc : α → List Value) (c : Nat) (hk : ∀ x, (enc x).length = c) (d : Array α) (i : Nat) (x : α) (hi : i < d.size) : setMany (flatK enc c d) (i * c) (enc x) = flatK enc c (d.setIfInBounds i x) := by
  refine ext_get! (by simp) fun t ht => ?_
  have ht' : t < d.size * c := by simpa using ht
  have c0 : 0 < c := by
    rcases Nat.eq_zero_or_pos c with h | h
    · subst h; simp at ht'
    · exact h
  rw [get_setMany _ _ _ t (by simpa using ht'), get_flatK _ _ _ t ht', get_flatK _ _ _ t (by simpa using ht'), hk]
  by_cases a : t / c = i
  · rw [if_pos ((blk_iff c i t c0).2 a), a, getElem!_set_same d i x hi]
    have : t - i * c = t % c := by subst a; rw [Nat.mod_eq_sub_div_mul]
    rw [this]
  · rw [if_neg (fun h => a ((blk_iff c i t c0).1 h)), getElem!_set_other d i _ x a]
omit [DecidableEq α] in
theorem store_worldK (enc : α → List Value) (c : Nat) (hk : ∀ x, (enc x).length = c) {w wr : World} {n blk off : Nat} {dk : Array α} {i : Nat} (m : Nat) (hi : i < dk.size) (hwr : wr = putRowK enc c (Sort.ahead w n) blk off dk) (x : α) :
    (wr.drewN m).setCells blk (off + i * c) (enc x) = putRowK enc c (Sort.ahead w (n + m)) blk off (dk.setIfInBounds i x) := by
  subst hwr
  rw [putRowK_drewN]
  unfold putRowK
  rw [setCells_putRow _ _ _ _ _ _ (by
    rw [hk, size_flatK]
    have := Nat.mul_le_mul_right c (show i + 1 ≤ dk.size from hi)
    rwa [Nat.add_mul, Nat.one_mul] at this), setMany_one enc c hk dk i x hi]
/-- The built-in clear over n elements of c cells. -/
theorem clear_cells (w : World) (t e ty : TypeId) (z : Array Value) (ht : P.underlying t = some (.slice e)) (hv : ∀ w, (zeroValue e).run P w = .ok (.agg z) w) (h1 : ∀ v ∈ z.toList, v.oneCell' = true) (b o n cp : Nat) (hn : 0 < n)
    (hc : ∀ j, j < n * z.size → (w.cell? ⟨b, o + j, none⟩).isSome = true) (hf : ∀ j, j < n * z.size → w.frozen? ⟨b, o + j, none⟩ = false) :
    (Builtin.clear_ #[t] ty #[.slice (some ⟨b, o, none⟩) n cp]).run P w = .ok (.tuple #[]) (w.setCells b o (Builtin.zeroCells z n).toList) := by
  have hst := run_storeCells_cells (P := P) b o (Builtin.zeroCells z n).toList 0 w (by simpa [Builtin.zeroCells] using hc) (by simpa [Builtin.zeroCells] using hf) (by
    intro v hv'
    simp only [Builtin.zeroCells, Array.toList_map, List.mem_map] at hv'
    obtain ⟨i, hi, rfl⟩ := hv'
    have hi' : i < n * z.size := by simpa using hi
    have z0 : 0 < z.size := by
      rcases Nat.eq_zero_or_pos z.size with h | h
      · rw [h] at hi'; simp at hi'
      · exact h
    have hm : i % z.size < z.size := Nat.mod_lt _ z0
    rw [getElem!_pos z _ hm]
    exact h1 _ (by simp))
  simp only [Nat.add_zero] at hst
  obtain ⟨m, rfl⟩ : ∃ m, n = m + 1 := ⟨n - 1, by omega⟩
  have hz : (Value.agg z).cells = z := rfl
  simp [Builtin.clear_, run_underlying ht, hv, hz, hst]

/-- A program that bears the library's body, and of the elements' type nothing. -/
structure CompLays (P : Program) (ρ : Ren) : Prop where
  mixed : P.follows .mixedOrders = true
  f43 : Bears P (ρ.f 43) (SlBodyN.n43 ρ)
  t0 : P.underlying (ρ.t 0) = some (TypeDesc.tuple #[])
  a0 : ∀ w, (isAgg (ρ.t 0)).run P w = .ok false w
  z0 : ∀ w, (Go.sizeOf (ρ.t 0)).run P w = .ok 1 w
  v0 : ∀ w, (zeroValue (ρ.t 0)).run P w = .ok (Value.tuple #[]) w
  t3 : P.underlying (ρ.t 3) = some (TypeDesc.int IntKind.i64)
  a3 : ∀ w, (isAgg (ρ.t 3)).run P w = .ok false w
  z3 : ∀ w, (Go.sizeOf (ρ.t 3)).run P w = .ok 1 w
  v3 : ∀ w, (zeroValue (ρ.t 3)).run P w = .ok (Value.int IntKind.i64 0) w
  t4 : P.underlying (ρ.t 4) = some (TypeDesc.bool)
  a4 : ∀ w, (isAgg (ρ.t 4)).run P w = .ok false w
  z4 : ∀ w, (Go.sizeOf (ρ.t 4)).run P w = .ok 1 w
  v4 : ∀ w, (zeroValue (ρ.t 4)).run P w = .ok (Value.bool false) w
  t22 : P.underlying (ρ.t 22) = some (TypeDesc.slice (ρ.t 23))
  a22 : ∀ w, (isAgg (ρ.t 22)).run P w = .ok false w
  z22 : ∀ w, (Go.sizeOf (ρ.t 22)).run P w = .ok 1 w
  v22 : ∀ w, (zeroValue (ρ.t 22)).run P w = .ok (Value.slice none 0 0) w

set_option maxHeartbeats 8000000 in
set_option maxRecDepth 1000000 in
/-- slices.Compact at a struct: the slice cut to what is kept; that lies at the row's head. -/
theorem compact_struct (L : CompLays P ρ) (c : Nat) (aE : ∀ w, (isAgg (ρ.t 23)).run P w = .ok true w) (zE : ∀ w, (Go.sizeOf (ρ.t 23)).run P w = .ok c w) (enc : α → List Value) (hk : ∀ x, (enc x).length = c) (h1 : ∀ x, ∀ v ∈ enc x, v.oneCell' = true)
    (heq : EqlAt P (ρ.t 23) (fun x => .agg (enc x).toArray) (fun x y => decide (x = y))) (hne : NeqAt P (ρ.t 23) (fun x => .agg (enc x).toArray) (fun x y => decide (x = y))) (zr : α) (v23 : ∀ w, (zeroValue (ρ.t 23)).run P w = .ok (.agg (enc zr).toArray) w)
    (blk off cap : Nat) (d : Array α) (w : World) (hH : HoldsK enc c w blk off d) (hsz : d.size ≤ 9223372036854775807) (hcap : d.size ≤ cap) :
    Calls P (ρ.f 43) #[.slice (some ⟨blk, off, none⟩) d.size cap] w fun e w' => e = .returned (.slice (some ⟨blk, off, none⟩) (compactUpTo d d.size).length cap) ∧
      ∃ (q : Nat) (F : Array Value), F.size = d.size * c ∧ w' = putRow id (Sort.ahead w q) blk off F ∧ ∀ j x, (compactUpTo d d.size)[j]? = some x → ∀ t, t < c → F[j * c + t]! = (enc x)[t]! := by
  have mixed := L.mixed; have t0 := L.t0; have a0 := L.a0; have z0 := L.z0; have v0 := L.v0; have t3 := L.t3; have a3 := L.a3; have z3 := L.z3; have v3 := L.v3; have t4 := L.t4; have a4 := L.a4; have z4 := L.z4; have v4 := L.v4; have t22 := L.t22; have a22 := L.a22; have z22 := L.z22; have v22 := L.v22
  have heq' : ∀ (x y : α) (w : World), Sem.run P (binOp .eql (ρ.t 23) (.agg (enc x).toArray) (.agg (enc y).toArray)) w = .ok (.bool (decide (x = y))) w := heq.1
  have hne' : ∀ (x y : α) (w : World), Sem.run P (binOp .neq (ρ.t 23) (.agg (enc x).toArray) (.agg (enc y).toArray)) w = .ok (.bool (!decide (x = y))) w := hne.1
  have hgd' : ∀ (op : BinOp) (a b : Operand) (x y : α) (w : World), Sem.run P (eqGuard op (ρ.t 23) a b (.agg (enc x).toArray) (.agg (enc y).toArray)) w = .ok () w := hne.2
  have fin : ∀ (dk : Array α) (m : Nat), dk.size = d.size → m ≤ d.size → (∀ j, j < m → (compactUpTo d d.size)[j]? = some dk[j]!) → (compactUpTo d d.size).length = m → ∀ (F : Array Value), (∀ t, t < m * c → F[t]! = (flatK enc c dk)[t]!) →
      ∀ j x, (compactUpTo d d.size)[j]? = some x → ∀ t, t < c → F[j * c + t]! = (enc x)[t]! := by
    intro dk m hds hm hlow hlen F hF j x hx t ht
    have hj : j < m := by rw [← hlen]; exact (List.getElem?_eq_some_iff.1 hx).1
    rw [hlow j hj] at hx
    injection hx with hx
    have hb : j * c + c ≤ m * c := by
      have := Nat.mul_le_mul_right c (show j + 1 ≤ m from hj)
      rwa [Nat.add_mul, Nat.one_mul] at this
    have hb2 : m * c ≤ dk.size * c := Nat.mul_le_mul_right c (by omega)
    rw [hF _ (by omega), get_flatK _ _ _ _ (by omega)]
    have e1 : (j * c + t) / c = j := (blk_iff c j _ (by omega)).1 ⟨by omega, by omega⟩
    have e2 : (j * c + t) % c = t := by rw [Nat.mod_eq_sub_div_mul, e1]; omega
    rw [e1, e2, hx]
  have same : ∀ q, (∀ j, j < d.size → keeps d j = true) → (compactUpTo d d.size).length = d.size ∧ ∃ F : Array Value, F.size = d.size * c ∧ w.drewN q = putRow id (Sort.ahead w q) blk off F ∧ ∀ j x, (compactUpTo d d.size)[j]? = some x → ∀ t, t < c → F[j * c + t]! = (enc x)[t]! := by
    intro q hall
    have e : compactUpTo d d.size = d.toList := by rw [compactUpTo_all d _ hall, range_map_get]
    have el : (compactUpTo d d.size).length = d.size := by rw [e]; simp
    refine ⟨el, flatK enc c d, size_flatK _ _ _, (putRow_self id (Sort.ahead w q) blk off _ (holdsK_ahead enc c w q blk off d hH)).symm, fin d d.size rfl (Nat.le_refl _) (fun j hj => ?_) el _ (fun _ _ => rfl)⟩
    rw [e, getElem!_pos d j hj]
    simp [hj]
  have HS : Aside (∀ q, (∀ j, j < d.size → keeps d j = true) → (compactUpTo d d.size).length = d.size ∧ ∃ F : Array Value, F.size = d.size * c ∧ w.drewN q = putRow id (Sort.ahead w q) blk off F ∧ ∀ j x, (compactUpTo d d.size)[j]? = some x → ∀ t, t < c → F[j * c + t]! = (enc x)[t]!) := same
  have FIN : Aside (∀ (dk : Array α) (m : Nat), dk.size = d.size → m ≤ d.size → (∀ j, j < m → (compactUpTo d d.size)[j]? = some dk[j]!) → (compactUpTo d d.size).length = m → ∀ (F : Array Value), (∀ t, t < m * c → F[t]! = (flatK enc c dk)[t]!) →
      ∀ j x, (compactUpTo d d.size)[j]? = some x → ∀ t, t < c → F[j * c + t]! = (enc x)[t]!) := fin
  clear same fin
  have HH : Aside (HoldsK enc c w blk off d) := hH
  have HK : Aside (∀ x, (enc x).length = c) := hk
  have H1 : Aside (∀ x, ∀ v ∈ enc x, v.oneCell' = true) := h1
  by_cases h2 : d.size < 2
  · clear hH hk h1
    obtain ⟨_, _, FG⟩ := L.f43
    go_enter FG, SlBodyN.n43_ntmps ρ
    go_wp2
    go_ret
    obtain ⟨e1, F, e2, e3, e4⟩ := HS.out 0 (fun j hj => keeps_lt_one d j (by omega))
    exact ⟨by rw [e1]; rfl, 0, F, e2, e3, e4⟩
  · clear hH hk h1
    obtain ⟨_, _, FG⟩ := L.f43
    go_enter FG, SlBodyN.n43_ntmps ρ
    go_wp2
    go_loopg [3] d.size (fun g s3 wr => ∃ k q : Nat, 1 ≤ k ∧ k ≤ d.size ∧ d.size - k ≤ g ∧ s3 = .int .i64 k ∧ wr = w.drewN q ∧ Aside (∀ j, j < k → keeps d j = true))
    case atStart => exact ⟨1, 0, Nat.le_refl _, by omega, by omega, rfl, rfl, keeps_lt_one d⟩
    case round =>
      obtain ⟨k, q, hk1, hk, hg, rfl, hwr, A⟩ := hrel
      by_cases hlt : k < d.size
      · have hHq : ∀ m, HoldsK enc c (wr.drewN m) blk off d := fun m => by rw [hwr]; exact HH.out
        have g1 : ∀ m, Sem.run P (loadCellsFrom ⟨blk, off + k * c, none⟩ 0 c #[]) (wr.drewN m) = .ok (enc d[k]!).toArray (wr.drewN m) := fun m => run_loadCellsFrom_list P _ _ _ c (HK.out _) (cells_of (hHq m) HK.out hlt)
        have g0 : ∀ m, Sem.run P (loadCellsFrom ⟨blk, off + (k - 1) * c, none⟩ 0 c #[]) (wr.drewN m) = .ok (enc d[k - 1]!).toArray (wr.drewN m) := fun m => run_loadCellsFrom_list P _ _ _ c (HK.out _) (cells_of (hHq m) HK.out (by omega))
        clear hHq
        have HW : Aside (wr = w.drewN q) := hwr
        clear hwr
        generalize hx : d[k]! = x at g1
        generalize hy : d[k - 1]! = y at g0
        have B : Aside (d[k]! = x ∧ d[k - 1]! = y) := ⟨hx, hy⟩
        clear hx hy
        have hw1 : IntKind.i64.wrap ((k : Int) - 1) = ((k - 1 : Nat) : Int) := by simp [IntKind.wrap, IntKind.bits, IntKind.signed]; omega
        have hlt1 : k - 1 < d.size := by omega
        by_cases hdup : x = y
        · subst hdup
          go_wp2_with fail
          go_quiet_o (fail)
          go_wp2
          clear g1 g0 hw1 hlt1
          go_loopg [3, 5] d.size (fun g s3 s5 wr => ∃ (kk k2 q2 : Nat) (dk : Array α), s3 = .int .i64 kk ∧ s5 = .int .i64 k2 ∧ 1 ≤ k2 ∧ k + k2 ≤ d.size ∧ d.size - (k + k2) ≤ g ∧ wr = putRowK enc c (Sort.ahead w q2) blk off dk ∧ CompInv d (k + k2) kk dk)
          case atStart =>
            refine ⟨k, 1, q + nq, d, rfl, rfl, Nat.le_refl _, by omega, by omega, ?_, CompInv.start A.out (keeps_neg (by omega) (by rw [B.out.1, B.out.2]))⟩
            rw [HW.out, World.drewN_drewN]
            exact (putRowK_self enc c (Sort.ahead w (q + nq)) blk off d (holdsK_ahead enc c w (q + nq) blk off d HH.out)).symm
          case round =>
            obtain ⟨kk, k2, q2, dk, rfl, rfl, h1, hle, hg2, hwr, hI⟩ := hrel
            have hkk := hI.lt
            have hds := hI.size
            have hHk : HoldsK enc c wr blk off dk := by rw [hwr]; exact holdsK_putRowK enc c _ blk off d dk (holdsK_ahead enc c w q2 blk off d HH.out) hds
            have W2 : Aside (wr = putRowK enc c (Sort.ahead w q2) blk off dk) := hwr
            have I2 : Aside (CompInv d (k + k2) kk dk) := hI
            clear hwr
            by_cases hlt2 : k + k2 < d.size
            · have hHm : ∀ m, HoldsK enc c (wr.drewN m) blk off dk := fun m => hHk
              have lm : ∀ m, Sem.run P (loadCellsFrom ⟨blk, off + k * c + k2 * c, none⟩ 0 c #[]) (wr.drewN m) = .ok (enc d[k + k2]!).toArray (wr.drewN m) := fun m => by
                have := run_loadCellsFrom_list P _ _ _ c (HK.out _) (cells_of (hHm m) HK.out (i := k + k2) (by omega))
                rwa [Nat.add_mul, ← Nat.add_assoc, hI.high (k + k2) (by omega)] at this
              have lp : ∀ m, Sem.run P (loadCellsFrom ⟨blk, off + k * c + (k2 - 1) * c, none⟩ 0 c #[]) (wr.drewN m) = .ok (enc d[k + k2 - 1]!).toArray (wr.drewN m) := fun m => by
                have := run_loadCellsFrom_list P _ _ _ c (HK.out _) (cells_of (hHm m) HK.out (i := k + (k2 - 1)) (by omega))
                rwa [Nat.add_mul, ← Nat.add_assoc, hI.high (k + (k2 - 1)) (by omega), show k + (k2 - 1) = k + k2 - 1 by omega] at this
              have st : ∀ m, Sem.run P (storeCells ⟨blk, off + kk * c, none⟩ (enc d[k + k2]!) 0) (wr.drewN m) = .ok () ((wr.drewN m).setCells blk (off + kk * c) (enc d[k + k2]!)) := fun m =>
                stores_into P (hHm m) (kk * c) _ (by
                  rw [HK.out, size_flatK]
                  have := Nat.mul_le_mul_right c (show kk + 1 ≤ dk.size by omega)
                  rwa [Nat.add_mul, Nat.one_mul] at this) (H1.out _)
              have hsz2 : (enc d[k + k2]!).length = c := HK.out _
              clear hHk hI hHm
              generalize hu : d[k + k2]! = u at lm st hsz2
              generalize hv : d[k + k2 - 1]! = v at lp
              have C : Aside (d[k + k2]! = u ∧ d[k + k2 - 1]! = v) := ⟨hu, hv⟩
              clear hu hv
              have hw2 : IntKind.i64.wrap ((k2 : Int) - 1) = ((k2 - 1 : Nat) : Int) := by simp [IntKind.wrap, IntKind.bits, IntKind.signed]; omega
              have hb2 : k2 < d.size - k := by omega
              have hb1 : k2 - 1 < d.size - k := by omega
              by_cases huv : u = v
              · subst huv
                go_wp2_with fail
                go_quiet_o (fail)
                go_wp2
                go_roundg (d.size - (k + (k2 + 1)))
                case measure => omega
                case rel => exact ⟨kk, k2 + 1, q2 + nq, dk, rfl, by go_num, by omega, by omega, Nat.le_refl _, by rw [W2.out, putRowK_drewN], I2.out.skip (keeps_neg (by omega) (by rw [C.out.1, C.out.2]))⟩
              · go_wp2_with fail
                go_quiet_o (fail)
                go_wp2
                go_roundg (d.size - (k + (k2 + 1)))
                case measure => omega
                case rel => exact ⟨kk + 1, k2 + 1, q2 + nq, dk.setIfInBounds kk u, by go_num, by go_num, by omega, by omega, Nat.le_refl _, store_worldK enc c HK.out nq (by omega) W2.out u, by have := I2.out.keep hlt2 (keeps_pos (by rw [C.out.1, C.out.2]; exact huv)); rwa [C.out.1] at this⟩
            · have hend : k + k2 = d.size := by omega
              have zsz : (enc zr).toArray.size = c := by simpa using HK.out zr
              have hF : Holds id wr blk off (flatK enc c dk) := hHk
              have hin : ∀ j, j < (d.size - kk) * (enc zr).toArray.size → kk * c + j < (flatK enc c dk).size := fun j hj => by
                rw [zsz] at hj
                rw [size_flatK, hds]
                have : d.size * c = kk * c + (d.size - kk) * c := by rw [← Nat.add_mul]; congr 1; omega
                omega
              have hcl : ∀ ty, (Builtin.clear_ #[ρ.t 22] ty #[.slice (some ⟨blk, off + kk * c, none⟩) (d.size - kk) (cap - kk)]).run P wr = .ok (.tuple #[]) (wr.setCells blk (off + kk * c) (Builtin.zeroCells (enc zr).toArray (d.size - kk)).toList) :=
                fun ty => clear_cells wr _ _ ty _ t22 v23 (by simpa using H1.out zr) blk (off + kk * c) _ _ (by omega) (fun j hj => by rw [Nat.add_assoc, (hF _ (hin j hj)).1]; rfl) (fun j hj => by rw [Nat.add_assoc]; exact (hF _ (hin j hj)).2)
              have hZl : (Builtin.zeroCells (enc zr).toArray (d.size - kk)).toList.length = (d.size - kk) * c := by simp [Builtin.zeroCells, HK.out]
              generalize (Builtin.zeroCells (enc zr).toArray (d.size - kk)).toList = Z at hcl hZl
              clear hHk hI hF hin
              go_wp2
              go_ret
              have hI := I2.out
              rw [hend] at hI
              refine ⟨by rw [hI.len]; rfl, q2, setMany (flatK enc c dk) (kk * c) Z, by simp [hds], ?_, FIN.out dk kk hds (by omega) hI.low hI.len _ (fun t ht => ?_)⟩
              · rw [W2.out]
                unfold putRowK
                rw [setCells_putRow _ _ _ _ _ _ (by rw [hZl, size_flatK, hds, ← Nat.add_mul]; exact Nat.mul_le_mul_right c (by omega))]
              · rw [get_setMany _ _ _ t (by
                  rw [size_flatK, hds]
                  have := Nat.mul_le_mul_right c (show kk ≤ d.size by omega)
                  omega), if_neg (by omega)]
        · go_wp2_with fail
          go_quiet_o (fail)
          go_wp2
          go_roundg (d.size - (k + 1))
          case measure => omega
          case rel =>
            refine ⟨k + 1, q + nq, by omega, by omega, Nat.le_refl _, by go_num, by rw [HW.out, World.drewN_drewN], (show Aside _ from fun j hj => ?_)⟩
            by_cases e : j = k
            · subst e
              exact keeps_pos (by rw [B.out.1, B.out.2]; exact hdup)
            · exact A.out j (by omega)
      · have : k = d.size := by omega
        subst this
        have HW : Aside (wr = w.drewN q) := hwr
        clear hwr
        go_wp2
        go_ret
        obtain ⟨e1, F, e2, e3, e4⟩ := HS.out q A.out
        exact ⟨by rw [e1]; rfl, q, F, e2, by rw [HW.out]; exact e3, e4⟩
end
end Go.Am

/-
  The operations that make a block: a box, a slice.
-/
import Derived.Test.YtoljfpgnhfkdcaavAmPure
section
set_option linter.unusedVariables false
set_option linter.unusedSimpArgs false
namespace Go.Am
open Go Go.RowKit
section
variable {P : Program} {c : Cfg} {Γ : Ctx} {st : St} {a : Act} {w : World} {den : Nat → List V → Option V} {η : Nat → Option V} {d : Nat}
theorem part_ok {i : TyInfo} {ti : TypeInfo} {t : Nat} (ai : AgreeT P c t i ti) {cs : List V} {vs : Array Value} {off : Nat} {v : V} (hl : cs.length = vs.size)
  (hr : ∀ (j : Nat) (u : V) (y : Value), cs[j]? = some u → vs[j]? = some y → VR Γ w u y) (hp : packV i.d.isAgg i.size (cs.drop off) = some v) :
  ∃ x, (part t vs off).run P w = .ok x w ∧ VR Γ w v x := by
 unfold packV at hp
 split at hp
 ·cases hp
 rename_i hlen
 rw [List.length_drop] at hlen
 split at hp
 ·rename_i hagg
  injection hp with hp
  subst hp
  have hu : ∃ dd, P.underlying t = some dd ∧ ((∃ fs, dd = .struct fs) ∨ (∃ n e, dd = .array n e)) := by
   cases hd : i.d with
   | struct fs => obtain ⟨f, h1, _⟩ := ai.struct fs hd; exact ⟨_, h1, .inl ⟨_, rfl⟩⟩
   | array n e => exact ⟨_, ai.array n e hd, .inr ⟨_, _, rfl⟩⟩
   | _ => rw [hd] at hagg; cases hagg
  obtain ⟨dd, hdd, hk⟩ := hu
  refine ⟨.agg (vs.extract off (off + i.size)), ?_, .agg _ _ (by simp; omega) ?_⟩
  ·rcases hk with ⟨fs, rfl⟩ | ⟨n, e, rfl⟩ <;> simp [part, isAgg, run_underlying hdd, sizeOf, typeInfo, ai.info, ai.size]
  ·intro j u y h1 h2
   rw [List.getElem?_take] at h1
   split at h1
   ·rename_i hj
    rw [List.getElem?_drop] at h1
    rw [Array.getElem?_extract] at h2
    split at h2
    ·exact hr _ u y h1 h2
    ·cases h2
   ·cases h1
 ·rename_i hagg
  split at hp
  ·rename_i h1
   obtain ⟨dd, hdd, n1, n2⟩ := ai.agg (by simpa using hagg)
   have hlt : off < vs.size := by omega
   have h0 : cs[off]? = some v := by
    have : (cs.drop off)[0]? = some v := by rw [← List.head?_eq_getElem?]; exact hp
    rwa [List.getElem?_drop, Nat.add_zero] at this
   refine ⟨vs[off], ?_, hr off v _ h0 (Array.getElem?_eq_getElem hlt)⟩
   simp only [part, isAgg, Sem.run_bind, run_underlying hdd, Result.andThen_ok]
   cases dd with
   | struct fs => exact absurd rfl (n1 fs)
   | array n e => exact absurd rfl (n2 n e)
   | _ => simp [Array.getElem?_eq_getElem hlt]
  ·cases hp
theorem pure_field (hA : Agree P c) (hs : Sim Γ st a w) {o : Oper} {t : TypeId} {x : Operand} {f : Nat} {v : V} (ho : o.op = .field t x f) (h : valOp c den (ev st.t) η d o.op = some (.val v)) : PureOk P Γ a w o v := by
 rw [ho] at h
 simp only [valOp, plain] at h
 split at h
 ·rename_i fs sz by_ z cm nz_ qz_ ht
  split at h
  ·rename_i off ft cs hf hx
   split at h
   ·rename_i j hj
    split at h
    ·rename_i u hu
     simp only [Option.some.injEq, Out.val.injEq] at h
     subst h
     obtain ⟨ti, ai⟩ := hA _ _ ht
     obtain ⟨tj, aj⟩ := hA _ _ hj
     obtain ⟨fields, hfs, hmap, _⟩ := ai.struct fs rfl
     have hxv := hs.ev x
     rw [hx] at hxv
     obtain ⟨vs, e, hl, hr⟩ := hxv.agg_inv
     have hfld : ∃ fl, fields[f]? = some fl ∧ fl.offset = off ∧ fl.type = ft := by
      rw [← hmap, List.getElem?_map, Array.getElem?_toList] at hf
      cases hq : fields[f]? with
      | none => rw [hq] at hf; cases hf
      | some fl => rw [hq] at hf; simp only [Option.map_some, Option.some.injEq, Prod.mk.injEq] at hf; exact ⟨fl, rfl, hf.1, hf.2⟩
     obtain ⟨fl, hfl, rfl, rfl⟩ := hfld
     obtain ⟨y, hy, hv⟩ := part_ok (P := P) (w := w) aj hl hr hu
     exact ⟨y, by simp [execOp, ho, e, Instr.field, run_underlying hfs, hfl, asAgg, hy], hv⟩
    ·cases h
   ·cases h
  ·cases h
 ·cases h
theorem pure_indexAddr (hA : Agree P c) (hs : Sim Γ st a w) {o : Oper} {t : TypeId} {x y : Operand} {v : V} (ho : o.op = .indexAddr t x y) (h : valOp c den (ev st.t) η d o.op = some (.val v)) : PureOk P Γ a w o v := by
 rw [ho] at h
 simp only [valOp, plain] at h
 split at h
 ·rename_i i k n ht hy
  obtain ⟨ti, ai⟩ := hA _ _ ht
  have hyv := hs.ev y
  rw [hy] at hyv
  have ey := hyv.int_inv
  split at h
  ·rename_i e hd
   split at h
   ·rename_i j hj
    split at h
    ·rename_i u hu
     simp only [Option.some.injEq, Out.val.injEq] at h
     subst h
     obtain ⟨tj, aj⟩ := hA _ _ hj
     obtain ⟨hn, k', o', len, cap, ex, hlt, hv⟩ := addrOf_ok (hs.ev x) hu
     have hadd : (⟨k', o', none⟩ : Addr).add (n.toNat * j.size) = ⟨k', o' + n.toNat * j.size, none⟩ := by unfold Addr.add; split <;> simp_all
     exact ⟨_, by simp [execOp, ho, ex, ey, Instr.indexAt, asIntOf, run_underlying (ai.slice _ hd), hn, hlt, sizeOf, typeInfo, aj.info, aj.size, hadd], hv⟩
    ·cases h
   ·cases h
  ·rename_i m e hd
   split at h
   ·rename_i j hj
    split at h
    ·rename_i hnm
     split at h
     ·rename_i u hu
      simp only [Option.some.injEq, Out.val.injEq] at h
      subst h
      obtain ⟨tj, aj⟩ := hA _ _ hj
      obtain ⟨k', o', ex, hv⟩ := addOff_ok (hs.ev x) hu
      have hadd : (⟨k', o', none⟩ : Addr).add (n.toNat * j.size) = ⟨k', o' + n.toNat * j.size, none⟩ := by unfold Addr.add; split <;> simp_all
      exact ⟨_, by simp [execOp, ho, ex, ey, Instr.indexAt, asIntOf, run_underlying (ai.array _ _ hd), Instr.sureAddr, hnm, sizeOf, typeInfo, aj.info, aj.size, hadd], hv⟩
     ·cases h
    ·cases h
   ·cases h
  ·cases h
 ·cases h
theorem pure_index (hA : Agree P c) (hs : Sim Γ st a w) {o : Oper} {t : TypeId} {x y : Operand} {v : V} (ho : o.op = .index t x y) (h : valOp c den (ev st.t) η d o.op = some (.val v)) : PureOk P Γ a w o v := by
 rw [ho] at h
 simp only [valOp, plain] at h
 split at h
 ·rename_i i k n ht hy
  obtain ⟨ti, ai⟩ := hA _ _ ht
  have hyv := hs.ev y
  rw [hy] at hyv
  have ey := hyv.int_inv
  split at h
  ·rename_i s hd hx
   split at h
   ·cases h
   ·rename_i hn
    split at h
    ·rename_i b hb
     simp only [Option.some.injEq, Out.val.injEq] at h
     subst h
     have hxv := hs.ev x
     rw [hx] at hxv
     obtain ⟨z, ex, hz⟩ := hxv.str_inv
     have hi : n.toNat < z.size := by rw [size_str hz]; exact (List.getElem?_eq_some_iff.1 hb).1
     have hbz : z[n.toNat]? = some b := by
      rw [getElem?_pos z n.toNat hi]
      subst hz
      rw [Array.getElem?_toList] at hb
      have hi' : n.toNat < z.data.size := hi
      rw [Array.getElem?_eq_getElem hi'] at hb
      exact hb
     have hn' : 0 ≤ n := by omega
     exact ⟨.int .u8 b.toNat, by simp [execOp, ho, ex, ey, Instr.index, asIntOf, run_underlying (ai.str hd), hn', hbz], .rd _ _ (.int _ _)⟩
    ·cases h
  ·rename_i m e cs hd hx
   split at h
   ·rename_i j hj
    split at h
    ·rename_i hnm
     split at h
     ·rename_i u hu
      simp only [Option.some.injEq, Out.val.injEq] at h
      subst h
      obtain ⟨tj, aj⟩ := hA _ _ hj
      have hxv := hs.ev x
      rw [hx] at hxv
      obtain ⟨vs, ex, hl, hr⟩ := hxv.agg_inv
      obtain ⟨z, hz, hv⟩ := part_ok (P := P) (w := w) aj hl hr hu
      exact ⟨z, by simp [execOp, ho, ex, ey, Instr.index, asIntOf, run_underlying (ai.array _ _ hd), hnm, sizeOf, typeInfo, aj.info, aj.size, hz], hv⟩
     ·cases h
    ·cases h
   ·cases h
  ·cases h
 ·cases h
theorem lenV_ok {v : V} {x : Value} {n : Nat} (h : VR Γ w v x) (hn : lenV v = some n) : ∃ ad cap, x = .slice ad n cap := by
 cases v with
 | nil =>
  simp only [lenV, Option.some.injEq] at hn
  subst hn
  exact ⟨_, _, h.nil_inv⟩
 | sl s f xs =>
  simp only [lenV, Option.some.injEq] at hn
  subst hn
  have hr := h.sl_inv
  cases hr with
  | empty => exact ⟨_, _, rfl⟩
  | sl => exact ⟨_, _, rfl⟩
 | own b s q xs =>
  simp only [lenV, Option.some.injEq] at hn
  subst hn
  rcases h.own_inv with ⟨e, rfl, _⟩ | ⟨e, _⟩
  ·exact ⟨_, _, e⟩
  ·exact ⟨_, _, e⟩
 | view b s q xs =>
  simp only [lenV, Option.some.injEq] at hn
  subst hn
  rcases h.view_inv with ⟨_, _, e, rfl⟩ | ⟨_, _, e, _⟩
  ·exact ⟨_, _, e⟩
  ·exact ⟨_, _, e⟩
 | _ => cases hn
theorem arr1 {α : Type} {l : Array α} {x : α} (h : l.toList = [x]) : l = #[x] := by cases l; simp_all
theorem arr2 {α : Type} {l : Array α} {x y : α} (h : l.toList = [x, y]) : l = #[x, y] := by cases l; simp_all
theorem pure_len (hA : Agree P c) (hs : Sim Γ st a w) {o : Oper} {args : Array Operand} {ts : Array TypeId} {v : V} (ho : o.op = .call ⟨.builtin .len, args, ts⟩) (h : valOp c den (ev st.t) η d o.op = some (.val v)) : PureOk P Γ a w o v := by
 rw [ho] at h
 simp only [valOp, plain] at h
 split at h
 ·rename_i x t hx ht
  have e1 := arr1 hx
  have e2 := arr1 ht
  subst e1; subst e2
  split at h
  ·rename_i i hi
   obtain ⟨ti, ai⟩ := hA _ _ hi
   split at h
   ·rename_i hd
    split at h
    ·rename_i s hn
     simp only [Option.some.injEq, Out.val.injEq] at h
     subst h
     have hxv := hs.ev x
     rw [hn] at hxv
     obtain ⟨y, e, hy⟩ := hxv.str_inv
     exact ⟨.int .i64 s.length, by simp [execOp, ho, resolve, invoke, builtin, Builtin.len_, run_underlying (ai.str hd), e, size_str hy, goInt], .rd _ _ (.int _ _)⟩
    ·cases h
   ·rename_i e hd
    split at h
    ·rename_i n hn
     simp only [Option.some.injEq, Out.val.injEq] at h
     subst h
     obtain ⟨ad, cap, ex⟩ := lenV_ok (hs.ev x) hn
     exact ⟨.int .i64 n, by simp [execOp, ho, resolve, invoke, builtin, Builtin.len_, run_underlying (ai.slice _ hd), ex, goInt], .rd _ _ (.int _ _)⟩
    ·cases h
   ·cases h
  ·cases h
 ·cases h
theorem pure_min (hs : Sim Γ st a w) {o : Oper} {args : Array Operand} {ts : Array TypeId} {v : V} (ho : o.op = .call ⟨.builtin .min, args, ts⟩) (h : valOp c den (ev st.t) η d o.op = some (.val v)) : PureOk P Γ a w o v := by
 rw [ho] at h
 simp only [valOp, plain] at h
 split at h
 ·rename_i x y hx
  have e1 := arr2 hx
  subst e1
  split at h
  ·rename_i k p k' q e1 e2
   split at h
   ·rename_i hk
    subst hk
    simp only [Option.some.injEq, Out.val.injEq] at h
    subst h
    have h1 := hs.ev x
    have h2 := hs.ev y
    rw [e1] at h1; rw [e2] at h2
    exact ⟨_, by simp [execOp, ho, resolve, invoke, builtin, Builtin.min_, Builtin.min2, h1.int_inv, h2.int_inv], .rd _ _ (.int _ _)⟩
   ·cases h
  ·cases h
 ·cases h
theorem pure_max (hs : Sim Γ st a w) {o : Oper} {args : Array Operand} {ts : Array TypeId} {v : V} (ho : o.op = .call ⟨.builtin .max, args, ts⟩) (h : valOp c den (ev st.t) η d o.op = some (.val v)) : PureOk P Γ a w o v := by
 rw [ho] at h
 simp only [valOp, plain] at h
 split at h
 ·rename_i x y hx
  have e1 := arr2 hx
  subst e1
  split at h
  ·rename_i k p k' q e1 e2
   split at h
   ·rename_i hk
    subst hk
    simp only [Option.some.injEq, Out.val.injEq] at h
    subst h
    have h1 := hs.ev x
    have h2 := hs.ev y
    rw [e1] at h1; rw [e2] at h2
    exact ⟨_, by simp [execOp, ho, resolve, invoke, builtin, Builtin.max_, Builtin.max2, h1.int_inv, h2.int_inv], .rd _ _ (.int _ _)⟩
   ·cases h
  ·cases h
 ·cases h
theorem cutB_ok {hs : Sim Γ st a w} {n m : Nat} {lo hi : Option Operand} {l h : Nat} (hc : cutB n (lo.map (ev st.t)) (hi.map (ev st.t)) = some (l, h)) (hm : n ≤ m) (isS : Bool) (cap : Nat) (hcap : n ≤ cap) :
  l ≤ h ∧ h ≤ n ∧ (Instr.sliceBounds isS n cap (lo.map a.eval) (hi.map a.eval) none).run P w = .ok (l, h, cap) w := by
 unfold cutB at hc
 have key : ∀ (L H : Int), (if 0 ≤ L ∧ L ≤ H ∧ H ≤ n then some (L.toNat, H.toNat) else none) = some (l, h) → 0 ≤ L ∧ L ≤ H ∧ H ≤ n ∧ l = L.toNat ∧ h = H.toNat := by
  intro L H hk
  split at hk
  ·rename_i hh
   injection hk with hk
   injection hk with h1 h2
   exact ⟨hh.1, hh.2.1, hh.2.2, h1.symm, h2.symm⟩
  ·cases hk
 cases lo with
 | none =>
  cases hi with
  | none =>
   simp only [Option.map_none] at hc
   obtain ⟨h1, h2, h3, rfl, rfl⟩ := key _ _ hc
   exact ⟨by omega, by omega, by simp [Instr.sliceBounds]⟩
  | some y =>
   simp only [Option.map_none, Option.map_some] at hc
   cases hy : ev st.t y with
   | int k H =>
    rw [hy] at hc
    obtain ⟨h1, h2, h3, rfl, rfl⟩ := key _ _ hc
    have hyv := hs.ev y
    rw [hy] at hyv
    have : H ≤ (cap : Int) := by omega
    have h0 : 0 ≤ H := by omega
    exact ⟨by omega, by omega, by simp [Instr.sliceBounds, Instr.sliceBound, hyv.int_inv, asIntOf, this, h0]⟩
   | _ => rw [hy] at hc; cases hc
 | some z =>
  cases hz : ev st.t z with
  | int k' L =>
   have hzv := hs.ev z
   rw [hz] at hzv
   cases hi with
   | none =>
    simp only [Option.map_none, Option.map_some, hz] at hc
    obtain ⟨h1, h2, h3, rfl, hh⟩ := key _ _ hc
    simp only [Int.toNat_natCast] at hh
    subst hh
    exact ⟨by omega, by omega, by simp [Instr.sliceBounds, Instr.sliceBound, hzv.int_inv, asIntOf, h1]; intro hlt; exfalso; omega⟩
   | some y =>
    simp only [Option.map_some, hz] at hc
    cases hy : ev st.t y with
    | int k H =>
     rw [hy] at hc
     obtain ⟨h1, h2, h3, rfl, rfl⟩ := key _ _ hc
     have hyv := hs.ev y
     rw [hy] at hyv
     have e1 : H ≤ (cap : Int) := by omega
     have h0 : 0 ≤ H := by omega
     exact ⟨by omega, by omega, by simp [Instr.sliceBounds, Instr.sliceBound, hyv.int_inv, hzv.int_inv, asIntOf, e1, h0, h1]; intro hlt; exfalso; omega⟩
    | _ => rw [hy] at hc; cases hc
  | _ => cases hi <;> (simp only [Option.map_some, Option.map_none, hz] at hc; cases hc)
theorem Rows.sub {S : Nat → Prop} {s : Nat} {xs : List V} {k o l h : Nat} (hr : Rows w S s xs k o) (hlh : l ≤ h) (hh : h ≤ xs.length) : Rows w S s ((xs.take h).drop l) k (o + l * s) := by
 obtain ⟨h1, g, h2, h3⟩ := hr
 refine ⟨fun x hx => h1 x (List.mem_of_mem_take (List.mem_of_mem_drop hx)), fun i j => g (l + i) j, fun i j hi hj => ?_, fun i x j u hx hu => ?_⟩
 ·rw [List.length_drop, List.length_take, Nat.min_eq_left hh] at hi
  have := h2 (l + i) j (by omega) hj
  rw [Nat.add_mul, ← Nat.add_assoc] at this
  exact this
 ·rw [List.getElem?_drop, List.getElem?_take] at hx
  split at hx
  ·exact h3 _ x j u hx hu
  ·cases hx
theorem TrRows.sub {N : Nat → Prop} {s : Nat} {xs : List V} {k o l h : Nat} (hr : TrRows w N s xs k o) (hh : h ≤ xs.length) : TrRows w N s ((xs.take h).drop l) k (o + l * s) := by
 obtain ⟨g, T, h2, h3, h4, h5⟩ := hr
 refine ⟨fun i j => g (l + i) j, fun i j => T (l + i) j, fun i j hi hj => ?_, fun i x j u hx hu => ?_, fun i j i' j' m h1 h2 => ?_, fun i j m hm => h5 _ _ m hm⟩
 ·rw [List.length_drop, List.length_take, Nat.min_eq_left hh] at hi
  have := h2 (l + i) j (by omega) hj
  rw [Nat.add_mul, ← Nat.add_assoc] at this
  exact this
 ·rw [List.getElem?_drop, List.getElem?_take] at hx
  split at hx
  ·exact h3 _ x j u hx hu
  ·cases hx
 ·obtain ⟨e1, e2⟩ := h4 _ _ _ _ m h1 h2
  exact ⟨by omega, e2⟩
theorem Uq_sub {q : Q} {b s : Nat} {xs : List V} {k o l h : Nat} (hu : Γ.Uq w q b s xs k o) (hh : h ≤ xs.length) : Γ.Uq w q b s ((xs.take h).drop l) k (o + l * s) := fun hq hU => (hu hq hU).sub hh
theorem flatOk.sub {q : Q} {xs : List V} {l h : Nat} (hq : flatOk q xs) : flatOk q ((xs.take h).drop l) := fun e x hx => hq e x (List.mem_of_mem_take (List.mem_of_mem_drop hx))
theorem len_sub {α : Type} {xs : List α} {l h : Nat} (hh : h ≤ xs.length) : ((xs.take h).drop l).length = h - l := by rw [List.length_drop, List.length_take, Nat.min_eq_left hh]
theorem view_of {b s : Nat} {q : Q} {xs : List V} {o cap l h : Nat} (hb : Γ.has b) (hl : xs.length ≤ cap) (hfit : o + cap * s ≤ Γ.off b + Γ.cap b * Γ.sz b)
  (hr : Rows w (Γ.Sq q) s xs (Γ.blk b) o) (hq : flatOk q xs) (hu : Γ.Uq w q b s xs (Γ.blk b) o) (hlh : l ≤ h) (hh : h ≤ xs.length) :
  VR Γ w (.view b s q ((xs.take h).drop l)) (.slice (if cap = l then some ⟨Γ.blk b, o, none⟩ else some ⟨Γ.blk b, o + l * s, none⟩) (h - l) (cap - l)) := by
 by_cases h0 : l = h
 ·subst h0
  have : (xs.take l).drop l = [] := by rw [List.drop_eq_nil_iff, List.length_take]; omega
  rw [this, Nat.sub_self]
  exact .view0 _ _ _ _ _
 ·rw [if_neg (by omega)]
  have e := len_sub (l := l) hh
  have := VR.view (Γ := Γ) (w := w) b s q ((xs.take h).drop l) (o + l * s) (cap - l) hb (by omega) (by omega) (by
   have : l * s + (cap - l) * s = cap * s := by rw [← Nat.add_mul]; congr 1; omega
   omega) (hr.sub hlh hh) hq.sub (Uq_sub hu hh)
  rwa [e] at this
theorem pure_slice (hA : Agree P c) (hs : Sim Γ st a w) {o : Oper} {t : TypeId} {x : Operand} {lo hi mx : Option Operand} {v : V} (ho : o.op = .slice t x lo hi mx) (h : valOp c den (ev st.t) η d o.op = some (.val v)) : PureOk P Γ a w o v := by
 rw [ho] at h
 cases mx with
 | some m => simp only [valOp] at h; cases h
 | none =>
  simp only [valOp, plain] at h
  split at h
  ·rename_i i ht
   obtain ⟨ti, ai⟩ := hA _ _ ht
   have hxv := hs.ev x
   split at h
   ·rename_i hd
    split at h
    ·rename_i s hx
     rw [hx] at hxv
     obtain ⟨y, e, hy⟩ := hxv.str_inv
     split at h
     ·rename_i l k hc
      simp only [Option.some.injEq, Out.val.injEq] at h
      subst h
      obtain ⟨h1, h2, h3⟩ := cutB_ok (P := P) (hs := hs) hc (Nat.le_refl _) false s.length (Nat.le_refl _)
      refine ⟨.string (y.extract l k), by simp [execOp, ho, e, Instr.sliceAt, Instr.slice, run_underlying (ai.str hd), size_str hy, h3], .rd _ _ (.str _ _ ?_)⟩
      subst hy
      rw [ByteArray.data_extract, Array.toList_extract]
      simp [List.extract, List.drop_take]
     ·cases h
    ·cases h
   ·rename_i e hd
    split at h
    ·rename_i j hj
     obtain ⟨tj, aj⟩ := hA _ _ hj
     split at h
     ·rename_i u hu
      simp only [Option.some.injEq, Out.val.injEq] at h
      subst h
      have hadd : ∀ k o' n, (⟨k, o', none⟩ : Addr).add n = ⟨k, o' + n, none⟩ := by intro k o' n; unfold Addr.add; split <;> simp_all
      have hrun : ∀ (ad : Option Addr) (len cap l k : Nat), a.eval x = .slice ad len cap → (Instr.sliceBounds true len cap (lo.map a.eval) (hi.map a.eval) none).run P w = .ok (l, k, cap) w →
        (execOp a.eval o).run P w = .ok (.value (.slice (if cap = l then ad else ad.map (·.add (l * j.size))) (k - l) (cap - l))) w := by
       intro ad len cap l k e h3
       simp [execOp, ho, e, Instr.sliceAt, Instr.slice, run_underlying (ai.slice _ hd), h3, sizeOf, typeInfo, aj.info, aj.size]
      cases hv : ev st.t x with
      | nil =>
       rw [hv] at hxv hu
       simp only [cut] at hu
       split at hu
       ·rename_i lk hc
        obtain ⟨l, k⟩ := lk
        injection hu with hu
        subst hu
        obtain ⟨h1, h2, h3⟩ := cutB_ok (P := P) (hs := hs) hc (Nat.le_refl _) true 0 (Nat.le_refl _)
        obtain rfl : k = 0 := by omega
        obtain rfl : l = 0 := by omega
        exact ⟨_, hrun _ _ _ _ _ hxv.nil_inv h3, by simp; exact .rd _ _ .nil⟩
       ·cases hu
      | sl s f xs =>
       rw [hv] at hxv hu
       simp only [cut] at hu
       split at hu
       ·rename_i hs'
        subst hs'
        split at hu
        ·rename_i l k hc
         injection hu with hu
         subst hu
         have hr := hxv.sl_inv
         generalize hex : a.eval x = ex at hr
         cases hr with
         | empty _ _ ad cap =>
          obtain ⟨h1, h2, h3⟩ := cutB_ok (P := P) (hs := hs) hc (Nat.le_refl _) true cap (Nat.zero_le _)
          simp only [List.length_nil] at h2 h3
          obtain rfl : k = 0 := by omega
          obtain rfl : l = 0 := by omega
          exact ⟨_, hrun _ _ _ _ _ hex h3, by simpa using VR.rd _ _ (Rd.empty _ _ _ _)⟩
         | sl _ _ _ kk o' cap g hl hcap hS hsz hf hg hr =>
          obtain ⟨h1, h2, h3⟩ := cutB_ok (P := P) (hs := hs) hc (Nat.le_refl _) true cap hcap
          refine ⟨_, hrun _ _ _ _ _ hex h3, ?_⟩
          simp only [Option.map_some, hadd]
          by_cases h0 : l = k
          ·subst h0
           have : (xs.take l).drop l = [] := by rw [List.drop_eq_nil_iff, List.length_take]; omega
           rw [this, Nat.sub_self]
           exact .rd _ _ (.empty _ _ _ _)
          ·rw [if_neg (by omega)]
           have e := len_sub (l := l) h2
           obtain ⟨r1, r2, r3, r4⟩ := Rows.sub (w := w) (S := Γ.S) ⟨hsz, g, hg, hr⟩ h1 h2
           have := Rd.sl (w := w) (S := Γ.S) j.size f ((xs.take k).drop l) kk (o' + l * j.size) (cap - l) r2 (by omega) (by omega) hS r1 (fun e x hx => hf e x (List.mem_of_mem_take (List.mem_of_mem_drop hx))) r3 r4
           rw [e] at this
           exact .rd _ _ this
        ·cases hu
       ·cases hu
      | own b s q xs =>
       rw [hv] at hxv hu
       simp only [cut] at hu
       split at hu
       ·rename_i hs'
        subst hs'
        split at hu
        ·rename_i l k hc
         injection hu with hu
         subst hu
         rcases hxv.own_inv with ⟨e, e2, _⟩ | ⟨e, hb, e1, hl, hr, hq⟩
         ·subst e2
          obtain ⟨h1, h2, h3⟩ := cutB_ok (P := P) (hs := hs) hc (Nat.le_refl _) true 0 (Nat.le_refl _)
          simp only [List.length_nil] at h2 h3
          obtain rfl : k = 0 := by omega
          obtain rfl : l = 0 := by omega
          exact ⟨_, hrun _ _ _ _ _ e h3, by simpa using VR.view0 _ _ _ _ _⟩
         ·obtain ⟨h1, h2, h3⟩ := cutB_ok (P := P) (hs := hs) hc (Nat.le_refl _) true (Γ.cap b) hl.1
          refine ⟨_, hrun _ _ _ _ _ e h3, ?_⟩
          simp only [Option.map_some, hadd]
          exact view_of hb hl.1 (by rw [e1]; exact Nat.le_refl _) hr hq hxv.own_uq h1 h2
        ·cases hu
       ·cases hu
      | view b s q xs =>
       rw [hv] at hxv hu
       simp only [cut] at hu
       split at hu
       ·rename_i hs'
        subst hs'
        split at hu
        ·rename_i l k hc
         injection hu with hu
         subst hu
         rcases hxv.view_inv with ⟨ad, cap, e, e2⟩ | ⟨o', cap, e, hb, _, hl, hfit, hr, hq⟩
         ·subst e2
          obtain ⟨h1, h2, h3⟩ := cutB_ok (P := P) (hs := hs) hc (Nat.le_refl _) true cap (Nat.zero_le _)
          simp only [List.length_nil] at h2 h3
          obtain rfl : k = 0 := by omega
          obtain rfl : l = 0 := by omega
          exact ⟨_, hrun _ _ _ _ _ e h3, by simpa using VR.view0 _ _ _ _ _⟩
         ·obtain ⟨h1, h2, h3⟩ := cutB_ok (P := P) (hs := hs) hc (Nat.le_refl _) true cap hl
          refine ⟨_, hrun _ _ _ _ _ e h3, ?_⟩
          simp only [Option.map_some, hadd]
          exact view_of hb hl hfit hr hq (by rw [e] at hxv; exact hxv.view_uq) h1 h2
        ·cases hu
       ·cases hu
      | _ => rw [hv] at hu; cases hu
     ·cases h
    ·cases h
   ·cases h
  ·cases h
theorem over_len {cs new cs' : List V} {off : Nat} (h : over cs off new = some cs') : cs'.length = cs.length ∧ off + new.length ≤ cs.length := by
 unfold over at h
 split at h
 ·rename_i hle
  injection h with h
  subst h
  simp; omega
 ·cases h
theorem over_get {cs new cs' : List V} {off : Nat} (h : over cs off new = some cs') (j : Nat) : cs'[j]? = if off ≤ j ∧ j < off + new.length then new[j - off]? else cs[j]? := by
 unfold over at h
 split at h
 ·rename_i hle
  injection h with h
  subst h
  rw [List.append_assoc, List.getElem?_append, List.length_take, Nat.min_eq_left (by omega)]
  split
  ·rename_i h1
   rw [List.getElem?_take, if_pos h1, if_neg (by omega)]
  ·rename_i h1
   rw [List.getElem?_append]
   split
   ·rename_i h2
    rw [if_pos (by omega)]
   ·rename_i h2
    rw [List.getElem?_drop, if_neg (by omega)]
    congr 1
    omega
 ·cases h
theorem set_fold (off : Nat) : ∀ (l : List (Value × Nat)) (vs : Array Value), (l.foldl (fun (cs : Array Value) (q : Value × Nat) => cs.setIfInBounds (off + q.2) q.1) vs).size = vs.size := by
 intro l
 induction l with
 | nil => intro vs; rfl
 | cons q l ih => intro vs; rw [List.foldl_cons, ih]; simp
theorem set_get (off : Nat) : ∀ (l : List Value) (n : Nat) (vs : Array Value), off + n + l.length ≤ vs.size → ∀ j : Nat,
  ((l.zipIdx n).foldl (fun (cs : Array Value) (q : Value × Nat) => cs.setIfInBounds (off + q.2) q.1) vs)[j]? = if off + n ≤ j ∧ j < off + n + l.length then l[j - (off + n)]? else vs[j]? := by
 intro l
 induction l with
 | nil =>
  intro n vs _ j
  rw [if_neg (by simp)]
  rfl
 | cons v l ih =>
  intro n vs h j
  rw [List.zipIdx_cons, List.foldl_cons, ih (n + 1) _ (by simp at h ⊢; omega)]
  by_cases hj : j = off + n
  ·subst hj
   rw [if_neg (by omega), if_pos (by simp)]
   simp at h
   simp [Array.getElem?_setIfInBounds]
   omega
  ·by_cases h1 : off + (n + 1) ≤ j ∧ j < off + (n + 1) + l.length
   ·rw [if_pos h1, if_pos (by simp; omega)]
    have : j - (off + n) = (j - (off + (n + 1))) + 1 := by omega
    rw [this, List.getElem?_cons_succ]
   ·rw [if_neg h1, if_neg (by simp; omega)]
    simp only [Array.getElem?_setIfInBounds]
    rw [if_neg (by omega)]
theorem fill_ok (hs : Sim Γ st a w) (place : Nat → Option (Nat × Nat)) (place' : Nat → Option (Nat × Nat)) (hp : ∀ i p, place i = some p → place' i = some p) : ∀ (ps : List (Nat × Operand)) (cs cs' : List V) (vs : Array Value),
  cs.length = vs.size → (∀ (j : Nat) (u : V) (y : Value), cs[j]? = some u → vs[j]? = some y → VR Γ w u y) →
  fillV place cs (ps.map fun p => (p.1, ev st.t p.2)) = some cs' → ∃ vs', Instr.fill place' vs (ps.map fun p => (p.1, a.eval p.2)) = some vs' ∧ cs'.length = vs'.size ∧ ∀ (j : Nat) (u : V) (y : Value), cs'[j]? = some u → vs'[j]? = some y → VR Γ w u y := by
 intro ps
 induction ps with
 | nil =>
  intro cs cs' vs hl hr h
  simp only [List.map_nil, fillV, Option.some.injEq] at h
  subst h
  exact ⟨vs, rfl, hl, hr⟩
 | cons p ps ih =>
  intro cs cs' vs hl hr h
  obtain ⟨i, x⟩ := p
  simp only [List.map_cons, fillV] at h
  cases hpl : place i with
  | none => rw [hpl] at h; cases h
  | some os =>
   obtain ⟨off, size⟩ := os
   rw [hpl] at h
   simp only at h
   split at h
   ·rename_i hsize
    obtain ⟨hsize, hdef⟩ := hsize
    cases ho : over cs off (ev st.t x).cells with
    | none => rw [ho] at h; cases h
    | some cs1 =>
     rw [ho] at h
     simp only at h
     obtain ⟨l1, l2⟩ := over_len ho
     have hx := hs.ev x
     have hcl := hx.cellLen hdef
     have hcell := hx.cells hcl
     have hget := set_get off (a.eval x).cells.toList 0 vs (by simp; omega)
     have hsz := set_fold off ((a.eval x).cells.toList.zipIdx 0) vs
     generalize he : ((a.eval x).cells.toList.zipIdx 0).foldl (fun (cs : Array Value) (q : Value × Nat) => cs.setIfInBounds (off + q.2) q.1) vs = vs1 at hget hsz
     have := ih cs1 cs' vs1 (by omega) (fun j u y hu hy => by
      rw [over_get ho] at hu
      rw [hget] at hy
      simp only [Nat.add_zero, Array.length_toList, Array.getElem?_toList] at hy
      rw [← hcl] at hy
      split at hu
      ·rename_i hj
       rw [if_pos hj] at hy
       obtain ⟨z, hz, hv⟩ := hcell _ _ hu
       rw [hz] at hy
       injection hy with hy
       subst hy
       exact hv
      ·rename_i hj
       rw [if_neg hj] at hy
       exact hr j u y hu hy) h
     obtain ⟨vs', f1, f2, f3⟩ := this
     refine ⟨vs', ?_, f2, f3⟩
     simp only [List.map_cons, Instr.fill, hp _ _ hpl]
     rw [if_neg (by simp; omega)]
     rw [← f1, ← he]
     congr 1
     rw [← Array.foldl_toList]
     simp
   ·cases h
theorem run_places (P : Program) (w : World) : ∀ (fl : List Field), (∀ f ∈ fl, ∃ tj, P.info? f.type = some tj) →
    (fl.mapM fun f => (do pure (f.offset, ← sizeOf f.type) : Sem (Nat × Nat))).run P w = .ok (fl.map fun f => (f.offset, ((P.info? f.type).map (·.size)).getD 0)) w := by
  intro fl
  induction fl with
  | nil => intro _; simp
  | cons f fl ih =>
    intro h
    obtain ⟨tj, hj⟩ := h f (by simp)
    rw [List.mapM_cons]
    simp only [Sem.run_bind, sizeOf, typeInfo, run_program, Result.andThen_ok, hj, Sem.run_pure]
    have := ih (fun g hg => h g (by simp [hg]))
    simp only [sizeOf, typeInfo] at this
    rw [this]
    simp [hj]
theorem pure_build (hA : Agree P c) (hs : Sim Γ st a w) {o : Oper} {t : TypeId} {ps : Array (Nat × Operand)} {v : V} (ho : o.op = .build t ps) (h : valOp c den (ev st.t) η d o.op = some (.val v)) : PureOk P Γ a w o v := by
 rw [ho] at h
 simp only [valOp, plain] at h
 split at h
 ·rename_i i ht
  split at h
  case isFalse => cases h
  rename_i hlays
  split at h
  ·rename_i cs hf
   simp only [Option.some.injEq, Out.val.injEq] at h
   subst h
   obtain ⟨ti, ai⟩ := hA _ _ ht
   obtain ⟨z, hz, hz1, hz2, hz3, hz4⟩ := ai.zero
   have hzc : ∀ (j : Nat) (u : V) (y : Value), i.zero.cells[j]? = some u → z.cells[j]? = some y → VR Γ w u y := by
    intro j u y hu hy
    obtain ⟨y', h1, h2⟩ := hz4 j u hu
    rw [hy] at h1
    injection h1 with h1
    subst h1
    exact .rd _ _ (h2 w Γ.S)
   have e2 : (ps.map fun (i, x) => (i, a.eval x)).toList = ps.toList.map fun p => (p.1, a.eval p.2) := by simp
   cases hd : i.d with
   | struct fs =>
    obtain ⟨fields, hfs, hmap, hinf⟩ := ai.struct fs hd
    rw [hd] at hf
    have hpl : ∀ k p, c.place (.struct fs) k = some p → (fields.toList.map fun f => (f.offset, ((P.info? f.type).map (·.size)).getD 0))[k]? = some p := by
     intro k p hk
     simp only [Cfg.place] at hk
     cases hk' : fs[k]? with
     | none => rw [hk'] at hk; cases hk
     | some ot =>
      obtain ⟨o', t'⟩ := ot
      rw [hk'] at hk
      simp only at hk
      cases hj : c.ty t' with
      | none => rw [hj] at hk; cases hk
      | some j =>
       rw [hj] at hk
       simp only [Option.map_some, Option.some.injEq] at hk
       subst hk
       obtain ⟨tj, aj⟩ := hA _ _ hj
       rw [← hmap, List.getElem?_map] at hk'
       rw [List.getElem?_map]
       cases hq : fields.toList[k]? with
       | none => rw [hq] at hk'; cases hk'
       | some fl =>
        rw [hq] at hk'
        simp only [Option.map_some, Option.some.injEq, Prod.mk.injEq] at hk'
        obtain ⟨rfl, rfl⟩ := hk'
        simp [aj.info, aj.size]
    obtain ⟨vs', f1, f2, f3⟩ := fill_ok hs (c.place (.struct fs)) (fun k => (fields.toList.map fun f => (f.offset, ((P.info? f.type).map (·.size)).getD 0))[k]?) hpl ps.toList i.zero.cells cs z.cells (by rw [← hz2]; simp) hzc hf
    have hmm := run_places P w fields.toList hinf
    refine ⟨.agg vs', ?_, .agg _ _ f2 f3⟩
    simp only [execOp, ho, Instr.build, Sem.run_bind, zeroValue, typeInfo, run_program, Result.andThen_ok, ai.info, Sem.run_pure, hz, run_underlying hfs]
    rw [Array.mapM_eq_mapM_toList]
    simp only [Sem.run_map, hmm, Result.andThen_ok]
    rw [e2]
    have : (fun x : Nat => (List.map (fun f => (f.offset, (Option.map (fun x => x.size) (P.info? f.type)).getD 0)) fields.toList).toArray[x]?) = fun k => (fields.toList.map fun f => (f.offset, ((P.info? f.type).map (·.size)).getD 0))[k]? := by
     funext k; simp
    rw [this, f1]
    rfl
   | array n e =>
    rw [hd] at hf
    have hu := ai.array n e hd
    cases hj : c.ty e with
    | none => rw [hd] at hlays; simp [Cfg.lays, hj] at hlays
    | some j =>
     obtain ⟨tj, aj⟩ := hA _ _ hj
     have hpl : ∀ k p, c.place (.array n e) k = some p → some (k * j.size, j.size) = some p := by
      intro k p hk
      simp only [Cfg.place, hj, Option.map_some] at hk
      exact hk
     obtain ⟨vs', f1, f2, f3⟩ := fill_ok hs (c.place (.array n e)) (fun k => some (k * j.size, j.size)) hpl ps.toList i.zero.cells cs z.cells (by rw [← hz2]; simp) hzc hf
     refine ⟨.agg vs', ?_, .agg _ _ f2 f3⟩
     simp only [execOp, ho, Instr.build, Sem.run_bind, zeroValue, typeInfo, run_program, Result.andThen_ok, ai.info, Sem.run_pure, hz, run_underlying hu, sizeOf, aj.info, aj.size]
     rw [e2, f1]
     rfl
   | _ => rw [hd] at hlays; cases hlays
  ·cases h
 ·cases h
end
end Go.Am
end
section
set_option linter.unusedVariables false
set_option linter.unusedSimpArgs false
namespace Go.Am
open Go Go.RowKit
section
variable {P : Program} {c : Cfg} {Γ : Ctx} {st : St} {a : Act} {w : World} {den : Nat → List V → Option V} {η : Nat → Option V} {d : Nat}
theorem heap_alloc_lt (w : World) (o : Obj) {k : Nat} (h : k < w.heap.size) : (w.alloc o).heap[k]? = w.heap[k]? := Below.heap_alloc w o k h
theorem heap_alloc_eq (w : World) (o : Obj) : (w.alloc o).heap[w.heap.size]? = some o := by
 show (w.heap.push o)[w.heap.size]? = _
 simp
theorem size_alloc (w : World) (o : Obj) : (w.alloc o).heap.size = w.heap.size + 1 := by
 show (w.heap.push o).size = _
 simp
theorem Sim.extend {Γ' : Ctx} {w' : World} {p : Nat → Bool} {v : V} {x : Value} {esc : List Nat} {m : Bool} (hs : Sim Γ st a w) (hw : ∀ k, k < w.heap.size → w'.heap[k]? = w.heap[k]?)
  (hU : Γ'.U → Γ.U) (hS : ∀ k, Γ.S k → Γ'.S k) (hF : ∀ k, Γ.Z k → Γ'.Z k)
  (hb : ∀ b, p b = false → (Γ'.has b ↔ Γ.has b) ∧ (Γ.has b → Γ'.blk b = Γ.blk b ∧ Γ'.off b = Γ.off b ∧ Γ'.cap b = Γ.cap b ∧ Γ'.sz b = Γ.sz b ∧ Γ'.ln b = Γ.ln b ∧ ∀ m, Γ.N b m → Γ'.N b m))
  (hl : ∀ k, Γ.lb k → Γ'.lb k) (hx : ∀ k, Γ'.box k = Γ.box k)
  (hp : ∀ (i : Nat) (u : V), i ≠ d → st.t[i]? = some u → u.anyB p = false) (hp' : ∀ (i : Nat) (u : V), st.h[i]? = some (some u) → u.anyB p = false)
  (hg : Good Γ' w') (hn : ∀ b, Γ'.has b → esc.contains b = false → st.dead b = false → ¬ Γ'.S (Γ'.blk b))
  (hdu : st.dup = false → m = false → Γ'.U)
  (hnd : Γ'.U → ∀ b b', Γ'.has b → Γ'.has b' → esc.contains b = false → st.dead b = false → esc.contains b' = false → st.dead b' = false → b ≠ b' → ∀ m, Γ'.N b m → Γ'.N b' m → False) (hv : VR Γ' w' v x) :
  Sim Γ' ((({ st with t := st.t.set d v } : St).kill esc).mark m) (a.put (some d) x) w' := by
 have hcell : ∀ k, k < w.heap.size → ∀ o, w'.cell? ⟨k, o, none⟩ = w.cell? ⟨k, o, none⟩ := fun k hk o => cell?_of_heap (hw k hk) o
 have hmono : ∀ {u : V} {y : Value}, VR Γ w u y → u.anyB p = false → VR Γ' w' u y := by
  intro u y hu hup
  refine VR.mono (p := p) (r := fun _ => false) hU hS hF (fun k hk => hcell k (hs.good.slt k hk)) (fun b hb' => ?_) (fun k _ => ⟨hl k, hx k⟩) hu hup ?_
  ·obtain ⟨e1, e2⟩ := hb b hb'
   exact ⟨e1, fun hh => ⟨(e2 hh).1, (e2 hh).2.1, (e2 hh).2.2.1, (e2 hh).2.2.2.1, (e2 hh).2.2.2.2.1, (e2 hh).2.2.2.2.2, fun o => hcell _ (hs.good.base b hh).2.1 o⟩⟩
  ·clear hu hup hv hn hg
   have : ∀ u : V, u.anyP (fun _ => false) = false := by
    intro u
    exact V.rec (motive_1 := fun u => u.anyP (fun _ => false) = false) (motive_2 := fun l => V.anyPs (fun _ => false) l = false)
     rfl (fun _ => rfl) (fun _ _ => rfl) (fun _ => rfl) rfl (fun _ _ _ _ => rfl) (fun _ _ _ _ _ => rfl) (fun _ _ _ _ _ => rfl) (fun _ _ => rfl) (fun _ _ _ _ _ _ _ => rfl) (fun _ _ _ _ => rfl) (fun _ _ _ => rfl)
     (fun _ h => h) (fun _ h => h) (fun _ _ h => h) rfl (fun _ _ h1 h2 => by rw [V.anyPs, h1, h2]; rfl) u
   exact this u
 refine ⟨hg, hs.dz, by simp [Act.put, St.kill, St.mark, hs.len], fun i u hu => ?_, fun k u hu => ?_, fun b h1 h2 => ?_, fun h => ?du, fun hU b b' h1 h1' h2 h2' => ?nd⟩
 case du =>
  simp only [St.kill, St.mark, Bool.or_eq_false_iff] at h
  exact hdu h.2 h.1
 case nd =>
  simp only [St.kill, St.mark, Bool.or_eq_false_iff] at h2 h2'
  exact hnd hU b b' h1 h1' h2.1 h2.2 h2'.1 h2'.2
 ·simp only [St.kill, St.mark, Act.put] at hu ⊢
  rw [List.getElem?_set] at hu
  split at hu
  ·rename_i hid
   subst hid
   split at hu
   ·rename_i hlt
    injection hu with hu
    subst hu
    exact ⟨x, by rw [Array.getElem?_setIfInBounds]; simp [hs.len, hlt], hv⟩
   ·cases hu
  ·rename_i hid
   obtain ⟨y, hy, h⟩ := hs.tm i u hu
   exact ⟨y, by rw [Array.getElem?_setIfInBounds]; simp [hid, hy], hmono h (hp i u (fun e => hid e.symm) hu)⟩
 ·simp only [St.kill, St.mark] at hu
  obtain ⟨h1, cur, e, h2, h3, h4⟩ := hs.bx k u hu
  refine ⟨hl k h1, cur, e, ?_, h3, fun j z hz => ?_⟩
  ·rw [hx, hw _ (hs.good.box k h1).2.2]; exact h2
  ·obtain ⟨y, e1, e3⟩ := h4 j z hz
   refine ⟨y, e1, hmono e3 ?_⟩
   have hup := hp' k u hu
   cases u with
   | agg cs => exact anyBs_mem hup z (mem_of_get hz)
   | _ =>
    obtain rfl : j = 0 := by
     cases j with
     | zero => rfl
     | succ j => simp [V.cells] at hz
    simp only [V.cells, List.getElem?_cons_zero, Option.some.injEq] at hz
    subst hz
    exact hup
 ·simp only [St.kill, St.mark, Bool.or_eq_false_iff] at h2
  exact hn b h1 h2.1 h2.2
theorem anyP_false (u : V) : u.anyP (fun _ => false) = false :=
 V.rec (motive_1 := fun u => u.anyP (fun _ => false) = false) (motive_2 := fun l => V.anyPs (fun _ => false) l = false)
  rfl (fun _ => rfl) (fun _ _ => rfl) (fun _ => rfl) rfl (fun _ _ _ _ => rfl) (fun _ _ _ _ _ => rfl) (fun _ _ _ _ _ => rfl) (fun _ _ => rfl) (fun _ _ _ _ _ _ _ => rfl) (fun _ _ _ _ => rfl) (fun _ _ _ => rfl)
  (fun _ h => h) (fun _ h => h) (fun _ _ h => h) rfl (fun _ _ h1 h2 => by rw [V.anyPs, h1, h2]; rfl) u
theorem anyB_false (u : V) : u.anyB (fun _ => false) = false :=
 V.rec (motive_1 := fun u => u.anyB (fun _ => false) = false) (motive_2 := fun l => V.anyBs (fun _ => false) l = false)
  rfl (fun _ => rfl) (fun _ _ => rfl) (fun _ => rfl) rfl (fun _ _ _ _ => rfl) (fun _ _ _ _ _ => rfl) (fun _ _ _ _ _ => rfl) (fun _ _ => rfl) (fun _ _ _ _ _ _ _ => rfl) (fun _ _ _ _ => rfl) (fun _ _ _ => rfl)
  (fun _ h => h) (fun _ h => h) (fun _ _ h => h) rfl (fun _ _ h1 h2 => by rw [V.anyBs, h1, h2]; rfl) u
theorem anyBo_mem {p : Nat → Bool} : ∀ {l : List (Option V)}, anyBo p l = false → ∀ u, some u ∈ l → u.anyB p = false := by
  intro l
  induction l with
  | nil => intro _ u hu; cases hu
  | cons x l ih =>
    intro h u hu
    cases x with
    | none => rcases List.mem_cons.1 hu with e | hu
              · cases e
              · exact ih h u hu
    | some y =>
      rw [anyBo, Bool.or_eq_false_iff] at h
      rcases List.mem_cons.1 hu with e | hu
      · injection e with e; subst e; exact h.1
      · exact ih h.2 u hu
theorem anyPo_mem {p : Nat → Bool} : ∀ {l : List (Option V)}, anyPo p l = false → ∀ u, some u ∈ l → u.anyP p = false := by
  intro l
  induction l with
  | nil => intro _ u hu; cases hu
  | cons x l ih =>
    intro h u hu
    cases x with
    | none => rcases List.mem_cons.1 hu with e | hu
              · cases e
              · exact ih h u hu
    | some y =>
      rw [anyPo, Bool.or_eq_false_iff] at h
      rcases List.mem_cons.1 hu with e | hu
      · injection e with e; subst e; exact h.1
      · exact ih h.2 u hu
theorem freeD_t (h : st.freeD d = true) (i : Nat) (u : V) (hi : i ≠ d) (hu : st.t[i]? = some u) : u.anyB (fun b => b / 1000 == d) = false := by
 unfold St.freeD at h
 rw [Bool.and_eq_true, Bool.not_eq_true', Bool.not_eq_true'] at h
 exact anyBs_mem h.1 u (mem_of_get (i := i) (by rw [List.getElem?_set, if_neg (fun e => hi e.symm)]; exact hu))
theorem freeD_h (h : st.freeD d = true) (i : Nat) (u : V) (hu : st.h[i]? = some (some u)) : u.anyB (fun b => b / 1000 == d) = false := by
 unfold St.freeD at h
 rw [Bool.and_eq_true, Bool.not_eq_true', Bool.not_eq_true'] at h
 exact anyBo_mem h.2 u (mem_of_get hu)
theorem freeP_t (h : st.freeP d = true) (i : Nat) (u : V) (hi : i ≠ d) (hu : st.t[i]? = some u) : u.anyP (fun b => b == d) = false := by
 unfold St.freeP at h
 rw [Bool.and_eq_true, Bool.not_eq_true', Bool.not_eq_true'] at h
 exact anyPs_mem h.1 u (mem_of_get (i := i) (by rw [List.getElem?_set, if_neg (fun e => hi e.symm)]; exact hu))
theorem freeP_h (h : st.freeP d = true) (i : Nat) (u : V) (hu : st.h[i]? = some (some u)) : u.anyP (fun b => b == d) = false := by
 unfold St.freeP at h
 rw [Bool.and_eq_true, Bool.not_eq_true', Bool.not_eq_true'] at h
 exact anyPo_mem h.2 u (mem_of_get hu)
theorem cells_anyP {p : Nat → Bool} {u z : V} {j : Nat} (h : u.anyP p = false) (hz : u.cells[j]? = some z) : z.anyP p = false := by
 cases u with
 | agg cs => exact anyPs_mem h z (mem_of_get hz)
 | _ =>
  obtain rfl : j = 0 := by
   cases j with
   | zero => rfl
   | succ j => simp [V.cells] at hz
  simp only [V.cells, List.getElem?_cons_zero, Option.some.injEq] at hz
  subst hz
  exact h
theorem Sim.newBox {r : V} {cs : Array Value} {e : TypeId} (hs : Sim Γ st a w) (hd : d < st.h.length) (hf : st.freeP d = true) (hn : (st.h.getD d none).isNone = true)
  (hl : r.cells.length = cs.size) (hr : ∀ (j : Nat) (u : V), r.cells[j]? = some u → ∃ y, cs[j]? = some y ∧ VR Γ w u y) (hrp : r.anyP (fun b => b == d) = false) :
  Sims Γ { st with t := st.t.set d (.ptr d 0), h := st.h.set d (some r) } (a.put (some d) (.pointer (some ⟨w.heap.size, 0, none⟩))) (w.alloc (.cells cs e)) := by
 let Γ' : Ctx := { Γ with lb := fun k => Γ.lb k ∧ k ≠ d ∨ k = d, box := fun k => if k = d then w.heap.size else Γ.box k }
 refine ⟨Γ', ⟨rfl, rfl, rfl⟩, ?_⟩
 have hcell : ∀ k, k < w.heap.size → ∀ o, (w.alloc (.cells cs e)).cell? ⟨k, o, none⟩ = w.cell? ⟨k, o, none⟩ := fun k hk o => cell?_of_heap (heap_alloc_lt w _ hk) o
 have hmono : ∀ {u : V} {y : Value}, VR Γ w u y → u.anyP (fun b => b == d) = false → VR Γ' (w.alloc (.cells cs e)) u y := by
  intro u y hu hup
  refine VR.mono (Γ := Γ) (Γ' := Γ') (p := fun _ => false) (r := fun b => b == d) (fun h => h) (fun _ h => h) (fun _ h => h) (fun k hk => hcell k (hs.good.slt k hk)) (fun b _ => ⟨Iff.rfl, fun hh => ⟨rfl, rfl, rfl, rfl, rfl, fun _ h => h, fun o => hcell _ (hs.good.base b hh).2.1 o⟩⟩) (fun k hk => ?_) hu (anyB_false u) hup
  have hk : k ≠ d := by simpa using hk
  exact ⟨fun h => .inl ⟨h, hk⟩, if_neg hk⟩
 have g := hs.good
 have hsz := size_alloc w (.cells cs e)
 have hgood : Good Γ' (w.alloc (.cells cs e)) := by
  refine ⟨g.os, g.tape, g.output, Nat.le_trans g.size (by rw [hsz]; omega), fun k hk hF => ?_, g.new, fun k hk => ?_, fun b hb => ?_, g.baseInj, fun k hk => ?_, fun k k' hk hk' he => ?_, fun b k hb hk => ?_, g.sr, g.gl, g.bz, fun k hk => (let ⟨h1, h2, cur, e', h⟩ := g.zf k hk; ⟨h1, by rw [hsz]; omega, cur, e', (heap_alloc_lt w _ h2).trans h⟩), g.ns, g.h9⟩
  ·exact (heap_alloc_lt w _ (Nat.lt_of_lt_of_le hk g.size)).trans (g.old k hk hF)
  ·have := g.slt k hk; rw [hsz]; omega
  ·obtain ⟨h1, h2, h3, cur, e', h4, h5⟩ := g.base b hb
   exact ⟨h1, Nat.lt_of_lt_of_le h2 (by rw [hsz]; omega), h3, cur, e', (heap_alloc_lt w _ h2).trans h4, h5⟩
  ·by_cases hkd : k = d
   ·subst hkd
    show Γ.F (if k = k then _ else _) ∧ ¬ Γ.S (if k = k then _ else _) ∧ (if k = k then _ else _) < _
    rw [if_pos rfl, hsz]
    exact ⟨g.new _ g.size, fun h => by have := g.slt _ h; omega, by omega⟩
   ·rcases hk with ⟨hk, _⟩ | hk
    ·obtain ⟨h1, h2, h3⟩ := g.box k hk
     show Γ.F (if k = d then _ else _) ∧ ¬ Γ.S (if k = d then _ else _) ∧ (if k = d then _ else _) < _
     rw [if_neg hkd, hsz]
     exact ⟨h1, h2, by omega⟩
    ·exact absurd hk hkd
  ·change (if k = d then w.heap.size else Γ.box k) = (if k' = d then w.heap.size else Γ.box k') at he
   by_cases h1 : k = d
   ·by_cases h2 : k' = d
    ·rw [h1, h2]
    ·rcases hk' with ⟨hk', _⟩ | hk'
     ·rw [if_pos h1, if_neg h2] at he
      have := (g.box k' hk').2.2; omega
     ·exact absurd hk' h2
   ·rcases hk with ⟨hk, _⟩ | hk
    ·by_cases h2 : k' = d
     ·rw [if_neg h1, if_pos h2] at he
      have := (g.box k hk).2.2; omega
     ·rcases hk' with ⟨hk', _⟩ | hk'
      ·rw [if_neg h1, if_neg h2] at he
       exact g.boxInj k k' hk hk' he
      ·exact absurd hk' h2
    ·exact absurd hk h1
  ·show Γ.blk b ≠ (if k = d then w.heap.size else Γ.box k)
   by_cases h1 : k = d
   ·rw [if_pos h1]; have := (g.base b hb).2.1; omega
   ·rcases hk with ⟨hk, _⟩ | hk
    ·rw [if_neg h1]; exact g.baseBox b k hb hk
    ·exact absurd hk h1
 refine ⟨hgood, hs.dz, by simp [Act.put, hs.len], fun i u hu => ?_, fun k u hu => ?_, hs.nds, hs.du, hs.nd⟩
 ·simp only [Act.put] at hu ⊢
  rw [List.getElem?_set] at hu
  split at hu
  ·rename_i hid
   subst hid
   split at hu
   ·rename_i hlt
    injection hu with hu
    subst hu
    refine ⟨.pointer (some ⟨w.heap.size, 0, none⟩), by rw [Array.getElem?_setIfInBounds]; simp [hs.len, hlt], ?_⟩
    have := VR.ptr (Γ := Γ') (w := w.alloc (.cells cs e)) d 0 (.inr rfl)
    have e1 : Γ'.box d = w.heap.size := if_pos rfl
    rwa [e1] at this
   ·cases hu
  ·rename_i hid
   obtain ⟨y, hy, h⟩ := hs.tm i u hu
   exact ⟨y, by rw [Array.getElem?_setIfInBounds]; simp [hid, hy], hmono h (freeP_t hf i u (fun e => hid e.symm) hu)⟩
 ·simp only at hu
  rw [List.getElem?_set] at hu
  split at hu
  ·rename_i hkd
   subst hkd
   injection hu with hu
   injection hu with hu
   subst hu
   refine ⟨.inr rfl, cs, e, ?_, hl, fun j z hz => ?_⟩
   ·have e1 : Γ'.box d = w.heap.size := if_pos rfl
    rw [e1]; exact heap_alloc_eq w _
   ·obtain ⟨y, e1, e3⟩ := hr j z hz
    exact ⟨y, e1, hmono e3 (cells_anyP hrp hz)⟩
  ·rename_i hkd
   obtain ⟨h1, cur, e', h2, h3, h4⟩ := hs.bx k u hu
   have hkd' : k ≠ d := fun e => hkd e.symm
   refine ⟨.inl ⟨h1, hkd'⟩, cur, e', ?_, h3, fun j z hz => ?_⟩
   ·have e1 : Γ'.box k = Γ.box k := if_neg hkd'
    rw [e1]
    exact (heap_alloc_lt w _ (g.box k h1).2.2).trans h2
   ·obtain ⟨y, e1, e3⟩ := h4 j z hz
    exact ⟨y, e1, hmono e3 (cells_anyP (freeP_h hf k u hu) hz)⟩
def addS (Γ : Ctx) (esc : List Nat) : Nat → Prop := fun k => Γ.S k ∨ ∃ b, b ∈ esc ∧ Γ.has b ∧ k = Γ.blk b
theorem flat_ok {S' : Nat → Prop} {v u : V} {y : Value} (g : Good Γ w) (h : VR Γ w v y) (hf : flat v = some u) (hS : ∀ k, Γ.S k → S' k) (hb : ∀ b ∈ cellB v, Γ.has b → S' (Γ.blk b)) :
  Rd w S' u y ∧ y.oneCell' = true ∧ ((cellQ v).good = true → Rd w (fun k => S' k ∧ Γ.Z k) u y) ∧ (cellQ v = .flat → noSl u) := by
 cases v with
 | bool b =>
  simp only [flat, Option.some.injEq] at hf
  subst hf
  rw [h.bool_inv]
  exact ⟨.bool b, rfl, fun _ => .bool b, fun _ => trivial⟩
 | int k n =>
  simp only [flat, Option.some.injEq] at hf
  subst hf
  rw [h.int_inv]
  exact ⟨.int k n, rfl, fun _ => .int k n, fun _ => trivial⟩
 | str s =>
  simp only [flat, Option.some.injEq] at hf
  subst hf
  obtain ⟨z, rfl, hz⟩ := h.str_inv
  exact ⟨.str s z hz, rfl, fun _ => .str s z hz, fun _ => trivial⟩
 | nil =>
  simp only [flat, Option.some.injEq] at hf
  subst hf
  rw [h.nil_inv]
  exact ⟨.nil, rfl, fun _ => .nil, fun _ => trivial⟩
 | sl s f xs =>
  simp only [flat, Option.some.injEq] at hf
  subst hf
  have hr := h.sl_inv
  refine ⟨hr.mono hS (fun _ _ _ => rfl), ?_, fun e => (by cases e), fun e => (by cases e)⟩
  cases hr <;> rfl
 | own b s q xs =>
  simp only [flat, Option.some.injEq] at hf
  subst hf
  rcases h.own_inv with ⟨rfl, rfl, _⟩ | ⟨rfl, h1, h2, h3, ⟨r1, gg, r2, r3⟩, h5⟩
  ·exact ⟨.empty _ _ _ _, rfl, fun _ => .empty _ _ _ _, fun e => by cases q <;> cases e⟩
  ·have hk := hb b (by simp [cellB]) h1
   have hfl : q.isFlat = true → ∀ x ∈ xs, ∀ c ∈ x.cells, noSl c := by
    intro e; cases q <;> first | exact h5 rfl | cases e
   by_cases hx : xs = []
   ·subst hx
    exact ⟨.empty _ _ _ _, rfl, fun _ => .empty _ _ _ _, fun e => by cases q <;> cases e⟩
   ·have hx : 0 < xs.length := List.length_pos_iff.2 hx
    refine ⟨.sl s q.isFlat xs _ _ _ gg hx h3.1 hk r1 hfl r2 (fun i x j c e1 e2 => (r3 i x j c e1 e2).mono (fun k hk => hS k (Sq_le hk)) (fun _ _ _ => rfl)), rfl, fun e => ?_, fun e => by cases q <;> cases e⟩
    have hq : q.good = true := by
     cases q <;> first | rfl | cases e
    have hsq : ∀ k, Γ.Sq q k → Γ.S k ∧ Γ.Z k := by
     intro k hk
     cases q <;> first | exact hk | cases hq
    exact .sl s q.isFlat xs _ _ _ gg hx h3.1 ⟨hk, g.bz b h1⟩ r1 hfl r2 (fun i x j c e1 e2 => (r3 i x j c e1 e2).mono (fun k hk => ⟨hS k (hsq k hk).1, (hsq k hk).2⟩) (fun _ _ _ => rfl))
 | view b s q xs =>
  simp only [flat, Option.some.injEq] at hf
  subst hf
  rcases h.view_inv with ⟨ad, cap, rfl, rfl⟩ | ⟨o, cap, rfl, h1, hx, h3, _, ⟨r1, gg, r2, r3⟩, h5⟩
  ·exact ⟨.empty _ _ _ _, rfl, fun _ => .empty _ _ _ _, fun e => by cases q <;> cases e⟩
  ·have hk := hb b (by simp [cellB]) h1
   have hfl : q.isFlat = true → ∀ x ∈ xs, ∀ c ∈ x.cells, noSl c := by
    intro e; cases q <;> first | exact h5 rfl | cases e
   refine ⟨.sl s q.isFlat xs _ _ _ gg hx h3 hk r1 hfl r2 (fun i x j c e1 e2 => (r3 i x j c e1 e2).mono (fun k hk => hS k (Sq_le hk)) (fun _ _ _ => rfl)), rfl, fun e => ?_, fun e => by cases q <;> cases e⟩
   have hq : q.good = true := by
    cases q <;> first | rfl | cases e
   have hsq : ∀ k, Γ.Sq q k → Γ.S k ∧ Γ.Z k := by
    intro k hk
    cases q <;> first | exact hk | cases hq
   exact .sl s q.isFlat xs _ _ _ gg hx h3 ⟨hk, g.bz b h1⟩ r1 hfl r2 (fun i x j c e1 e2 => (r3 i x j c e1 e2).mono (fun k hk => ⟨hS k (hsq k hk).1, (hsq k hk).2⟩) (fun _ _ _ => rfl))
 | _ => cases hf
theorem Uq_tr {q : Q} {b s k o : Nat} {xs : List V} (hu : Γ.Uq w q b s xs k o) (hr : Rows w (Γ.Sq q) s xs k o) (hf : flatOk q xs) (hq : q.good = true) (hU : Γ.U) : TrRows w (fun m => Γ.N b m ∧ Γ.S m) s xs k o := by
 cases q with
 | any => cases hq
 | clean => exact hu rfl hU
 | flat =>
  obtain ⟨r1, gg, r2, r3⟩ := hr
  exact ⟨gg, fun _ _ _ => False, fun i j hi hj => (r2 i j hi hj).1, fun i x j c hx hc => .leaf _ _ _ (hf rfl x (mem_of_get hx) c (mem_of_get hc)), fun _ _ _ _ _ h => h.elim, fun _ _ _ h => h.elim⟩
theorem flat_tr {v u : V} {y : Value} (h : VR Γ w v y) (hf : flat v = some u) (hq : (cellQ v).good = true) (hU : Γ.U) (hl : ∀ b ∈ cellB v, Γ.has b → ¬ Γ.S (Γ.blk b)) :
  Tr w u y (fun m => ∃ b ∈ cellB v, Γ.has b ∧ (m = Γ.blk b ∨ Γ.N b m)) := by
 cases v with
 | bool b =>
  simp only [flat, Option.some.injEq] at hf
  subst hf
  exact .leaf _ _ _ trivial
 | int k n =>
  simp only [flat, Option.some.injEq] at hf
  subst hf
  exact .leaf _ _ _ trivial
 | str s =>
  simp only [flat, Option.some.injEq] at hf
  subst hf
  exact .leaf _ _ _ trivial
 | nil =>
  simp only [flat, Option.some.injEq] at hf
  subst hf
  exact .leaf _ _ _ trivial
 | sl s f xs => cases hq
 | own b s q xs =>
  simp only [flat, Option.some.injEq] at hf
  subst hf
  have hq2 : q.good = true := by cases q <;> first | rfl | cases hq
  have hu := h.own_uq
  rcases h.own_inv with ⟨rfl, rfl, _⟩ | ⟨rfl, h1, h2, h3, h4, h5⟩
  ·exact .empty _ _ _ _ _
  ·by_cases hx : xs = []
   ·subst hx
    exact .empty _ _ _ _ _
   ·obtain ⟨gg, T, t1, t2, t3, t4⟩ := Uq_tr hu h4 h5 hq2 hU
    exact .sl s q.isFlat xs _ _ _ gg T _ (List.length_pos_iff.2 hx) t1 t2 t3 (fun i j ht => hl b (by simp [cellB]) h1 (t4 i j _ ht).2) ⟨b, by simp [cellB], h1, .inl rfl⟩ (fun i j m hm => ⟨b, by simp [cellB], h1, .inr (t4 i j m hm).1⟩)
 | view b s q xs =>
  simp only [flat, Option.some.injEq] at hf
  subst hf
  have hq2 : q.good = true := by cases q <;> first | rfl | cases hq
  have h0 := h
  rcases h.view_inv with ⟨ad, cap, rfl, rfl⟩ | ⟨o, cap, rfl, h1, hx, h3, _, h4, h5⟩
  ·exact .empty _ _ _ _ _
  ·obtain ⟨gg, T, t1, t2, t3, t4⟩ := Uq_tr h0.view_uq h4 h5 hq2 hU
   exact .sl s q.isFlat xs _ _ _ gg T _ hx t1 t2 t3 (fun i j ht => hl b (by simp [cellB]) h1 (t4 i j _ ht).2) ⟨b, by simp [cellB], h1, .inl rfl⟩ (fun i j m hm => ⟨b, by simp [cellB], h1, .inr (t4 i j m hm).1⟩)
 | _ => cases hf
theorem moveOk_cons {dead : Nat → Bool} {b : Nat} {l : List Nat} (h : moveOk dead (b :: l) = true) : (b = 999 ∨ (dead b = false ∧ ¬ b ∈ l)) ∧ moveOk dead l = true := by
 simp only [moveOk, Bool.and_eq_true, Bool.or_eq_true, beq_iff_eq, Bool.not_eq_true', List.contains_eq_mem, decide_eq_false_iff_not] at h
 exact h
theorem moveOk_live {dead : Nat → Bool} : ∀ {l : List Nat}, moveOk dead l = true → ∀ b ∈ l, b ≠ 999 → dead b = false := by
 intro l
 induction l with
 | nil => intro _ b hb; cases hb
 | cons a l ih =>
  intro h b hb hne
  obtain ⟨h1, h2⟩ := moveOk_cons h
  rcases List.mem_cons.1 hb with rfl | hb
  ·exact (h1.resolve_left hne).1
  ·exact ih h2 b hb hne
theorem moveOk_append {dead : Nat → Bool} : ∀ {l1 l2 : List Nat}, moveOk dead (l1 ++ l2) = true → moveOk dead l1 = true ∧ moveOk dead l2 = true ∧ ∀ b, b ∈ l1 → b ∈ l2 → b = 999 := by
 intro l1
 induction l1 with
 | nil => intro l2 h; exact ⟨rfl, h, fun b hb => (by cases hb)⟩
 | cons a l ih =>
  intro l2 h
  obtain ⟨h1, h2⟩ := moveOk_cons (b := a) (l := l ++ l2) h
  obtain ⟨i1, i2, i3⟩ := ih h2
  refine ⟨?_, i2, fun b hb hb2 => ?_⟩
  ·simp only [moveOk, Bool.and_eq_true, Bool.or_eq_true, beq_iff_eq, Bool.not_eq_true', List.contains_eq_mem, decide_eq_false_iff_not]
   exact ⟨h1.imp id (fun h => ⟨h.1, fun hm => h.2 (List.mem_append.2 (.inl hm))⟩), i1⟩
  ·rcases List.mem_cons.1 hb with rfl | hb
   ·rcases h1 with h1 | h1
    ·exact h1
    ·exact absurd (List.mem_append.2 (.inr hb2)) h1.2
   ·exact i3 b hb hb2
theorem flats_get : ∀ {cs us : List V}, flats cs = some us → us.length = cs.length ∧ ∀ (j : Nat) (u : V), us[j]? = some u → ∃ v, cs[j]? = some v ∧ flat v = some u := by
 intro cs
 induction cs with
 | nil => intro us h; simp only [flats, Option.some.injEq] at h; subst h; exact ⟨rfl, fun j u hu => by simp at hu⟩
 | cons v cs ih =>
  intro us h
  simp only [flats] at h
  cases h1 : flat v with
  | none => rw [h1] at h; cases h
  | some x =>
   cases h2 : flats cs with
   | none => rw [h1, h2] at h; cases h
   | some xs =>
    rw [h1, h2] at h
    simp only [Option.some.injEq] at h
    subst h
    obtain ⟨e1, e2⟩ := ih h2
    refine ⟨by simp [e1], fun j u hu => ?_⟩
    cases j with
    | zero => simp only [List.getElem?_cons_zero, Option.some.injEq] at hu ⊢; subst hu; exact ⟨v, rfl, h1⟩
    | succ j => exact e2 j u hu
theorem flat_cells {v u : V} (h : flat v = some u) : u.cells = [u] ∧ v.cells = [v] := by
 cases v <;> simp only [flat, Option.some.injEq] at h <;> first | (cases h; done) | (subst h; exact ⟨rfl, rfl⟩)
theorem flatRow_get {v u : V} (h : flatRow v = some u) : u.cells.length = v.cells.length ∧ ∀ (j : Nat) (z : V), u.cells[j]? = some z → ∃ y, v.cells[j]? = some y ∧ flat y = some z := by
 cases v with
 | agg cs =>
  simp only [flatRow] at h
  cases hc : flats cs with
  | none => rw [hc] at h; cases h
  | some us =>
   rw [hc] at h
   simp only [Option.map_some, Option.some.injEq] at h
   subst h
   exact flats_get hc
 | _ =>
  simp only [flatRow] at h
  obtain ⟨e1, e2⟩ := flat_cells h
  rw [e1, e2]
  refine ⟨rfl, fun j z hz => ?_⟩
  cases j with
  | zero => simp only [List.getElem?_cons_zero, Option.some.injEq] at hz ⊢; subst hz; exact ⟨_, rfl, h⟩
  | succ j => simp at hz
theorem flatRows_get : ∀ {xs ys : List V}, flatRows xs = some ys → ys.length = xs.length ∧ ∀ (i : Nat) (y : V), ys[i]? = some y → ∃ x, xs[i]? = some x ∧ flatRow x = some y := by
 intro xs
 induction xs with
 | nil => intro ys h; simp only [flatRows, Option.some.injEq] at h; subst h; exact ⟨rfl, fun j u hu => by simp at hu⟩
 | cons v xs ih =>
  intro ys h
  simp only [flatRows] at h
  cases h1 : flatRow v with
  | none => rw [h1] at h; cases h
  | some x =>
   cases h2 : flatRows xs with
   | none => rw [h1, h2] at h; cases h
   | some zs =>
    rw [h1, h2] at h
    simp only [Option.some.injEq] at h
    subst h
    obtain ⟨e1, e2⟩ := ih h2
    refine ⟨by simp [e1], fun j u hu => ?_⟩
    cases j with
    | zero => simp only [List.getElem?_cons_zero, Option.some.injEq] at hu ⊢; subst hu; exact ⟨v, rfl, h1⟩
    | succ j => exact e2 j u hu
theorem join_good {p q : Q} (h : (p.join q).good = true) : p.good = true ∧ q.good = true := by cases p <;> cases q <;> first | exact ⟨rfl, rfl⟩ | cases h
theorem join_flat {p q : Q} (h : p.join q = .flat) : p = .flat ∧ q = .flat := by cases p <;> cases q <;> first | exact ⟨rfl, rfl⟩ | cases h
theorem nilCell_ok {z v : V} {x : Value} (h : VR Γ w v x) : VR Γ w (nilCell z v) x := by
 unfold nilCell
 split
 ·rw [h.nil_inv]; exact .view0 _ _ _ _ _
 ·exact h
theorem nilCells_len : ∀ (zs vs : List V), (nilCells zs vs).length = vs.length := by
 intro zs
 induction zs with
 | nil => intro vs; cases vs <;> rfl
 | cons z zs ih => intro vs; cases vs with
  | nil => rfl
  | cons v vs => rw [nilCells, List.length_cons, ih, List.length_cons]
theorem nilCells_get : ∀ (zs vs : List V) (j : Nat) (u : V), (nilCells zs vs)[j]? = some u → ∃ v z, vs[j]? = some v ∧ (u = nilCell z v ∨ u = v) := by
 intro zs
 induction zs with
 | nil => intro vs j u h; cases vs <;> exact ⟨u, u, h, .inr rfl⟩
 | cons z zs ih =>
  intro vs j u h
  cases vs with
  | nil => simp [nilCells] at h
  | cons v vs =>
   rw [nilCells] at h
   cases j with
   | zero =>
    simp only [List.getElem?_cons_zero, Option.some.injEq] at h
    exact ⟨v, z, rfl, .inl h.symm⟩
   | succ j => exact ih vs j u (by simpa using h)
theorem nilRow_cells (zs : List V) (v : V) : (nilRow zs v).cells = nilCells zs v.cells := by
 cases v with
 | agg cs => rfl
 | nil => cases zs with
  | nil => rfl
  | cons z zs => cases z <;> cases zs <;> rfl
 | _ => cases zs with
  | nil => rfl
  | cons z zs => cases zs <;> rfl
theorem nilRow_len (zs : List V) (v : V) : (nilRow zs v).cells.length = v.cells.length := by rw [nilRow_cells, nilCells_len]
theorem nilRow_get {zs : List V} {v u : V} {j : Nat} (h : (nilRow zs v).cells[j]? = some u) : ∃ y z, v.cells[j]? = some y ∧ (u = nilCell z y ∨ u = y) := by
 rw [nilRow_cells] at h
 exact nilCells_get zs v.cells j u h
theorem nilCell_or {z v u : V} {x : Value} (h : u = nilCell z v ∨ u = v) (hv : VR Γ w v x) : VR Γ w u x := by
 rcases h with rfl | rfl
 ·exact nilCell_ok hv
 ·exact hv
theorem nilRow_ok {zs : List V} {v : V} {x : Value} (h : VR Γ w v x) : VR Γ w (nilRow zs v) x := by
 cases v with
 | agg cs =>
  obtain ⟨vs, rfl, h1, h2⟩ := h.agg_inv
  refine .agg _ vs (by rw [nilCells_len]; exact h1) (fun i c v e1 e2 => ?_)
  obtain ⟨y, z, hy, hu⟩ := nilCells_get _ _ _ _ e1
  exact nilCell_or hu (h2 i y v hy e2)
 | _ =>
  unfold nilRow
  split
  ·rename_i heq; cases heq
  ·split
   ·exact nilCell_ok h
   ·exact h
theorem nilRows_len (zs : List V) : ∀ xs, (nilRows zs xs).length = xs.length := by
 intro xs
 induction xs with
 | nil => rfl
 | cons x xs ih => rw [nilRows, List.length_cons, ih, List.length_cons]
theorem nilRows_get (zs : List V) : ∀ (xs : List V) (i : Nat) (y : V), (nilRows zs xs)[i]? = some y → ∃ x, xs[i]? = some x ∧ y = nilRow zs x := by
 intro xs
 induction xs with
 | nil => intro i y h; simp [nilRows] at h
 | cons x xs ih =>
  intro i y h
  rw [nilRows] at h
  cases i with
  | zero => simp only [List.getElem?_cons_zero, Option.some.injEq] at h; exact ⟨x, rfl, h.symm⟩
  | succ i => exact ih i y (by simpa using h)
theorem cellsQ_good {cs : List V} (h : (cellsQ cs).good = true) : ∀ v ∈ cs, (cellQ v).good = true := by
 induction cs with
 | nil => intro v hv; cases hv
 | cons u cs ih =>
  intro v hv
  obtain ⟨h1, h2⟩ := join_good h
  rcases List.mem_cons.1 hv with rfl | hv
  ·exact h1
  ·exact ih h2 v hv
theorem cellsQ_flat {cs : List V} (h : cellsQ cs = .flat) : ∀ v ∈ cs, cellQ v = .flat := by
 induction cs with
 | nil => intro v hv; cases hv
 | cons u cs ih =>
  intro v hv
  obtain ⟨h1, h2⟩ := join_flat h
  rcases List.mem_cons.1 hv with rfl | hv
  ·exact h1
  ·exact ih h2 v hv
theorem rowsQ_good {xs : List V} (h : (rowsQ xs).good = true) : ∀ x ∈ xs, ∀ v ∈ x.cells, (cellQ v).good = true := by
 induction xs with
 | nil => intro x hx; cases hx
 | cons u xs ih =>
  intro x hx
  obtain ⟨h1, h2⟩ := join_good h
  rcases List.mem_cons.1 hx with rfl | hx
  ·exact cellsQ_good h1
  ·exact ih h2 x hx
theorem rowsQ_flat {xs : List V} (h : rowsQ xs = .flat) : ∀ x ∈ xs, ∀ v ∈ x.cells, cellQ v = .flat := by
 induction xs with
 | nil => intro x hx; cases hx
 | cons u xs ih =>
  intro x hx
  obtain ⟨h1, h2⟩ := join_flat h
  rcases List.mem_cons.1 hx with rfl | hx
  ·exact cellsQ_flat h1
  ·exact ih h2 x hx
theorem cellsB_mem {cs : List V} {v : V} (hv : v ∈ cs) : ∀ b ∈ cellB v, b ∈ cellsB cs := by
 induction cs with
 | nil => cases hv
 | cons u cs ih =>
  intro b hb
  rw [cellsB, List.mem_append]
  rcases List.mem_cons.1 hv with rfl | hv
  ·exact .inl hb
  ·exact .inr (ih hv b hb)
theorem rowsB_mem {xs : List V} {x : V} (hx : x ∈ xs) : ∀ b ∈ cellsB x.cells, b ∈ rowsB xs := by
 induction xs with
 | nil => cases hx
 | cons u xs ih =>
  intro b hb
  rw [rowsB, List.mem_append]
  rcases List.mem_cons.1 hx with rfl | hx
  ·exact .inl hb
  ·exact .inr (ih hx b hb)
theorem cellB_nodup {dead : Nat → Bool} : ∀ {cs : List V}, moveOk dead (cellsB cs) = true → ∀ (j j' : Nat) (c c' : V) (b : Nat), cs[j]? = some c → cs[j']? = some c' → b ∈ cellB c → b ∈ cellB c' → b ≠ 999 → j = j' := by
 intro cs
 induction cs with
 | nil => intro _ j j' c c' b h; simp at h
 | cons u cs ih =>
  intro h j j' c c' b h1 h2 h3 h4 hne
  obtain ⟨m1, m2, m3⟩ := moveOk_append (l1 := cellB u) (l2 := cellsB cs) h
  cases j with
  | zero =>
   cases j' with
   | zero => rfl
   | succ j' =>
    simp only [List.getElem?_cons_zero, Option.some.injEq] at h1
    subst h1
    exact absurd (m3 b h3 (cellsB_mem (mem_of_get (i := j') (by simpa using h2)) b h4)) hne
  | succ j =>
   cases j' with
   | zero =>
    simp only [List.getElem?_cons_zero, Option.some.injEq] at h2
    subst h2
    exact absurd (m3 b h4 (cellsB_mem (mem_of_get (i := j) (by simpa using h1)) b h3)) hne
   | succ j' => rw [ih m2 j j' c c' b (by simpa using h1) (by simpa using h2) h3 h4 hne]
theorem rowsB_nodup {dead : Nat → Bool} : ∀ {xs : List V}, moveOk dead (rowsB xs) = true → ∀ (i i' j j' : Nat) (x x' c c' : V) (b : Nat), xs[i]? = some x → xs[i']? = some x' → x.cells[j]? = some c → x'.cells[j']? = some c' → b ∈ cellB c → b ∈ cellB c' → b ≠ 999 → i = i' ∧ j = j' := by
 intro xs
 induction xs with
 | nil => intro _ i i' j j' x x' c c' b h; simp at h
 | cons u xs ih =>
  intro h i i' j j' x x' c c' b h1 h2 g1 g2 h3 h4 hne
  obtain ⟨m1, m2, m3⟩ := moveOk_append (l1 := cellsB u.cells) (l2 := rowsB xs) h
  cases i with
  | zero =>
   simp only [List.getElem?_cons_zero, Option.some.injEq] at h1
   subst h1
   cases i' with
   | zero =>
    simp only [List.getElem?_cons_zero, Option.some.injEq] at h2
    subst h2
    exact ⟨rfl, cellB_nodup m1 j j' c c' b g1 g2 h3 h4 hne⟩
   | succ i' => exact absurd (m3 b (cellsB_mem (mem_of_get g1) b h3) (rowsB_mem (mem_of_get (i := i') (by simpa using h2)) b (cellsB_mem (mem_of_get g2) b h4))) hne
  | succ i =>
   cases i' with
   | zero =>
    simp only [List.getElem?_cons_zero, Option.some.injEq] at h2
    subst h2
    exact absurd (m3 b (cellsB_mem (mem_of_get g2) b h4) (rowsB_mem (mem_of_get (i := i) (by simpa using h1)) b (cellsB_mem (mem_of_get g1) b h3))) hne
   | succ i' =>
    obtain ⟨e1, e2⟩ := ih m2 i i' j j' x x' c c' b (by simpa using h1) (by simpa using h2) g1 g2 h3 h4 hne
    exact ⟨by rw [e1], e2⟩
end
end Go.Am
end

/-
  The operations that write nothing, one by one: cuts, indexes, lengths, literals. No theorem about a Go program stands here.
-/
import Derived.Test.YtcajalfelmgeiaaAmPure
set_option linter.unusedVariables false
set_option linter.unusedSimpArgs false
namespace Go.Am
open Go Go.RowKit
section
variable {P : Program} {c : Cfg} {Γ : Ctx} {st : St} {a : Act} {w : World} {den : Nat → List V → Option V} {η : Nat → Option V} {d : Nat}

/-- A part of a value that is no address: as the model's 'part'. -/
theorem part_ok {i : TyInfo} {ti : TypeInfo} {t : Nat} (ai : AgreeT P c t i ti) {cs : List V} {vs : Array Value} {off : Nat} {v : V} (hl : cs.length = vs.size)
    (hr : ∀ (j : Nat) (u : V) (y : Value), cs[j]? = some u → vs[j]? = some y → VR Γ w u y) (hp : packV i.d.isAgg i.size (cs.drop off) = some v) :
    ∃ x, (part t vs off).run P w = .ok x w ∧ VR Γ w v x := by
  unfold packV at hp
  split at hp
  · cases hp
  rename_i hlen
  rw [List.length_drop] at hlen
  split at hp
  · rename_i hagg
    injection hp with hp
    subst hp
    have hu : ∃ dd, P.underlying t = some dd ∧ ((∃ fs, dd = .struct fs) ∨ (∃ n e, dd = .array n e)) := by
      cases hd : i.d with
      | struct fs => obtain ⟨f, h1, _⟩ := ai.struct fs hd; exact ⟨_, h1, .inl ⟨_, rfl⟩⟩
      | array n e => exact ⟨_, ai.array n e hd, .inr ⟨_, _, rfl⟩⟩
      | _ => rw [hd] at hagg; cases hagg
    obtain ⟨dd, hdd, hk⟩ := hu
    refine ⟨.agg (vs.extract off (off + i.size)), ?_, .agg _ _ (by simp; omega) ?_⟩
    · rcases hk with ⟨fs, rfl⟩ | ⟨n, e, rfl⟩ <;> simp [part, isAgg, run_underlying hdd, sizeOf, typeInfo, ai.info, ai.size]
    · intro j u y h1 h2
      rw [List.getElem?_take] at h1
      split at h1
      · rename_i hj
        rw [List.getElem?_drop] at h1
        rw [Array.getElem?_extract] at h2
        split at h2
        · exact hr _ u y h1 h2
        · cases h2
      · cases h1
  · rename_i hagg
    split at hp
    · rename_i h1
      obtain ⟨dd, hdd, n1, n2⟩ := ai.agg (by simpa using hagg)
      have hlt : off < vs.size := by omega
      have h0 : cs[off]? = some v := by
        have : (cs.drop off)[0]? = some v := by rw [← List.head?_eq_getElem?]; exact hp
        rwa [List.getElem?_drop, Nat.add_zero] at this
      refine ⟨vs[off], ?_, hr off v _ h0 (Array.getElem?_eq_getElem hlt)⟩
      simp only [part, isAgg, Sem.run_bind, run_underlying hdd, Result.andThen_ok]
      cases dd with
      | struct fs => exact absurd rfl (n1 fs)
      | array n e => exact absurd rfl (n2 n e)
      | _ => simp [Array.getElem?_eq_getElem hlt]
    · cases hp

theorem pure_field (hA : Agree P c) (hs : Sim Γ st a w) {o : Oper} {t : TypeId} {x : Operand} {f : Nat} {v : V} (ho : o.op = .field t x f) (h : valOp c den (ev st.t) η d o.op = some (.val v)) : PureOk P Γ a w o v := by
  rw [ho] at h
  simp only [valOp, plain] at h
  split at h
  · rename_i fs sz by_ z cm nz_ qz_ ht
    split at h
    · rename_i off ft cs hf hx
      split at h
      · rename_i j hj
        split at h
        · rename_i u hu
          simp only [Option.some.injEq, Out.val.injEq] at h
          subst h
          obtain ⟨ti, ai⟩ := hA _ _ ht
          obtain ⟨tj, aj⟩ := hA _ _ hj
          obtain ⟨fields, hfs, hmap, _⟩ := ai.struct fs rfl
          have hxv := hs.ev x
          rw [hx] at hxv
          obtain ⟨vs, e, hl, hr⟩ := hxv.agg_inv
          have hfld : ∃ fl, fields[f]? = some fl ∧ fl.offset = off ∧ fl.type = ft := by
            rw [← hmap, List.getElem?_map, Array.getElem?_toList] at hf
            cases hq : fields[f]? with
            | none => rw [hq] at hf; cases hf
            | some fl => rw [hq] at hf; simp only [Option.map_some, Option.some.injEq, Prod.mk.injEq] at hf; exact ⟨fl, rfl, hf.1, hf.2⟩
          obtain ⟨fl, hfl, rfl, rfl⟩ := hfld
          obtain ⟨y, hy, hv⟩ := part_ok (P := P) (w := w) aj hl hr hu
          exact ⟨y, by simp [execOp, ho, e, Instr.field, run_underlying hfs, hfl, asAgg, hy], hv⟩
        · cases h
      · cases h
    · cases h
  · cases h

theorem pure_indexAddr (hA : Agree P c) (hs : Sim Γ st a w) {o : Oper} {t : TypeId} {x y : Operand} {v : V} (ho : o.op = .indexAddr t x y) (h : valOp c den (ev st.t) η d o.op = some (.val v)) : PureOk P Γ a w o v := by
  rw [ho] at h
  simp only [valOp, plain] at h
  split at h
  · rename_i i k n ht hy
    obtain ⟨ti, ai⟩ := hA _ _ ht
    have hyv := hs.ev y
    rw [hy] at hyv
    have ey := hyv.int_inv
    split at h
    · rename_i e hd
      split at h
      · rename_i j hj
        split at h
        · rename_i u hu
          simp only [Option.some.injEq, Out.val.injEq] at h
          subst h
          obtain ⟨tj, aj⟩ := hA _ _ hj
          obtain ⟨hn, k', o', len, cap, ex, hlt, hv⟩ := addrOf_ok (hs.ev x) hu
          have hadd : (⟨k', o', none⟩ : Addr).add (n.toNat * j.size) = ⟨k', o' + n.toNat * j.size, none⟩ := by unfold Addr.add; split <;> simp_all
          exact ⟨_, by simp [execOp, ho, ex, ey, Instr.indexAt, asIntOf, run_underlying (ai.slice _ hd), hn, hlt, sizeOf, typeInfo, aj.info, aj.size, hadd], hv⟩
        · cases h
      · cases h
    · rename_i m e hd
      split at h
      · rename_i j hj
        split at h
        · rename_i hnm
          split at h
          · rename_i u hu
            simp only [Option.some.injEq, Out.val.injEq] at h
            subst h
            obtain ⟨tj, aj⟩ := hA _ _ hj
            obtain ⟨k', o', ex, hv⟩ := addOff_ok (hs.ev x) hu
            have hadd : (⟨k', o', none⟩ : Addr).add (n.toNat * j.size) = ⟨k', o' + n.toNat * j.size, none⟩ := by unfold Addr.add; split <;> simp_all
            exact ⟨_, by simp [execOp, ho, ex, ey, Instr.indexAt, asIntOf, run_underlying (ai.array _ _ hd), Instr.sureAddr, hnm, sizeOf, typeInfo, aj.info, aj.size, hadd], hv⟩
          · cases h
        · cases h
      · cases h
    · cases h
  · cases h

theorem pure_index (hA : Agree P c) (hs : Sim Γ st a w) {o : Oper} {t : TypeId} {x y : Operand} {v : V} (ho : o.op = .index t x y) (h : valOp c den (ev st.t) η d o.op = some (.val v)) : PureOk P Γ a w o v := by
  rw [ho] at h
  simp only [valOp, plain] at h
  split at h
  · rename_i i k n ht hy
    obtain ⟨ti, ai⟩ := hA _ _ ht
    have hyv := hs.ev y
    rw [hy] at hyv
    have ey := hyv.int_inv
    split at h
    · rename_i s hd hx
      split at h
      · cases h
      · rename_i hn
        split at h
        · rename_i b hb
          simp only [Option.some.injEq, Out.val.injEq] at h
          subst h
          have hxv := hs.ev x
          rw [hx] at hxv
          obtain ⟨z, ex, hz⟩ := hxv.str_inv
          have hi : n.toNat < z.size := by rw [size_str hz]; exact (List.getElem?_eq_some_iff.1 hb).1
          have hbz : z[n.toNat]? = some b := by
            rw [getElem?_pos z n.toNat hi]
            subst hz
            rw [Array.getElem?_toList] at hb
            have hi' : n.toNat < z.data.size := hi
            rw [Array.getElem?_eq_getElem hi'] at hb
            exact hb
          have hn' : 0 ≤ n := by omega
          exact ⟨.int .u8 b.toNat, by simp [execOp, ho, ex, ey, Instr.index, asIntOf, run_underlying (ai.str hd), hn', hbz], .rd _ _ (.int _ _)⟩
        · cases h
    · rename_i m e cs hd hx
      split at h
      · rename_i j hj
        split at h
        · rename_i hnm
          split at h
          · rename_i u hu
            simp only [Option.some.injEq, Out.val.injEq] at h
            subst h
            obtain ⟨tj, aj⟩ := hA _ _ hj
            have hxv := hs.ev x
            rw [hx] at hxv
            obtain ⟨vs, ex, hl, hr⟩ := hxv.agg_inv
            obtain ⟨z, hz, hv⟩ := part_ok (P := P) (w := w) aj hl hr hu
            exact ⟨z, by simp [execOp, ho, ex, ey, Instr.index, asIntOf, run_underlying (ai.array _ _ hd), hnm, sizeOf, typeInfo, aj.info, aj.size, hz], hv⟩
          · cases h
        · cases h
      · cases h
    · cases h
  · cases h

theorem lenV_ok {v : V} {x : Value} {n : Nat} (h : VR Γ w v x) (hn : lenV v = some n) : ∃ ad cap, x = .slice ad n cap := by
  cases v with
  | nil =>
    simp only [lenV, Option.some.injEq] at hn
    subst hn
    exact ⟨_, _, h.nil_inv⟩
  | sl s f xs =>
    simp only [lenV, Option.some.injEq] at hn
    subst hn
    have hr := h.sl_inv
    cases hr with
    | empty => exact ⟨_, _, rfl⟩
    | sl => exact ⟨_, _, rfl⟩
  | own b s q xs =>
    simp only [lenV, Option.some.injEq] at hn
    subst hn
    rcases h.own_inv with ⟨e, rfl, _⟩ | ⟨e, _⟩
    · exact ⟨_, _, e⟩
    · exact ⟨_, _, e⟩
  | view b s q xs =>
    simp only [lenV, Option.some.injEq] at hn
    subst hn
    rcases h.view_inv with ⟨_, _, e, rfl⟩ | ⟨_, _, e, _⟩
    · exact ⟨_, _, e⟩
    · exact ⟨_, _, e⟩
  | _ => cases hn

theorem arr1 {α : Type} {l : Array α} {x : α} (h : l.toList = [x]) : l = #[x] := by cases l; simp_all
theorem arr2 {α : Type} {l : Array α} {x y : α} (h : l.toList = [x, y]) : l = #[x, y] := by cases l; simp_all

theorem pure_len (hA : Agree P c) (hs : Sim Γ st a w) {o : Oper} {args : Array Operand} {ts : Array TypeId} {v : V} (ho : o.op = .call ⟨.builtin .len, args, ts⟩) (h : valOp c den (ev st.t) η d o.op = some (.val v)) : PureOk P Γ a w o v := by
  rw [ho] at h
  simp only [valOp, plain] at h
  split at h
  · rename_i x t hx ht
    have e1 := arr1 hx
    have e2 := arr1 ht
    subst e1; subst e2
    split at h
    · rename_i i hi
      obtain ⟨ti, ai⟩ := hA _ _ hi
      split at h
      · rename_i hd
        split at h
        · rename_i s hn
          simp only [Option.some.injEq, Out.val.injEq] at h
          subst h
          have hxv := hs.ev x
          rw [hn] at hxv
          obtain ⟨y, e, hy⟩ := hxv.str_inv
          exact ⟨.int .i64 s.length, by simp [execOp, ho, resolve, invoke, builtin, Builtin.len_, run_underlying (ai.str hd), e, size_str hy, goInt], .rd _ _ (.int _ _)⟩
        · cases h
      · rename_i e hd
        split at h
        · rename_i n hn
          simp only [Option.some.injEq, Out.val.injEq] at h
          subst h
          obtain ⟨ad, cap, ex⟩ := lenV_ok (hs.ev x) hn
          exact ⟨.int .i64 n, by simp [execOp, ho, resolve, invoke, builtin, Builtin.len_, run_underlying (ai.slice _ hd), ex, goInt], .rd _ _ (.int _ _)⟩
        · cases h
      · cases h
    · cases h
  · cases h

theorem pure_min (hs : Sim Γ st a w) {o : Oper} {args : Array Operand} {ts : Array TypeId} {v : V} (ho : o.op = .call ⟨.builtin .min, args, ts⟩) (h : valOp c den (ev st.t) η d o.op = some (.val v)) : PureOk P Γ a w o v := by
  rw [ho] at h
  simp only [valOp, plain] at h
  split at h
  · rename_i x y hx
    have e1 := arr2 hx
    subst e1
    split at h
    · rename_i k p k' q e1 e2
      split at h
      · rename_i hk
        subst hk
        simp only [Option.some.injEq, Out.val.injEq] at h
        subst h
        have h1 := hs.ev x
        have h2 := hs.ev y
        rw [e1] at h1; rw [e2] at h2
        exact ⟨_, by simp [execOp, ho, resolve, invoke, builtin, Builtin.min_, Builtin.min2, h1.int_inv, h2.int_inv], .rd _ _ (.int _ _)⟩
      · cases h
    · cases h
  · cases h
theorem pure_max (hs : Sim Γ st a w) {o : Oper} {args : Array Operand} {ts : Array TypeId} {v : V} (ho : o.op = .call ⟨.builtin .max, args, ts⟩) (h : valOp c den (ev st.t) η d o.op = some (.val v)) : PureOk P Γ a w o v := by
  rw [ho] at h
  simp only [valOp, plain] at h
  split at h
  · rename_i x y hx
    have e1 := arr2 hx
    subst e1
    split at h
    · rename_i k p k' q e1 e2
      split at h
      · rename_i hk
        subst hk
        simp only [Option.some.injEq, Out.val.injEq] at h
        subst h
        have h1 := hs.ev x
        have h2 := hs.ev y
        rw [e1] at h1; rw [e2] at h2
        exact ⟨_, by simp [execOp, ho, resolve, invoke, builtin, Builtin.max_, Builtin.max2, h1.int_inv, h2.int_inv], .rd _ _ (.int _ _)⟩
      · cases h
    · cases h
  · cases h

/-! ### cuts -/
theorem cutB_ok {hs : Sim Γ st a w} {n m : Nat} {lo hi : Option Operand} {l h : Nat} (hc : cutB n (lo.map (ev st.t)) (hi.map (ev st.t)) = some (l, h)) (hm : n ≤ m) (isS : Bool) (cap : Nat) (hcap : n ≤ cap) :
    l ≤ h ∧ h ≤ n ∧ (Instr.sliceBounds isS n cap (lo.map a.eval) (hi.map a.eval) none).run P w = .ok (l, h, cap) w := by
  unfold cutB at hc
  have key : ∀ (L H : Int), (if 0 ≤ L ∧ L ≤ H ∧ H ≤ n then some (L.toNat, H.toNat) else none) = some (l, h) → 0 ≤ L ∧ L ≤ H ∧ H ≤ n ∧ l = L.toNat ∧ h = H.toNat := by
    intro L H hk
    split at hk
    · rename_i hh
      injection hk with hk
      injection hk with h1 h2
      exact ⟨hh.1, hh.2.1, hh.2.2, h1.symm, h2.symm⟩
    · cases hk
  cases lo with
  | none =>
    cases hi with
    | none =>
      simp only [Option.map_none] at hc
      obtain ⟨h1, h2, h3, rfl, rfl⟩ := key _ _ hc
      exact ⟨by omega, by omega, by simp [Instr.sliceBounds]⟩
    | some y =>
      simp only [Option.map_none, Option.map_some] at hc
      cases hy : ev st.t y with
      | int k H =>
        rw [hy] at hc
        obtain ⟨h1, h2, h3, rfl, rfl⟩ := key _ _ hc
        have hyv := hs.ev y
        rw [hy] at hyv
        have : H ≤ (cap : Int) := by omega
        have h0 : 0 ≤ H := by omega
        exact ⟨by omega, by omega, by simp [Instr.sliceBounds, Instr.sliceBound, hyv.int_inv, asIntOf, this, h0]⟩
      | _ => rw [hy] at hc; cases hc
  | some z =>
    cases hz : ev st.t z with
    | int k' L =>
      have hzv := hs.ev z
      rw [hz] at hzv
      cases hi with
      | none =>
        simp only [Option.map_none, Option.map_some, hz] at hc
        obtain ⟨h1, h2, h3, rfl, hh⟩ := key _ _ hc
        simp only [Int.toNat_natCast] at hh
        subst hh
        exact ⟨by omega, by omega, by simp [Instr.sliceBounds, Instr.sliceBound, hzv.int_inv, asIntOf, h1]; intro hlt; exfalso; omega⟩
      | some y =>
        simp only [Option.map_some, hz] at hc
        cases hy : ev st.t y with
        | int k H =>
          rw [hy] at hc
          obtain ⟨h1, h2, h3, rfl, rfl⟩ := key _ _ hc
          have hyv := hs.ev y
          rw [hy] at hyv
          have e1 : H ≤ (cap : Int) := by omega
          have h0 : 0 ≤ H := by omega
          exact ⟨by omega, by omega, by simp [Instr.sliceBounds, Instr.sliceBound, hyv.int_inv, hzv.int_inv, asIntOf, e1, h0, h1]; intro hlt; exfalso; omega⟩
        | _ => rw [hy] at hc; cases hc
    | _ => cases hi <;> (simp only [Option.map_some, Option.map_none, hz] at hc; cases hc)

theorem Rows.sub {S : Nat → Prop} {s : Nat} {xs : List V} {k o l h : Nat} (hr : Rows w S s xs k o) (hlh : l ≤ h) (hh : h ≤ xs.length) : Rows w S s ((xs.take h).drop l) k (o + l * s) := by
  obtain ⟨h1, g, h2, h3⟩ := hr
  refine ⟨fun x hx => h1 x (List.mem_of_mem_take (List.mem_of_mem_drop hx)), fun i j => g (l + i) j, fun i j hi hj => ?_, fun i x j u hx hu => ?_⟩
  · rw [List.length_drop, List.length_take, Nat.min_eq_left hh] at hi
    have := h2 (l + i) j (by omega) hj
    rw [Nat.add_mul, ← Nat.add_assoc] at this
    exact this
  · rw [List.getElem?_drop, List.getElem?_take] at hx
    split at hx
    · exact h3 _ x j u hx hu
    · cases hx
theorem flatOk.sub {q : Q} {xs : List V} {l h : Nat} (hq : flatOk q xs) : flatOk q ((xs.take h).drop l) := fun e x hx => hq e x (List.mem_of_mem_take (List.mem_of_mem_drop hx))
theorem len_sub {α : Type} {xs : List α} {l h : Nat} (hh : h ≤ xs.length) : ((xs.take h).drop l).length = h - l := by rw [List.length_drop, List.length_take, Nat.min_eq_left hh]

theorem view_of {b s : Nat} {q : Q} {xs : List V} {o cap l h : Nat} (hb : Γ.has b) (hl : xs.length ≤ cap) (hfit : o + cap * s ≤ Γ.off b + Γ.cap b * Γ.sz b)
    (hr : Rows w (Γ.Sq q) s xs (Γ.blk b) o) (hq : flatOk q xs) (hlh : l ≤ h) (hh : h ≤ xs.length) :
    VR Γ w (.view b s q ((xs.take h).drop l)) (.slice (if cap = l then some ⟨Γ.blk b, o, none⟩ else some ⟨Γ.blk b, o + l * s, none⟩) (h - l) (cap - l)) := by
  by_cases h0 : l = h
  · subst h0
    have : (xs.take l).drop l = [] := by rw [List.drop_eq_nil_iff, List.length_take]; omega
    rw [this, Nat.sub_self]
    exact .view0 _ _ _ _ _
  · rw [if_neg (by omega)]
    have e := len_sub (l := l) hh
    have := VR.view (Γ := Γ) (w := w) b s q ((xs.take h).drop l) (o + l * s) (cap - l) hb (by omega) (by omega) (by
      have : l * s + (cap - l) * s = cap * s := by rw [← Nat.add_mul]; congr 1; omega
      omega) (hr.sub hlh hh) hq.sub
    rwa [e] at this

theorem pure_slice (hA : Agree P c) (hs : Sim Γ st a w) {o : Oper} {t : TypeId} {x : Operand} {lo hi mx : Option Operand} {v : V} (ho : o.op = .slice t x lo hi mx) (h : valOp c den (ev st.t) η d o.op = some (.val v)) : PureOk P Γ a w o v := by
  rw [ho] at h
  cases mx with
  | some m => simp only [valOp] at h; cases h
  | none =>
    simp only [valOp, plain] at h
    split at h
    · rename_i i ht
      obtain ⟨ti, ai⟩ := hA _ _ ht
      have hxv := hs.ev x
      split at h
      · rename_i hd
        split at h
        · rename_i s hx
          rw [hx] at hxv
          obtain ⟨y, e, hy⟩ := hxv.str_inv
          split at h
          · rename_i l k hc
            simp only [Option.some.injEq, Out.val.injEq] at h
            subst h
            obtain ⟨h1, h2, h3⟩ := cutB_ok (P := P) (hs := hs) hc (Nat.le_refl _) false s.length (Nat.le_refl _)
            refine ⟨.string (y.extract l k), by simp [execOp, ho, e, Instr.sliceAt, Instr.slice, run_underlying (ai.str hd), size_str hy, h3], .rd _ _ (.str _ _ ?_)⟩
            subst hy
            rw [ByteArray.data_extract, Array.toList_extract]
            simp [List.extract, List.drop_take]
          · cases h
        · cases h
      · rename_i e hd
        split at h
        · rename_i j hj
          obtain ⟨tj, aj⟩ := hA _ _ hj
          split at h
          · rename_i u hu
            simp only [Option.some.injEq, Out.val.injEq] at h
            subst h
            have hadd : ∀ k o' n, (⟨k, o', none⟩ : Addr).add n = ⟨k, o' + n, none⟩ := by intro k o' n; unfold Addr.add; split <;> simp_all
            have hrun : ∀ (ad : Option Addr) (len cap l k : Nat), a.eval x = .slice ad len cap → (Instr.sliceBounds true len cap (lo.map a.eval) (hi.map a.eval) none).run P w = .ok (l, k, cap) w →
                (execOp a.eval o).run P w = .ok (.value (.slice (if cap = l then ad else ad.map (·.add (l * j.size))) (k - l) (cap - l))) w := by
              intro ad len cap l k e h3
              simp [execOp, ho, e, Instr.sliceAt, Instr.slice, run_underlying (ai.slice _ hd), h3, sizeOf, typeInfo, aj.info, aj.size]
            cases hv : ev st.t x with
            | nil =>
              rw [hv] at hxv hu
              simp only [cut] at hu
              split at hu
              · rename_i lk hc
                obtain ⟨l, k⟩ := lk
                injection hu with hu
                subst hu
                obtain ⟨h1, h2, h3⟩ := cutB_ok (P := P) (hs := hs) hc (Nat.le_refl _) true 0 (Nat.le_refl _)
                obtain rfl : k = 0 := by omega
                obtain rfl : l = 0 := by omega
                exact ⟨_, hrun _ _ _ _ _ hxv.nil_inv h3, by simp; exact .rd _ _ .nil⟩
              · cases hu
            | sl s f xs =>
              rw [hv] at hxv hu
              simp only [cut] at hu
              split at hu
              · rename_i hs'
                subst hs'
                split at hu
                · rename_i l k hc
                  injection hu with hu
                  subst hu
                  have hr := hxv.sl_inv
                  generalize hex : a.eval x = ex at hr
                  cases hr with
                  | empty _ _ ad cap =>
                    obtain ⟨h1, h2, h3⟩ := cutB_ok (P := P) (hs := hs) hc (Nat.le_refl _) true cap (Nat.zero_le _)
                    simp only [List.length_nil] at h2 h3
                    obtain rfl : k = 0 := by omega
                    obtain rfl : l = 0 := by omega
                    exact ⟨_, hrun _ _ _ _ _ hex h3, by simpa using VR.rd _ _ (Rd.empty _ _ _ _)⟩
                  | sl _ _ _ kk o' cap g hl hcap hS hsz hf hg hr =>
                    obtain ⟨h1, h2, h3⟩ := cutB_ok (P := P) (hs := hs) hc (Nat.le_refl _) true cap hcap
                    refine ⟨_, hrun _ _ _ _ _ hex h3, ?_⟩
                    simp only [Option.map_some, hadd]
                    by_cases h0 : l = k
                    · subst h0
                      have : (xs.take l).drop l = [] := by rw [List.drop_eq_nil_iff, List.length_take]; omega
                      rw [this, Nat.sub_self]
                      exact .rd _ _ (.empty _ _ _ _)
                    · rw [if_neg (by omega)]
                      have e := len_sub (l := l) h2
                      obtain ⟨r1, r2, r3, r4⟩ := Rows.sub (w := w) (S := Γ.S) ⟨hsz, g, hg, hr⟩ h1 h2
                      have := Rd.sl (w := w) (S := Γ.S) j.size f ((xs.take k).drop l) kk (o' + l * j.size) (cap - l) r2 (by omega) (by omega) hS r1 (fun e x hx => hf e x (List.mem_of_mem_take (List.mem_of_mem_drop hx))) r3 r4
                      rw [e] at this
                      exact .rd _ _ this
                · cases hu
              · cases hu
            | own b s q xs =>
              rw [hv] at hxv hu
              simp only [cut] at hu
              split at hu
              · rename_i hs'
                subst hs'
                split at hu
                · rename_i l k hc
                  injection hu with hu
                  subst hu
                  rcases hxv.own_inv with ⟨e, e2, _⟩ | ⟨e, hb, e1, hl, hr, hq⟩
                  · subst e2
                    obtain ⟨h1, h2, h3⟩ := cutB_ok (P := P) (hs := hs) hc (Nat.le_refl _) true 0 (Nat.le_refl _)
                    simp only [List.length_nil] at h2 h3
                    obtain rfl : k = 0 := by omega
                    obtain rfl : l = 0 := by omega
                    exact ⟨_, hrun _ _ _ _ _ e h3, by simpa using VR.view0 _ _ _ _ _⟩
                  · obtain ⟨h1, h2, h3⟩ := cutB_ok (P := P) (hs := hs) hc (Nat.le_refl _) true (Γ.cap b) hl.1
                    refine ⟨_, hrun _ _ _ _ _ e h3, ?_⟩
                    simp only [Option.map_some, hadd]
                    exact view_of hb hl.1 (by rw [e1]; exact Nat.le_refl _) hr hq h1 h2
                · cases hu
              · cases hu
            | view b s q xs =>
              rw [hv] at hxv hu
              simp only [cut] at hu
              split at hu
              · rename_i hs'
                subst hs'
                split at hu
                · rename_i l k hc
                  injection hu with hu
                  subst hu
                  rcases hxv.view_inv with ⟨ad, cap, e, e2⟩ | ⟨o', cap, e, hb, _, hl, hfit, hr, hq⟩
                  · subst e2
                    obtain ⟨h1, h2, h3⟩ := cutB_ok (P := P) (hs := hs) hc (Nat.le_refl _) true cap (Nat.zero_le _)
                    simp only [List.length_nil] at h2 h3
                    obtain rfl : k = 0 := by omega
                    obtain rfl : l = 0 := by omega
                    exact ⟨_, hrun _ _ _ _ _ e h3, by simpa using VR.view0 _ _ _ _ _⟩
                  · obtain ⟨h1, h2, h3⟩ := cutB_ok (P := P) (hs := hs) hc (Nat.le_refl _) true cap hl
                    refine ⟨_, hrun _ _ _ _ _ e h3, ?_⟩
                    simp only [Option.map_some, hadd]
                    exact view_of hb hl hfit hr hq h1 h2
                · cases hu
              · cases hu
            | _ => rw [hv] at hu; cases hu
          · cases h
        · cases h
      · cases h
    · cases h

/-! ### literals -/
theorem over_len {cs new cs' : List V} {off : Nat} (h : over cs off new = some cs') : cs'.length = cs.length ∧ off + new.length ≤ cs.length := by
  unfold over at h
  split at h
  · rename_i hle
    injection h with h
    subst h
    simp; omega
  · cases h
theorem over_get {cs new cs' : List V} {off : Nat} (h : over cs off new = some cs') (j : Nat) : cs'[j]? = if off ≤ j ∧ j < off + new.length then new[j - off]? else cs[j]? := by
  unfold over at h
  split at h
  · rename_i hle
    injection h with h
    subst h
    rw [List.append_assoc, List.getElem?_append, List.length_take, Nat.min_eq_left (by omega)]
    split
    · rename_i h1
      rw [List.getElem?_take, if_pos h1, if_neg (by omega)]
    · rename_i h1
      rw [List.getElem?_append]
      split
      · rename_i h2
        rw [if_pos (by omega)]
      · rename_i h2
        rw [List.getElem?_drop, if_neg (by omega)]
        congr 1
        omega
  · cases h

theorem set_fold (off : Nat) : ∀ (l : List (Value × Nat)) (vs : Array Value), (l.foldl (fun (cs : Array Value) (q : Value × Nat) => cs.setIfInBounds (off + q.2) q.1) vs).size = vs.size := by
  intro l
  induction l with
  | nil => intro vs; rfl
  | cons q l ih => intro vs; rw [List.foldl_cons, ih]; simp
theorem set_get (off : Nat) : ∀ (l : List Value) (n : Nat) (vs : Array Value), off + n + l.length ≤ vs.size → ∀ j : Nat,
    ((l.zipIdx n).foldl (fun (cs : Array Value) (q : Value × Nat) => cs.setIfInBounds (off + q.2) q.1) vs)[j]? = if off + n ≤ j ∧ j < off + n + l.length then l[j - (off + n)]? else vs[j]? := by
  intro l
  induction l with
  | nil =>
    intro n vs _ j
    rw [if_neg (by simp)]
    rfl
  | cons v l ih =>
    intro n vs h j
    rw [List.zipIdx_cons, List.foldl_cons, ih (n + 1) _ (by simp at h ⊢; omega)]
    by_cases hj : j = off + n
    · subst hj
      rw [if_neg (by omega), if_pos (by simp)]
      simp at h
      simp [Array.getElem?_setIfInBounds]
      omega
    · by_cases h1 : off + (n + 1) ≤ j ∧ j < off + (n + 1) + l.length
      · rw [if_pos h1, if_pos (by simp; omega)]
        have : j - (off + n) = (j - (off + (n + 1))) + 1 := by omega
        rw [this, List.getElem?_cons_succ]
      · rw [if_neg h1, if_neg (by simp; omega)]
        simp only [Array.getElem?_setIfInBounds]
        rw [if_neg (by omega)]

/-- The cells of a literal, laid one part behind the other. -/
theorem fill_ok (hs : Sim Γ st a w) (place : Nat → Option (Nat × Nat)) (place' : Nat → Option (Nat × Nat)) (hp : ∀ i p, place i = some p → place' i = some p) : ∀ (ps : List (Nat × Operand)) (cs cs' : List V) (vs : Array Value),
    cs.length = vs.size → (∀ (j : Nat) (u : V) (y : Value), cs[j]? = some u → vs[j]? = some y → VR Γ w u y) →
    fillV place cs (ps.map fun p => (p.1, ev st.t p.2)) = some cs' → ∃ vs', Instr.fill place' vs (ps.map fun p => (p.1, a.eval p.2)) = some vs' ∧ cs'.length = vs'.size ∧ ∀ (j : Nat) (u : V) (y : Value), cs'[j]? = some u → vs'[j]? = some y → VR Γ w u y := by
  intro ps
  induction ps with
  | nil =>
    intro cs cs' vs hl hr h
    simp only [List.map_nil, fillV, Option.some.injEq] at h
    subst h
    exact ⟨vs, rfl, hl, hr⟩
  | cons p ps ih =>
    intro cs cs' vs hl hr h
    obtain ⟨i, x⟩ := p
    simp only [List.map_cons, fillV] at h
    cases hpl : place i with
    | none => rw [hpl] at h; cases h
    | some os =>
      obtain ⟨off, size⟩ := os
      rw [hpl] at h
      simp only at h
      split at h
      · rename_i hsize
        obtain ⟨hsize, hdef⟩ := hsize
        cases ho : over cs off (ev st.t x).cells with
        | none => rw [ho] at h; cases h
        | some cs1 =>
          rw [ho] at h
          simp only at h
          obtain ⟨l1, l2⟩ := over_len ho
          have hx := hs.ev x
          have hcl := hx.cellLen hdef
          have hcell := hx.cells hcl
          have hget := set_get off (a.eval x).cells.toList 0 vs (by simp; omega)
          have hsz := set_fold off ((a.eval x).cells.toList.zipIdx 0) vs
          generalize he : ((a.eval x).cells.toList.zipIdx 0).foldl (fun (cs : Array Value) (q : Value × Nat) => cs.setIfInBounds (off + q.2) q.1) vs = vs1 at hget hsz
          have := ih cs1 cs' vs1 (by omega) (fun j u y hu hy => by
            rw [over_get ho] at hu
            rw [hget] at hy
            simp only [Nat.add_zero, Array.length_toList, Array.getElem?_toList] at hy
            rw [← hcl] at hy
            split at hu
            · rename_i hj
              rw [if_pos hj] at hy
              obtain ⟨z, hz, hv⟩ := hcell _ _ hu
              rw [hz] at hy
              injection hy with hy
              subst hy
              exact hv
            · rename_i hj
              rw [if_neg hj] at hy
              exact hr j u y hu hy) h
          obtain ⟨vs', f1, f2, f3⟩ := this
          refine ⟨vs', ?_, f2, f3⟩
          simp only [List.map_cons, Instr.fill, hp _ _ hpl]
          rw [if_neg (by simp; omega)]
          rw [← f1, ← he]
          congr 1
          rw [← Array.foldl_toList]
          simp
      · cases h

theorem run_places (P : Program) (w : World) : ∀ (fl : List Field), (∀ f ∈ fl, ∃ tj, P.info? f.type = some tj) →
    (fl.mapM fun f => (do pure (f.offset, ← sizeOf f.type) : Sem (Nat × Nat))).run P w = .ok (fl.map fun f => (f.offset, ((P.info? f.type).map (·.size)).getD 0)) w := by
  intro fl
  induction fl with
  | nil => intro _; simp
  | cons f fl ih =>
    intro h
    obtain ⟨tj, hj⟩ := h f (by simp)
    rw [List.mapM_cons]
    simp only [Sem.run_bind, sizeOf, typeInfo, run_program, Result.andThen_ok, hj, Sem.run_pure]
    have := ih (fun g hg => h g (by simp [hg]))
    simp only [sizeOf, typeInfo] at this
    rw [this]
    simp [hj]

theorem pure_build (hA : Agree P c) (hs : Sim Γ st a w) {o : Oper} {t : TypeId} {ps : Array (Nat × Operand)} {v : V} (ho : o.op = .build t ps) (h : valOp c den (ev st.t) η d o.op = some (.val v)) : PureOk P Γ a w o v := by
  rw [ho] at h
  simp only [valOp, plain] at h
  split at h
  · rename_i i ht
    split at h
    case isFalse => cases h
    rename_i hlays
    split at h
    · rename_i cs hf
      simp only [Option.some.injEq, Out.val.injEq] at h
      subst h
      obtain ⟨ti, ai⟩ := hA _ _ ht
      obtain ⟨z, hz, hz1, hz2, hz3, hz4⟩ := ai.zero
      have hzc : ∀ (j : Nat) (u : V) (y : Value), i.zero.cells[j]? = some u → z.cells[j]? = some y → VR Γ w u y := by
        intro j u y hu hy
        obtain ⟨y', h1, h2⟩ := hz4 j u hu
        rw [hy] at h1
        injection h1 with h1
        subst h1
        exact .rd _ _ (h2 w Γ.S)
      have e2 : (ps.map fun (i, x) => (i, a.eval x)).toList = ps.toList.map fun p => (p.1, a.eval p.2) := by simp
      cases hd : i.d with
      | struct fs =>
        obtain ⟨fields, hfs, hmap, hinf⟩ := ai.struct fs hd
        rw [hd] at hf
        have hpl : ∀ k p, c.place (.struct fs) k = some p → (fields.toList.map fun f => (f.offset, ((P.info? f.type).map (·.size)).getD 0))[k]? = some p := by
          intro k p hk
          simp only [Cfg.place] at hk
          cases hk' : fs[k]? with
          | none => rw [hk'] at hk; cases hk
          | some ot =>
            obtain ⟨o', t'⟩ := ot
            rw [hk'] at hk
            simp only at hk
            cases hj : c.ty t' with
            | none => rw [hj] at hk; cases hk
            | some j =>
              rw [hj] at hk
              simp only [Option.map_some, Option.some.injEq] at hk
              subst hk
              obtain ⟨tj, aj⟩ := hA _ _ hj
              rw [← hmap, List.getElem?_map] at hk'
              rw [List.getElem?_map]
              cases hq : fields.toList[k]? with
              | none => rw [hq] at hk'; cases hk'
              | some fl =>
                rw [hq] at hk'
                simp only [Option.map_some, Option.some.injEq, Prod.mk.injEq] at hk'
                obtain ⟨rfl, rfl⟩ := hk'
                simp [aj.info, aj.size]
        obtain ⟨vs', f1, f2, f3⟩ := fill_ok hs (c.place (.struct fs)) (fun k => (fields.toList.map fun f => (f.offset, ((P.info? f.type).map (·.size)).getD 0))[k]?) hpl ps.toList i.zero.cells cs z.cells (by rw [← hz2]; simp) hzc hf
        have hmm := run_places P w fields.toList hinf
        refine ⟨.agg vs', ?_, .agg _ _ f2 f3⟩
        simp only [execOp, ho, Instr.build, Sem.run_bind, zeroValue, typeInfo, run_program, Result.andThen_ok, ai.info, Sem.run_pure, hz, run_underlying hfs]
        rw [Array.mapM_eq_mapM_toList]
        simp only [Sem.run_map, hmm, Result.andThen_ok]
        rw [e2]
        have : (fun x : Nat => (List.map (fun f => (f.offset, (Option.map (fun x => x.size) (P.info? f.type)).getD 0)) fields.toList).toArray[x]?) = fun k => (fields.toList.map fun f => (f.offset, ((P.info? f.type).map (·.size)).getD 0))[k]? := by
          funext k; simp
        rw [this, f1]
        rfl
      | array n e =>
        rw [hd] at hf
        have hu := ai.array n e hd
        cases hj : c.ty e with
        | none => rw [hd] at hlays; simp [Cfg.lays, hj] at hlays
        | some j =>
          obtain ⟨tj, aj⟩ := hA _ _ hj
          have hpl : ∀ k p, c.place (.array n e) k = some p → some (k * j.size, j.size) = some p := by
            intro k p hk
            simp only [Cfg.place, hj, Option.map_some] at hk
            exact hk
          obtain ⟨vs', f1, f2, f3⟩ := fill_ok hs (c.place (.array n e)) (fun k => some (k * j.size, j.size)) hpl ps.toList i.zero.cells cs z.cells (by rw [← hz2]; simp) hzc hf
          refine ⟨.agg vs', ?_, .agg _ _ f2 f3⟩
          simp only [execOp, ho, Instr.build, Sem.run_bind, zeroValue, typeInfo, run_program, Result.andThen_ok, ai.info, Sem.run_pure, hz, run_underlying hu, sizeOf, aj.info, aj.size]
          rw [e2, f1]
          rfl
      | _ => rw [hd] at hlays; cases hlays
    · cases h
  · cases h
end
end Go.Am

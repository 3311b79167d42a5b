/-
  What the comparisons compute, and the law.
-/
import Derived.Test.YtlgbgnlpbnhhfaaGreatEw
import Derived.Test.YtlgbgnlpbnhhfaaGreatAmOk
import Derived.Test.YtlgbgnlpbnhhfaaGreatAmEq
import Derived.Test.YtlgbgnlpbnhhfaaGreatAmMore
set_option linter.unusedVariables false
set_option linter.unusedSimpArgs false
namespace Go.Am
open Go
variable {β : Type}
/-- An answer that tells whether p. -/
def Dec (x : Option Bool) (p : Prop) : Prop := ∃ b, x = some b ∧ (b = true ↔ p)
def DecS (x : Option (Unit ⊕ (Unit ⊕ Unit))) (p : Prop) : Prop := (p → x = some (.inl ())) ∧ (¬ p → x = some (.inr (.inl ())))
section
variable {T : Type} {p q : Prop} {X f : Option Bool} {b : Bool}
theorem Dec.iff (h : Dec X p) (e : p ↔ q) : Dec X q := by obtain ⟨b, h1, h2⟩ := h; exact ⟨b, h1, h2.trans e⟩
theorem Dec.lit (h : b = true ↔ p) : Dec (some b) p := ⟨b, rfl, h⟩
theorem Dec.tt : Dec (some true) True := ⟨true, rfl, by simp⟩
theorem Dec.and (hb : b = true ↔ p) (hX : Dec X q) : Dec (br b X (some false)) (p ∧ q) := by
  obtain ⟨c, h1, h2⟩ := hX
  cases b with
  | true => exact ⟨c, h1, by rw [h2]; exact ⟨fun h => ⟨hb.1 rfl, h⟩, fun h => h.2⟩⟩
  | false => exact ⟨false, rfl, ⟨fun h => (by cases h), fun h => by have := hb.2 h.1; cases this⟩⟩
theorem Dec.nand (hb : b = true ↔ p) (hX : Dec X q) : Dec (br (!b) (some false) X) (p ∧ q) := by
  have := Dec.and hb hX
  cases b <;> exact this
theorem Dec.ne {x y : Int} (hX : Dec X q) : Dec (br (x != y) (some false) X) (x = y ∧ q) := Dec.nand (b := x == y) (by simp) hX
theorem Dec.bind (hf : Dec f p) (hX : Dec X q) : Dec (f.bind fun r => br r X (some false)) (p ∧ q) := by
  obtain ⟨c, rfl, h2⟩ := hf
  exact Dec.and h2 hX
theorem Dec.bindN (hf : Dec f p) (hX : Dec X q) : Dec (f.bind fun r => br (!r) (some false) X) (p ∧ q) := by
  obtain ⟨c, rfl, h2⟩ := hf
  exact Dec.nand h2 hX
theorem Dec.bindE (hf : Dec f p) : Dec (f.bind fun r => some r) p := by
  obtain ⟨c, rfl, h2⟩ := hf
  exact ⟨c, rfl, h2⟩
theorem Dec.len {a b : List T} (hX : a.length = b.length → Dec X q) : Dec (br ((a.length : Int) != (b.length : Int)) (some false) X) (a.length = b.length ∧ q) := by
  rw [len_ne]
  by_cases c : a.length = b.length
  · rw [decide_eq_true c]; exact (hX c).iff ⟨fun h => ⟨c, h⟩, fun h => h.2⟩
  · rw [decide_eq_false c]; exact ⟨false, rfl, ⟨fun h => (by cases h), fun h => absurd h.1 c⟩⟩
theorem Dec.loopK [DecidableEq T] {a b : List T} {body : Nat → T → Unit → Option (Unit ⊕ (Unit ⊕ Unit))} (hl : a.length = b.length) (hm : a.length ≤ maxLen)
    (h : ∀ i x y, a[i]? = some x → b[i]? = some y → DecS (body i x ()) (x = y)) (hX : Dec X q) : Dec ((forE a body (fun _ => (.inr () : Unit ⊕ Unit)) ()).bind (Sum.elim (fun _ => some false) (fun _ => X))) (a = b ∧ q) := by
  rw [for_eqL (.inl ()) hl hm (fun i x y hx hy => by
    obtain ⟨h1, h2⟩ := h i x y hx hy
    by_cases c : x = y
    · rw [if_pos c]; exact h1 c
    · rw [if_neg c]; exact h2 c)]
  by_cases c : a = b
  · rw [if_pos c]; exact hX.iff ⟨fun h => ⟨c, h⟩, fun h => h.2⟩
  · rw [if_neg c]; exact ⟨false, rfl, ⟨fun h => (by cases h), fun h => absurd h.1 c⟩⟩
theorem Dec.loop [DecidableEq T] {a b : List T} {body : Nat → T → Unit → Option (Unit ⊕ (Unit ⊕ Unit))} (hl : a.length = b.length) (hm : a.length ≤ maxLen)
    (h : ∀ i x y, a[i]? = some x → b[i]? = some y → DecS (body i x ()) (x = y)) : Dec ((forE a body (fun _ => (.inr () : Unit ⊕ Unit)) ()).bind (Sum.elim (fun _ => some false) (fun _ => some true))) (a = b) :=
  (Dec.loopK hl hm h Dec.tt).iff (by simp)
/-- The library's comparison of two lists, and the specification's. -/
theorem Dec.list [DecidableEq T] {a b : List T} {body : Nat → T → Unit → Option (Unit ⊕ (Unit ⊕ Unit))} (hm : a.length ≤ maxLen)
    (h : ∀ i x y, a[i]? = some x → b[i]? = some y → DecS (body i x ()) (x = y)) : Dec (br ((a.length : Int) != (b.length : Int)) (some false) ((forE a body (fun _ => (.inr () : Unit ⊕ Unit)) ()).bind (Sum.elim (fun _ => some false) (fun _ => some true)))) (a = b) :=
  (Dec.len (fun hl => Dec.loop hl hm h)).iff ⟨fun h => h.2, fun h => ⟨by rw [h], h⟩⟩
theorem DecS.get {l : List T} {i : Nat} {y : T} {X : T → Option (Unit ⊕ (Unit ⊕ Unit))} (h : l[i]? = some y) (hX : DecS (X y) p) : DecS ((getI l (i : Int)).bind X) p := by rw [getI_nat h]; exact hX
theorem DecS.iff {X : Option (Unit ⊕ (Unit ⊕ Unit))} (h : DecS X p) (e : p ↔ q) : DecS X q := ⟨fun h2 => h.1 (e.2 h2), fun h2 => h.2 (fun h3 => h2 (e.1 h3))⟩
theorem DecS.tt : DecS (some (.inl ())) True := ⟨fun _ => rfl, fun h => absurd trivial h⟩
theorem DecS.nand {X : Option (Unit ⊕ (Unit ⊕ Unit))} (hb : b = true ↔ p) (hX : DecS X q) : DecS (br (!b) (some (.inr (.inl ()))) X) (p ∧ q) := by
  cases b with
  | true => exact hX.iff ⟨fun h => ⟨hb.1 rfl, h⟩, fun h => h.2⟩
  | false => exact ⟨fun h => (by have := hb.2 h.1; cases this), fun _ => rfl⟩
theorem DecS.flat (hb : b = true ↔ p) : DecS (br (!b) (some (.inr (.inl ()))) (some (.inl ()))) p := (DecS.nand hb DecS.tt).iff (by simp)
theorem DecS.ne {x y : Int} {X : Option (Unit ⊕ (Unit ⊕ Unit))} (hX : DecS X q) : DecS (br (x != y) (some (.inr (.inl ()))) X) (x = y ∧ q) := DecS.nand (b := x == y) (by simp) hX
theorem DecS.call {X : Option (Unit ⊕ (Unit ⊕ Unit))} (hf : Dec f p) (hX : DecS X q) : DecS (f.bind fun r => br (!r) (some (.inr (.inl ()))) X) (p ∧ q) := by
  obtain ⟨c, rfl, h2⟩ := hf
  exact DecS.nand h2 hX
theorem DecS.call1 (hf : Dec f p) : DecS (f.bind fun r => br (!r) (some (.inr (.inl ()))) (some (.inl ()))) p := (DecS.call hf DecS.tt).iff (by simp)
theorem DecS.len {a b : List T} {X : Option (Unit ⊕ (Unit ⊕ Unit))} (hX : a.length = b.length → DecS X q) : DecS (br ((a.length : Int) != (b.length : Int)) (some (.inr (.inl ()))) X) (a.length = b.length ∧ q) := by
  rw [len_ne]
  by_cases c : a.length = b.length
  · rw [decide_eq_true c]; exact (hX c).iff ⟨fun h => ⟨c, h⟩, fun h => h.2⟩
  · rw [decide_eq_false c]; exact ⟨fun h => absurd h.1 c, fun _ => rfl⟩
/-- A counting loop that compares two lists. -/
theorem while_dec [DecidableEq T] {a b : List T} {body : Int → Option (Int ⊕ (Unit ⊕ Unit))} (hl : a.length = b.length)
    (h : ∀ (i : Nat) x y, a[i]? = some x → b[i]? = some y → body (i : Int) = some (if x = y then .inl ((i + 1 : Nat) : Int) else .inr (.inl ()))) (hf : body (a.length : Int) = some (.inr (.inr ()))) :
    ∀ (zs ys : List T) (i : Nat), a.drop i = zs → b.drop i = ys → i ≤ a.length → whileE body (i : Int) = some (if zs = ys then .inr () else .inl ()) := by
  intro zs
  induction zs with
  | nil =>
    intro ys i h1 h2 hi
    have : i = a.length := by
      have := List.drop_eq_nil_iff.1 h1
      omega
    subst this
    obtain rfl : ys = [] := by rw [← h2, hl]; simp
    unfold whileE
    rw [whileInf_step, hf]
    rfl
  | cons z zs ih =>
    intro ys i h1 h2 hi
    have hz : a[i]? = some z := by
      have := congrArg (fun l => l[0]?) h1
      simpa using this
    have hlt := (List.getElem?_eq_some_iff.1 hz).1
    cases ys with
    | nil => have := List.drop_eq_nil_iff.1 h2; omega
    | cons y ys =>
      have hy : b[i]? = some y := by
        have := congrArg (fun l => l[0]?) h2
        simpa using this
      unfold whileE
      rw [whileInf_step, h i z y hz hy]
      by_cases c : z = y
      · rw [if_pos c]
        show whileE body ((i + 1 : Nat) : Int) = _
        rw [ih ys (i + 1) (by rw [← List.tail_drop, h1]; rfl) (by rw [← List.tail_drop, h2]; rfl) (by omega)]
        subst c
        simp
      · rw [if_neg c]
        show some _ = some _
        rw [if_neg (by intro e; exact c (List.cons.inj e).1)]
theorem DecS.whileD [DecidableEq T] {a b : List T} {body : Int → Option (Int ⊕ (Unit ⊕ Unit))} (hl : a.length = b.length)
    (h : ∀ (i : Nat) x y, a[i]? = some x → b[i]? = some y → body (i : Int) = some (if x = y then .inl ((i + 1 : Nat) : Int) else .inr (.inl ()))) (hf : body (a.length : Int) = some (.inr (.inr ()))) :
    DecS ((whileE body 0).bind (Sum.elim (fun _ => some (.inr (.inl ()))) (fun _ => some (.inl ())))) (a = b) := by
  have := while_dec hl h hf a b 0 rfl rfl (Nat.zero_le _)
  rw [show ((0 : Nat) : Int) = 0 from rfl] at this
  rw [this]
  by_cases c : a = b
  · rw [if_pos c]; exact ⟨fun _ => rfl, fun h => absurd c h⟩
  · rw [if_neg c]; exact ⟨fun h => absurd h c, fun _ => rfl⟩
end
theorem beqT {T : Type} [BEq T] [LawfulBEq T] {x y : T} : (x == y) = true ↔ x = y := beq_iff_eq
theorem cmpT {p : Prop} [Decidable p] {b : Bool} (h : b = decide p) : b = true ↔ p := by rw [h]; simp
theorem d_File (a b : List TFile) (h : a.length ≤ maxLen) : Dec (g_slices_Equal_File_File a b) (a = b) := Dec.list h (fun i x y _ hy => DecS.get hy (DecS.flat (cmpT (TFile.cmp x y))))
theorem d_iServer (x y : TServer) (h : x.ok) : Dec (iEqualServers_1 x y) (x = y) := by
  obtain ⟨_, h2, _⟩ := h
  refine (Dec.and beqT (Dec.bindE (d_File _ _ h2.1))).iff ?_
  obtain ⟨x1, x2⟩ := x; obtain ⟨y1, y2⟩ := y
  simp
theorem d_iServers (a b : List TServer) (h : okL TServer.ok a) : Dec (iEqualServers a b) (a = b) :=
  Dec.bindE (Dec.list h.1 (fun i x y hx hy => DecS.get hy (DecS.call1 (d_iServer x y (h.2 x (List.mem_of_getElem? hx))))))
theorem DecS.val {A : Type} {f : Option A} {v : A} {X : A → Option (Unit ⊕ (Unit ⊕ Unit))} {p : Prop} (h : f = some v) (hX : DecS (X v) p) : DecS (f.bind X) p := by subst h; exact hX
theorem while_body {T : Type} [DecidableEq T] {x y : T} {b : Bool} {i : Nat} (hb : b = true ↔ x = y) (hi : i < 9223372036854775807) : br (!b) (some (.inr (.inl ()))) (some (.inl (IntKind.wrap .i64 ((i : Int) + 1)))) = some (if x = y then (.inl ((i + 1 : Nat) : Int) : Int ⊕ (Unit ⊕ Unit)) else .inr (.inl ())) := by
  rw [wrapS hi]
  by_cases c : x = y
  · rw [if_pos c, hb.2 c]; rfl
  · rw [if_neg c]
    have : b = false := by cases b with
      | true => exact absurd (hb.1 rfl) c
      | false => rfl
    rw [this]; rfl
theorem d_sServers (a b : List TServer) (h : okL TServer.ok a) : Dec (sEqualServers a b) (a = b) := by
  refine Dec.list h.1 (fun i x y hx hy => ?_)
  obtain ⟨_, h2, _⟩ := h.2 x (List.mem_of_getElem? hx)
  have hm := h2.1
  unfold maxLen at hm
  refine DecS.iff (p := x.xHost = y.xHost ∧ x.xFiles.length = y.xFiles.length ∧ x.xFiles = y.xFiles) ?_ ?_
  · refine DecS.get hy (DecS.nand beqT (DecS.get hy (DecS.len (fun hl => DecS.whileD hl ?_ ?_))))
    · intro j u v hu hv
      have hj := (List.getElem?_eq_some_iff.1 hu).1
      exact brE (Int.ofNat_lt.2 hj) (getI_bind hu (getI_bind hy (getI_bind hv (while_body (cmpT (TFile.cmp u v)) (by omega)))))
    · exact brN (Int.lt_irrefl _) rfl
  obtain ⟨x1, x2⟩ := x; obtain ⟨y1, y2⟩ := y
  constructor
  · rintro ⟨e1, _, e2⟩; simp only at e1 e2; subst e1; subst e2; rfl
  · intro e; cases e; exact ⟨rfl, rfl, rfl⟩
theorem d_Attr (a b : List TAttr) (h : a.length ≤ maxLen) : Dec (g_slices_Equal_Attr_Attr a b) (a = b) := Dec.list h (fun i x y _ hy => DecS.get hy (DecS.flat (cmpT (TAttr.cmp x y))))
theorem d_Slot (a b : List TSlot) (h : a.length ≤ maxLen) : Dec (g_slices_Equal_Slot_Slot a b) (a = b) := Dec.list h (fun i x y _ hy => DecS.get hy (DecS.flat (cmpT (TSlot.cmp x y))))
theorem d_Module (a b : List TModule) (h : a.length ≤ maxLen) : Dec (g_slices_Equal_Module_Module a b) (a = b) := Dec.list h (fun i x y _ hy => DecS.get hy (DecS.flat (cmpT (TModule.cmp x y))))
theorem d_Addr (a b : List TAddr) (h : a.length ≤ maxLen) : Dec (g_slices_Equal_Addr_Addr a b) (a = b) := Dec.list h (fun i x y _ hy => DecS.get hy (DecS.flat (cmpT (TAddr.cmp x y))))
theorem d_Kept (a b : List TKept) (h : a.length ≤ maxLen) : Dec (g_slices_Equal_Kept_Kept a b) (a = b) := Dec.list h (fun i x y _ hy => DecS.get hy (DecS.flat (cmpT (TKept.cmp x y))))
theorem d_string (a b : List (List UInt8)) (h : a.length ≤ maxLen) : Dec (g_slices_Equal_string_string a b) (a = b) := Dec.list h (fun i x y _ hy => DecS.get hy (DecS.flat beqT))
theorem d_int (a b : List Int) (h : a.length ≤ maxLen) : Dec (g_slices_Equal_int_int a b) (a = b) := Dec.list h (fun i x y _ hy => DecS.get hy ((DecS.ne DecS.tt).iff (by simp)))
theorem d_iPolicies (a b : TPolicy) (h : a.ok) : Dec (iEqualPolicies a b) (a = b) := by
  obtain ⟨_, h1, h2, h3, _⟩ := h
  refine (Dec.and beqT (Dec.bind (d_string _ _ h1.1) (Dec.bind (d_string _ _ h2.1) (Dec.bind (d_string _ _ h3.1) (Dec.lit beqT))))).iff ?_
  obtain ⟨a1, a2, a3, a4, a5⟩ := a; obtain ⟨b1, b2, b3, b4, b5⟩ := b
  simp
theorem d_iToken (a b : TToken) (h : a.ok) : Dec (iequalTokens a b) (a = b) := by
  obtain ⟨_, _, h3, _⟩ := h
  refine (Dec.and beqT (Dec.and beqT (Dec.bind (d_Attr _ _ h3.1) (Dec.lit beqT)))).iff ?_
  obtain ⟨a1, a2, a3, a4⟩ := a; obtain ⟨b1, b2, b3, b4⟩ := b
  simp
theorem d_iNode (a b : TNode) (h : a.ok) : Dec (iequalNodes a b) (a = b) := by
  obtain ⟨_, _, _, h4, _⟩ := h
  refine (Dec.and beqT (Dec.and beqT (Dec.and beqT (Dec.bindE (d_Attr _ _ h4.1))))).iff ?_
  obtain ⟨a1, a2, a3, a4⟩ := a; obtain ⟨b1, b2, b3, b4⟩ := b
  simp
theorem d_iBuilders (a b : TBuilder) (h : a.ok) : Dec (iEqualBuilders a b) (a = b) := by
  obtain ⟨h1, h2, _⟩ := h
  refine (Dec.bind (Dec.list h1.1 (fun i x y hx hy => DecS.get hy (DecS.call1 (d_iNode x y (h1.2 x (List.mem_of_getElem? hx)))))) (Dec.bindE (d_int _ _ h2.1))).iff ?_
  obtain ⟨a1, a2⟩ := a; obtain ⟨b1, b2⟩ := b
  simp
theorem d_iPages (a b : TPage) (h : a.ok) : Dec (iEqualPages a b) (a = b) := by
  obtain ⟨_, h1, _, h3, _, h5, h6, h7, h8, _, _, _, _, h13, h14, _⟩ := h
  refine (Dec.and (cmpT (TAddr.cmp _ _)) (Dec.bind (d_iPolicies _ _ h1) (Dec.and (cmpT (TTokenizer.cmp _ _)) (Dec.bind (Dec.list h3.1 (fun i x y hx hy => DecS.get hy (DecS.call1 (d_iToken x y (h3.2 x (List.mem_of_getElem? hx)))))) (Dec.and beqT (Dec.bind (d_iBuilders _ _ h5) (Dec.bind (d_Slot _ _ h6.1) (Dec.bind (d_Module _ _ h7.1) (Dec.bind (d_Addr _ _ h8.1) (Dec.and beqT (Dec.and beqT (Dec.and beqT (Dec.and beqT (Dec.bind (d_Addr _ _ h13.1) (Dec.bind (d_string _ _ h14.1) (Dec.lit beqT)))))))))))))))).iff ?_
  obtain ⟨a1, a2, a3, a4, a5, a6, a7, a8, a9, a10, a11, a12, a13, a14, a15, a16⟩ := a
  obtain ⟨b1, b2, b3, b4, b5, b6, b7, b8, b9, b10, b11, b12, b13, b14, b15, b16⟩ := b
  simp
theorem d_iHidden (a b : THidden) (h : a.ok) : Dec (iEqualHidden a b) (a = b) := by
  obtain ⟨_, h1, h2, h3, _⟩ := h
  refine (Dec.and beqT (Dec.bind (d_iPages _ _ (by assumption)) (Dec.bind (d_Kept _ _ (by first | exact h2.1 | exact h3.1)) (Dec.bind (d_iServers _ _ (by assumption)) (Dec.lit beqT))))).iff ?_
  obtain ⟨a1, a2, a3, a4, a5⟩ := a; obtain ⟨b1, b2, b3, b4, b5⟩ := b
  simp <;> grind
theorem sumL_take {T : Type} {f : T → Nat} {l : List T} {i : Nat} {x : T} (h : l[i]? = some x) : sumL f (l.take (i + 1)) = sumL f (l.take i) + f x := by
  unfold sumL
  rw [List.take_add_one, h]
  simp
theorem sumL_take_le {T : Type} {f : T → Nat} (l : List T) (i : Nat) : sumL f (l.take i) ≤ sumL f l := by
  unfold sumL
  have : (l.map f).sum = ((l.take i).map f).sum + ((l.drop i).map f).sum := by
    rw [← List.sum_append, ← List.map_append, List.take_append_drop]
  omega
theorem ok_FormatToken (t : TToken) (h : t.ok) (hs : t.size ≤ 1048576) : Ok (sFormatToken t) (fun _ => True) := by
  obtain ⟨_, h1, h2, h3, _⟩ := h
  unfold TToken.size at hs
  refine Ok.br (fun _ => Ok.chk (by omega) (Ok.bind (Q1 := fun s => s.length ≤ 9000000) (Ok.for h2.1 (fun i s => s.length ≤ 1 + t.xName.length + sumL TAttr.size (t.xAttrs.take i) + 2 * i) (by simp [sumL]; omega) (fun i x s hx hi => ?_) (fun s hi => ?_)) (fun r _ hr => Ok.chk (by omega) (Ok.ret trivial)))) (fun _ => Ok.br (fun _ => Ok.chk (by omega) (Ok.chk (by simp; omega) (Ok.ret trivial))) (fun _ => Ok.br (fun _ => Ok.ret trivial) (fun _ => Ok.ret trivial)))
  · have e := sumL_take (f := TAttr.size) hx
    have hle := sumL_take_le (f := TAttr.size) t.xAttrs (i + 1)
    have hlt := (List.getElem?_eq_some_iff.1 hx).1
    have hsz : TAttr.size x = x.xName.length + (x.xValue.length + (0)) := rfl
    rw [e] at hle
    refine Ok.chk (by omega) (Ok.chk (by simp; omega) (Ok.chk (by simp; omega) (Ok.chk (by simp; omega) (Ok.ret ?_))))
    show List.length _ ≤ _
    rw [e]
    simp
    omega
  · have hle := sumL_take_le (f := TAttr.size) t.xAttrs t.xAttrs.length
    omega
theorem d_l9Same (a b : List (List UInt8)) (h : a.length ≤ maxLen) : Dec (sl9Same a b) (a = b) := Dec.list h (fun i x y _ hy => DecS.get hy (DecS.flat beqT))
theorem d_sPolicies (a b : TPolicy) (h : a.ok) : Dec (sEqualPolicies a b) (a = b) := by
  obtain ⟨_, h1, h2, h3, _⟩ := h
  refine (Dec.and beqT (Dec.bind (d_l9Same _ _ h1.1) (Dec.bind (d_l9Same _ _ h2.1) (Dec.bind (d_l9Same _ _ h3.1) (Dec.lit beqT))))).iff ?_
  obtain ⟨a1, a2, a3, a4, a5⟩ := a; obtain ⟨b1, b2, b3, b4, b5⟩ := b
  simp
theorem d_sInts (a b : List Int) (h : a.length ≤ maxLen) : Dec (sEqualInts a b) (a = b) := Dec.list h (fun i x y _ hy => DecS.get hy ((DecS.ne DecS.tt).iff (by simp)))
theorem d_sNode (a b : TNode) (h : a.ok) : Dec (sl6Same a b) (a = b) := by
  obtain ⟨_, _, _, h4, _⟩ := h
  refine (Dec.nand beqT (Dec.nand beqT (Dec.ne (Dec.len (fun hl => Dec.loop hl h4.1 (fun i x y _ hy => DecS.get hy (DecS.flat (cmpT (TAttr.cmp x y))))))))).iff ?_
  obtain ⟨a1, a2, a3, a4⟩ := a; obtain ⟨b1, b2, b3, b4⟩ := b
  simp <;> grind
theorem d_sBuilders (a b : TBuilder) (h : a.ok) : Dec (sEqualBuilders a b) (a = b) := by
  obtain ⟨h1, h2, _⟩ := h
  refine (Dec.len (fun hl => Dec.bindN (d_sInts _ _ h2.1) (Dec.loop hl h1.1 (fun i x y hx hy => DecS.get hy (DecS.call1 (d_sNode x y (h1.2 x (List.mem_of_getElem? hx)))))))).iff ?_
  obtain ⟨a1, a2⟩ := a; obtain ⟨b1, b2⟩ := b
  simp <;> grind
theorem d_sTokens (a b : List TToken) (h : okL TToken.ok a) (h' : okL TToken.ok b) (hs : sumL TToken.size a ≤ 1048576) (hs' : sumL TToken.size b ≤ 1048576) : Dec (sl15SameTokens a b) (a = b) := by
  refine Dec.list h.1 (fun i x y hx hy => ?_)
  have hxm := List.mem_of_getElem? hx
  have hym := List.mem_of_getElem? hy
  obtain ⟨fx, hfx, _⟩ := ok_FormatToken x (h.2 x hxm) (Nat.le_trans (sumL_mem hxm) hs)
  obtain ⟨fy, hfy, _⟩ := ok_FormatToken y (h'.2 y hym) (Nat.le_trans (sumL_mem hym) hs')
  obtain ⟨_, _, h2, _⟩ := h.2 x hxm
  have hm := h2.1
  unfold maxLen at hm
  refine DecS.iff (p := x.xKind = y.xKind ∧ fx = fy ∧ x.xName = y.xName ∧ x.xText = y.xText ∧ x.xAttrs.length = y.xAttrs.length ∧ x.xAttrs = y.xAttrs) ?_ ?_
  · refine DecS.get hy (DecS.ne (DecS.val hfx (DecS.get hy (DecS.val hfy (DecS.nand beqT (DecS.get hy (DecS.nand beqT (DecS.get hy (DecS.nand beqT (DecS.get hy (DecS.len (fun hl => DecS.whileD hl ?_ ?_))))))))))))
    · intro j u v hu hv
      have hj := (List.getElem?_eq_some_iff.1 hu).1
      exact brE (Int.ofNat_lt.2 hj) (getI_bind hu (getI_bind hy (getI_bind hv (while_body (cmpT (TAttr.cmp u v)) (by omega)))))
    · exact brN (Int.lt_irrefl _) rfl
  constructor
  · rintro ⟨e1, _, e2, e3, _, e4⟩
    obtain ⟨x1, x2, x3, x4⟩ := x; obtain ⟨y1, y2, y3, y4⟩ := y
    simp only at e1 e2 e3 e4
    subst e1; subst e2; subst e3; subst e4; rfl
  · rintro rfl
    rw [hfx] at hfy
    injection hfy with e
    exact ⟨rfl, e, rfl, rfl, rfl, rfl⟩
theorem d_sLists (a b : TPage) (h1 : a.xSlots.length ≤ maxLen) (h2 : a.xMods.length ≤ maxLen) : Dec (sl15Lists a b) (a.xSlots = b.xSlots ∧ a.xMods = b.xMods) := by
  refine (Dec.len (fun hl => Dec.len (fun hl2 => Dec.loopK hl h1 (fun i x y _ hy => DecS.get hy (DecS.flat (cmpT (TSlot.cmp x y)))) (Dec.loop hl2 h2 (fun i x y _ hy => DecS.get hy (DecS.flat (cmpT (TModule.cmp x y)))))))).iff ?_
  constructor
  · rintro ⟨_, _, e1, e2⟩; exact ⟨e1, e2⟩
  · rintro ⟨e1, e2⟩; exact ⟨by rw [e1], by rw [e2], e1, e2⟩
theorem d_sAddrs (a b : List TAddr) (h : a.length ≤ maxLen) : Dec (sl15Addrs a b) (a = b) := Dec.list h (fun i x y _ hy => DecS.get hy (DecS.flat (cmpT (TAddr.cmp x y))))
theorem d_sPages (a b : TPage) (h : a.ok) (h' : b.ok) (hs : a.size ≤ 1048576) (hs' : b.size ≤ 1048576) : Dec (sEqualPages a b) (a = b) := by
  obtain ⟨_, g1, _, g3, _, g5, g6, g7, g8, _, _, _, _, g13, g14, _⟩ := h
  obtain ⟨_, _, _, k3, _⟩ := h'
  have hq : sumL TToken.size a.xQueue ≤ 1048576 := by unfold TPage.size at hs; omega
  have hq' : sumL TToken.size b.xQueue ≤ 1048576 := by unfold TPage.size at hs'; omega
  refine (Dec.nand (cmpT (TAddr.cmp _ _)) (Dec.nand (cmpT (TTokenizer.cmp _ _)) (Dec.nand beqT (Dec.ne (Dec.ne (Dec.ne (Dec.ne (Dec.nand beqT (Dec.bind (d_sPolicies _ _ g1) (Dec.bind (d_sBuilders _ _ g5) (Dec.bind (d_sTokens _ _ g3 k3 hq hq') (Dec.bind (d_sLists a b g6.1 g7.1) (Dec.bind (d_sAddrs _ _ g8.1) (Dec.bind (d_sAddrs _ _ g13.1) (Dec.bindE (Dec.bindE (d_l9Same _ _ g14.1))))))))))))))))).iff ?_
  clear hq hq' hs hs' g1 g3 g5 g6 g7 g8 g13 g14 k3
  obtain ⟨a1, a2, a3, a4, a5, a6, a7, a8, a9, a10, a11, a12, a13, a14, a15, a16⟩ := a
  obtain ⟨b1, b2, b3, b4, b5, b6, b7, b8, b9, b10, b11, b12, b13, b14, b15, b16⟩ := b
  simp <;> grind
theorem d_sHidden (a b : THidden) (h : a.ok) (h' : b.ok) (hs : a.size ≤ 1048576) (hs' : b.size ≤ 1048576) : Dec (sEqualHidden a b) (a = b) := by
  have hp : a.xPage.size ≤ 1048576 := by unfold THidden.size at hs; omega
  have hp' : b.xPage.size ≤ 1048576 := by unfold THidden.size at hs'; omega
  obtain ⟨_, h1, h2, h3, _⟩ := h
  obtain ⟨_, k1, k2, k3, _⟩ := h'
  refine (Dec.nand beqT (Dec.bindN (d_sPages _ _ (by assumption) (by assumption) hp hp') (Dec.len (fun hl => Dec.bindN (d_sServers _ _ (by assumption)) (Dec.ne (Dec.loop hl (by first | exact h2.1 | exact h3.1) (fun i x y _ hy => DecS.get hy (DecS.flat (cmpT (TKept.cmp x y)))))))))).iff ?_
  clear hp hp' hs hs' h1 h2 h3 k1 k2 k3
  obtain ⟨a1, a2, a3, a4, a5⟩ := a; obtain ⟨b1, b2, b3, b4, b5⟩ := b
  simp <;> grind
theorem d_Entry (a b : List TEntry) (h : a.length ≤ maxLen) : Dec (g_slices_Equal_Entry_Entry a b) (a = b) := Dec.list h (fun i x y _ hy => DecS.get hy (DecS.flat (cmpT (TEntry.cmp x y))))
theorem d_Sent (a b : List TSent) (h : a.length ≤ maxLen) : Dec (g_slices_Equal_Sent_Sent a b) (a = b) := Dec.list h (fun i x y _ hy => DecS.get hy (DecS.flat (cmpT (TSent.cmp x y))))
theorem d_iCaches (a b : TCache) (h : a.ok) : Dec (iEqualCaches a b) (a = b) := by
  refine (Dec.bindE (d_Entry _ _ h.1.1)).iff ?_
  obtain ⟨a1⟩ := a; obtain ⟨b1⟩ := b
  simp
theorem d_iNets (a b : TNet) (h : a.ok) : Dec (iEqualNets a b) (a = b) := by
  obtain ⟨h1, h2, h3, _⟩ := h
  refine (Dec.bind (d_iServers _ _ h1) (Dec.bind (d_iCaches _ _ h2) (Dec.bind (d_Sent _ _ h3.1) (Dec.lit beqT)))).iff ?_
  obtain ⟨a1, a2, a3, a4⟩ := a; obtain ⟨b1, b2, b3, b4⟩ := b
  simp
theorem d_iVisit (a b : TVisit) (h : a.ok) : Dec (iequalVisits a b) (a = b) := by
  obtain ⟨_, h2, _, _⟩ := h
  refine (Dec.and (cmpT (TAddr.cmp _ _)) (Dec.and beqT (Dec.bindE (d_iPages _ _ (by assumption))))).iff ?_
  obtain ⟨a1, a2, a3⟩ := a; obtain ⟨b1, b2, b3⟩ := b
  simp <;> grind
theorem d_iTabs (a b : TTab) (h : a.ok) : Dec (iEqualTabs a b) (a = b) := by
  obtain ⟨h1, _⟩ := h
  refine (Dec.and beqT (Dec.bindE (Dec.list h1.1 (fun i x y hx hy => DecS.get hy (DecS.call1 (d_iVisit x y (h1.2 x (List.mem_of_getElem? hx)))))))).iff ?_
  obtain ⟨a1, a2⟩ := a; obtain ⟨b1, b2⟩ := b
  simp <;> grind
theorem d_iWorlds (a b : TWorld) (h : a.ok) : Dec (iEqualWorlds a b) (a = b) := by
  obtain ⟨h1, h2, h3, _⟩ := h
  refine (Dec.bind (d_iNets _ _ (by assumption)) (Dec.bind (d_iTabs _ _ (by assumption)) (Dec.bind (d_iHidden _ _ (by assumption)) (Dec.lit beqT)))).iff ?_
  obtain ⟨a1, a2, a3, a4⟩ := a; obtain ⟨b1, b2, b3, b4⟩ := b
  simp <;> grind
theorem d_sCaches (a b : TCache) (h : a.ok) : Dec (sEqualCaches a b) (a = b) := by
  refine (Dec.list h.1.1 (fun i x y _ hy => DecS.get hy (DecS.flat (cmpT (TEntry.cmp x y))))).iff ?_
  obtain ⟨a1⟩ := a; obtain ⟨b1⟩ := b
  simp
theorem d_sNets (a b : TNet) (h : a.ok) : Dec (sEqualNets a b) (a = b) := by
  obtain ⟨h1, h2, h3, _⟩ := h
  refine (Dec.bindN (d_sServers _ _ h1) (Dec.bindN (d_sCaches _ _ h2) (Dec.len (fun hl => Dec.ne (Dec.loop hl h3.1 (fun i x y _ hy => DecS.get hy (DecS.flat (cmpT (TSent.cmp x y))))))))).iff ?_
  obtain ⟨a1, a2, a3, a4⟩ := a; obtain ⟨b1, b2, b3, b4⟩ := b
  constructor
  · rintro ⟨rfl, rfl, _, rfl, rfl⟩; rfl
  · intro e; cases e; exact ⟨rfl, rfl, rfl, rfl, rfl⟩
theorem d_sTabs (a b : TTab) (h : a.ok) (h' : b.ok) (hs : a.size ≤ 1048576) (hs' : b.size ≤ 1048576) : Dec (sEqualTabs a b) (a = b) := by
  obtain ⟨h1, _⟩ := h
  obtain ⟨k1, _⟩ := h'
  refine (Dec.ne (Dec.len (fun hl => Dec.loop hl h1.1 (fun i x y hx hy => ?_)))).iff (?_ : (_ ∧ _ ∧ a.xVisits = b.xVisits) ↔ _)
  · have hxm := List.mem_of_getElem? hx
    have hym := List.mem_of_getElem? hy
    have hx1 := sumL_mem (f := TVisit.size) hxm
    have hy1 := sumL_mem (f := TVisit.size) hym
    have hxs : x.xPage.size ≤ 1048576 := by have e : x.size = x.xAddr.size + (x.xPage.size + (0)) := rfl; unfold TTab.size at hs; omega
    have hys : y.xPage.size ≤ 1048576 := by have e : y.size = y.xAddr.size + (y.xPage.size + (0)) := rfl; unfold TTab.size at hs'; omega
    obtain ⟨_, o2, o3, _⟩ := h1.2 x hxm
    obtain ⟨_, p2, p3, _⟩ := k1.2 y hym
    refine (DecS.get hy (DecS.nand (cmpT (TAddr.cmp _ _)) (DecS.get hy (DecS.nand beqT (DecS.get hy (DecS.call1 (d_sPages _ _ (by assumption) (by assumption) hxs hys))))))).iff ?_
    obtain ⟨a1, a2, a3⟩ := x; obtain ⟨b1, b2, b3⟩ := y
    simp <;> grind
  · obtain ⟨a1, a2⟩ := a; obtain ⟨b1, b2⟩ := b
    simp <;> grind
theorem d_sWorlds (a b : TWorld) (h : a.ok) (h' : b.ok) (hs : a.size ≤ 1048576) (hs' : b.size ≤ 1048576) : Dec (sEqualWorlds a b) (a = b) := by
  have e1 : a.xTab.size ≤ 1048576 ∧ a.xHidden.size ≤ 1048576 := by unfold TWorld.size at hs; omega
  have e2 : b.xTab.size ≤ 1048576 ∧ b.xHidden.size ≤ 1048576 := by unfold TWorld.size at hs'; omega
  obtain ⟨h1, h2, h3, _⟩ := h
  obtain ⟨k1, k2, k3, _⟩ := h'
  refine (Dec.bind (d_sNets _ _ (by assumption)) (Dec.bind (d_sTabs _ _ (by assumption) (by assumption) e1.1 e2.1) (Dec.bind (d_sHidden _ _ (by assumption) (by assumption) e1.2 e2.2) (Dec.lit beqT)))).iff ?_
  clear e1 e2 hs hs' h1 h2 h3 k1 k2 k3
  obtain ⟨a1, a2, a3, a4⟩ := a; obtain ⟨b1, b2, b3, b4⟩ := b
  simp <;> grind
theorem le_FnExactEqualWorlds (a b : TWorld) (ha : a.ok) (hb : b.ok) : lFnExactEqualWorlds a b = some true := by
  refine E_sz (n := a.size) (if_pos ⟨by omega, by omega, ha⟩) (fun m hm h0 hle => E_sz (n := b.size) (if_pos ⟨h0, by omega, hb⟩) (fun m2 hm2 h02 hle2 => ?_))
  have hs : a.size ≤ 1048576 := by omega
  have hs' : b.size ≤ 1048576 := by omega
  obtain ⟨u, hu, hu2⟩ := d_sWorlds a b ha hb hs hs'
  obtain ⟨v, hv, hv2⟩ := d_iWorlds a b ha
  have huv : v = u := by rw [Bool.eq_iff_iff]; exact hv2.trans hu2.symm
  subst huv
  exact E_bind (if_pos hs) (E_bind (if_pos hs') (E_bind hu (E_bind (if_pos hs) (E_bind (if_pos hs') (E_bind hv (E_no (by simp) (E_bind (if_pos hs) (E_bind (if_pos ha) (E_no (by simp) (E_bind (if_pos hs') (E_bind (if_pos hb) (E_no (by simp) rfl))))))))))))
theorem law7 (a0 : TWorld) (a1 : TWorld) (o0 : a0.ok) (o1 : a1.ok) (k : Bool → Option β) : F7 β (rows kServer TServer.row a0.xNet.xServers) (rows kEntry TEntry.row a0.xNet.xCache.xEntries) (rows kSent TSent.row a0.xNet.xLog) a0.xNet.xNow (rows kVisit TVisit.row a0.xTab.xVisits) a0.xTab.xAt a0.xHidden.xReady a0.xHidden.xPage.xAddr.xHost a0.xHidden.xPage.xAddr.xPath a0.xHidden.xPage.xPolicy.xSet (rStr a0.xHidden.xPage.xPolicy.xScripts) (rStr a0.xHidden.xPage.xPolicy.xStyles) (rStr a0.xHidden.xPage.xPolicy.xImages) a0.xHidden.xPage.xPolicy.xNonce a0.xHidden.xPage.xTok.xRest (rows kToken TToken.row a0.xHidden.xPage.xQueue) a0.xHidden.xPage.xEnded (rows kNode TNode.row a0.xHidden.xPage.xBuilder.xNodes) (rInt a0.xHidden.xPage.xBuilder.xOpen) (rows kSlot TSlot.row a0.xHidden.xPage.xSlots) (rows kModule TModule.row a0.xHidden.xPage.xMods) (rows kAddr TAddr.row a0.xHidden.xPage.xEntries) a0.xHidden.xPage.xBlock a0.xHidden.xPage.xInline a0.xHidden.xPage.xDeferred a0.xHidden.xPage.xEntered (rows kAddr TAddr.row a0.xHidden.xPage.xRan) (rStr a0.xHidden.xPage.xLog) a0.xHidden.xPage.xLoaded (rows kKept TKept.row a0.xHidden.xTaken) (rows kServer TServer.row a0.xHidden.xServers) a0.xHidden.xNow a0.xFast (rows kServer TServer.row a1.xNet.xServers) (rows kEntry TEntry.row a1.xNet.xCache.xEntries) (rows kSent TSent.row a1.xNet.xLog) a1.xNet.xNow (rows kVisit TVisit.row a1.xTab.xVisits) a1.xTab.xAt a1.xHidden.xReady a1.xHidden.xPage.xAddr.xHost a1.xHidden.xPage.xAddr.xPath a1.xHidden.xPage.xPolicy.xSet (rStr a1.xHidden.xPage.xPolicy.xScripts) (rStr a1.xHidden.xPage.xPolicy.xStyles) (rStr a1.xHidden.xPage.xPolicy.xImages) a1.xHidden.xPage.xPolicy.xNonce a1.xHidden.xPage.xTok.xRest (rows kToken TToken.row a1.xHidden.xPage.xQueue) a1.xHidden.xPage.xEnded (rows kNode TNode.row a1.xHidden.xPage.xBuilder.xNodes) (rInt a1.xHidden.xPage.xBuilder.xOpen) (rows kSlot TSlot.row a1.xHidden.xPage.xSlots) (rows kModule TModule.row a1.xHidden.xPage.xMods) (rows kAddr TAddr.row a1.xHidden.xPage.xEntries) a1.xHidden.xPage.xBlock a1.xHidden.xPage.xInline a1.xHidden.xPage.xDeferred a1.xHidden.xPage.xEntered (rows kAddr TAddr.row a1.xHidden.xPage.xRan) (rStr a1.xHidden.xPage.xLog) a1.xHidden.xPage.xLoaded (rows kKept TKept.row a1.xHidden.xTaken) (rows kServer TServer.row a1.xHidden.xServers) a1.xHidden.xNow a1.xFast k = k true :=
  ei_lFnExactEqualWorlds a0 a1 k true (le_FnExactEqualWorlds a0 a1 o0 o1)
end Go.Am

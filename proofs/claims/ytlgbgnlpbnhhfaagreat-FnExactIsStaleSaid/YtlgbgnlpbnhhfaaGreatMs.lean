/-
  What IsStale computes, and the law.
-/
import Derived.Test.YtlgbgnlpbnhhfaaGreatEs
import Derived.Test.YtlgbgnlpbnhhfaaGreatAmOk
import Derived.Test.YtlgbgnlpbnhhfaaGreatAmEq
import Derived.Test.YtlgbgnlpbnhhfaaGreatAmMore
set_option linter.unusedVariables false
set_option linter.unusedSimpArgs false
namespace Go.Am
open Go
variable {β : Type}
/-- An answer that tells whether p. -/
def Dec (x : Option Bool) (p : Prop) : Prop := ∃ b, x = some b ∧ (b = true ↔ p)
def DecS (x : Option (Unit ⊕ (Unit ⊕ Unit))) (p : Prop) : Prop := (p → x = some (.inl ())) ∧ (¬ p → x = some (.inr (.inl ())))
section
variable {T : Type} {p q : Prop} {X f : Option Bool} {b : Bool}
theorem Dec.iff (h : Dec X p) (e : p ↔ q) : Dec X q := by obtain ⟨b, h1, h2⟩ := h; exact ⟨b, h1, h2.trans e⟩
theorem Dec.lit (h : b = true ↔ p) : Dec (some b) p := ⟨b, rfl, h⟩
theorem Dec.tt : Dec (some true) True := ⟨true, rfl, by simp⟩
theorem Dec.and (hb : b = true ↔ p) (hX : Dec X q) : Dec (br b X (some false)) (p ∧ q) := by
  obtain ⟨c, h1, h2⟩ := hX
  cases b with
  | true => exact ⟨c, h1, by rw [h2]; exact ⟨fun h => ⟨hb.1 rfl, h⟩, fun h => h.2⟩⟩
  | false => exact ⟨false, rfl, ⟨fun h => (by cases h), fun h => by have := hb.2 h.1; cases this⟩⟩
theorem Dec.nand (hb : b = true ↔ p) (hX : Dec X q) : Dec (br (!b) (some false) X) (p ∧ q) := by
  have := Dec.and hb hX
  cases b <;> exact this
theorem Dec.ne {x y : Int} (hX : Dec X q) : Dec (br (x != y) (some false) X) (x = y ∧ q) := Dec.nand (b := x == y) (by simp) hX
theorem Dec.bind (hf : Dec f p) (hX : Dec X q) : Dec (f.bind fun r => br r X (some false)) (p ∧ q) := by
  obtain ⟨c, rfl, h2⟩ := hf
  exact Dec.and h2 hX
theorem Dec.bindN (hf : Dec f p) (hX : Dec X q) : Dec (f.bind fun r => br (!r) (some false) X) (p ∧ q) := by
  obtain ⟨c, rfl, h2⟩ := hf
  exact Dec.nand h2 hX
theorem Dec.bindE (hf : Dec f p) : Dec (f.bind fun r => some r) p := by
  obtain ⟨c, rfl, h2⟩ := hf
  exact ⟨c, rfl, h2⟩
theorem Dec.len {a b : List T} (hX : a.length = b.length → Dec X q) : Dec (br ((a.length : Int) != (b.length : Int)) (some false) X) (a.length = b.length ∧ q) := by
  rw [len_ne]
  by_cases c : a.length = b.length
  · rw [decide_eq_true c]; exact (hX c).iff ⟨fun h => ⟨c, h⟩, fun h => h.2⟩
  · rw [decide_eq_false c]; exact ⟨false, rfl, ⟨fun h => (by cases h), fun h => absurd h.1 c⟩⟩
theorem Dec.loopK [DecidableEq T] {a b : List T} {body : Nat → T → Unit → Option (Unit ⊕ (Unit ⊕ Unit))} (hl : a.length = b.length) (hm : a.length ≤ maxLen)
    (h : ∀ i x y, a[i]? = some x → b[i]? = some y → DecS (body i x ()) (x = y)) (hX : Dec X q) : Dec ((forE a body (fun _ => (.inr () : Unit ⊕ Unit)) ()).bind (Sum.elim (fun _ => some false) (fun _ => X))) (a = b ∧ q) := by
  rw [for_eqL (.inl ()) hl hm (fun i x y hx hy => by
    obtain ⟨h1, h2⟩ := h i x y hx hy
    by_cases c : x = y
    · rw [if_pos c]; exact h1 c
    · rw [if_neg c]; exact h2 c)]
  by_cases c : a = b
  · rw [if_pos c]; exact hX.iff ⟨fun h => ⟨c, h⟩, fun h => h.2⟩
  · rw [if_neg c]; exact ⟨false, rfl, ⟨fun h => (by cases h), fun h => absurd h.1 c⟩⟩
theorem Dec.loop [DecidableEq T] {a b : List T} {body : Nat → T → Unit → Option (Unit ⊕ (Unit ⊕ Unit))} (hl : a.length = b.length) (hm : a.length ≤ maxLen)
    (h : ∀ i x y, a[i]? = some x → b[i]? = some y → DecS (body i x ()) (x = y)) : Dec ((forE a body (fun _ => (.inr () : Unit ⊕ Unit)) ()).bind (Sum.elim (fun _ => some false) (fun _ => some true))) (a = b) :=
  (Dec.loopK hl hm h Dec.tt).iff (by simp)
/-- The library's comparison of two lists, and the specification's. -/
theorem Dec.list [DecidableEq T] {a b : List T} {body : Nat → T → Unit → Option (Unit ⊕ (Unit ⊕ Unit))} (hm : a.length ≤ maxLen)
    (h : ∀ i x y, a[i]? = some x → b[i]? = some y → DecS (body i x ()) (x = y)) : Dec (br ((a.length : Int) != (b.length : Int)) (some false) ((forE a body (fun _ => (.inr () : Unit ⊕ Unit)) ()).bind (Sum.elim (fun _ => some false) (fun _ => some true)))) (a = b) :=
  (Dec.len (fun hl => Dec.loop hl hm h)).iff ⟨fun h => h.2, fun h => ⟨by rw [h], h⟩⟩
theorem DecS.get {l : List T} {i : Nat} {y : T} {X : T → Option (Unit ⊕ (Unit ⊕ Unit))} (h : l[i]? = some y) (hX : DecS (X y) p) : DecS ((getI l (i : Int)).bind X) p := by rw [getI_nat h]; exact hX
theorem DecS.iff {X : Option (Unit ⊕ (Unit ⊕ Unit))} (h : DecS X p) (e : p ↔ q) : DecS X q := ⟨fun h2 => h.1 (e.2 h2), fun h2 => h.2 (fun h3 => h2 (e.1 h3))⟩
theorem DecS.tt : DecS (some (.inl ())) True := ⟨fun _ => rfl, fun h => absurd trivial h⟩
theorem DecS.nand {X : Option (Unit ⊕ (Unit ⊕ Unit))} (hb : b = true ↔ p) (hX : DecS X q) : DecS (br (!b) (some (.inr (.inl ()))) X) (p ∧ q) := by
  cases b with
  | true => exact hX.iff ⟨fun h => ⟨hb.1 rfl, h⟩, fun h => h.2⟩
  | false => exact ⟨fun h => (by have := hb.2 h.1; cases this), fun _ => rfl⟩
theorem DecS.flat (hb : b = true ↔ p) : DecS (br (!b) (some (.inr (.inl ()))) (some (.inl ()))) p := (DecS.nand hb DecS.tt).iff (by simp)
theorem DecS.ne {x y : Int} {X : Option (Unit ⊕ (Unit ⊕ Unit))} (hX : DecS X q) : DecS (br (x != y) (some (.inr (.inl ()))) X) (x = y ∧ q) := DecS.nand (b := x == y) (by simp) hX
theorem DecS.call {X : Option (Unit ⊕ (Unit ⊕ Unit))} (hf : Dec f p) (hX : DecS X q) : DecS (f.bind fun r => br (!r) (some (.inr (.inl ()))) X) (p ∧ q) := by
  obtain ⟨c, rfl, h2⟩ := hf
  exact DecS.nand h2 hX
theorem DecS.call1 (hf : Dec f p) : DecS (f.bind fun r => br (!r) (some (.inr (.inl ()))) (some (.inl ()))) p := (DecS.call hf DecS.tt).iff (by simp)
theorem DecS.len {a b : List T} {X : Option (Unit ⊕ (Unit ⊕ Unit))} (hX : a.length = b.length → DecS X q) : DecS (br ((a.length : Int) != (b.length : Int)) (some (.inr (.inl ()))) X) (a.length = b.length ∧ q) := by
  rw [len_ne]
  by_cases c : a.length = b.length
  · rw [decide_eq_true c]; exact (hX c).iff ⟨fun h => ⟨c, h⟩, fun h => h.2⟩
  · rw [decide_eq_false c]; exact ⟨fun h => absurd h.1 c, fun _ => rfl⟩
/-- A counting loop that compares two lists. -/
theorem while_dec [DecidableEq T] {a b : List T} {body : Int → Option (Int ⊕ (Unit ⊕ Unit))} (hl : a.length = b.length)
    (h : ∀ (i : Nat) x y, a[i]? = some x → b[i]? = some y → body (i : Int) = some (if x = y then .inl ((i + 1 : Nat) : Int) else .inr (.inl ()))) (hf : body (a.length : Int) = some (.inr (.inr ()))) :
    ∀ (zs ys : List T) (i : Nat), a.drop i = zs → b.drop i = ys → i ≤ a.length → whileE body (i : Int) = some (if zs = ys then .inr () else .inl ()) := by
  intro zs
  induction zs with
  | nil =>
    intro ys i h1 h2 hi
    have : i = a.length := by
      have := List.drop_eq_nil_iff.1 h1
      omega
    subst this
    obtain rfl : ys = [] := by rw [← h2, hl]; simp
    unfold whileE
    rw [whileInf_step, hf]
    rfl
  | cons z zs ih =>
    intro ys i h1 h2 hi
    have hz : a[i]? = some z := by
      have := congrArg (fun l => l[0]?) h1
      simpa using this
    have hlt := (List.getElem?_eq_some_iff.1 hz).1
    cases ys with
    | nil => have := List.drop_eq_nil_iff.1 h2; omega
    | cons y ys =>
      have hy : b[i]? = some y := by
        have := congrArg (fun l => l[0]?) h2
        simpa using this
      unfold whileE
      rw [whileInf_step, h i z y hz hy]
      by_cases c : z = y
      · rw [if_pos c]
        show whileE body ((i + 1 : Nat) : Int) = _
        rw [ih ys (i + 1) (by rw [← List.tail_drop, h1]; rfl) (by rw [← List.tail_drop, h2]; rfl) (by omega)]
        subst c
        simp
      · rw [if_neg c]
        show some _ = some _
        rw [if_neg (by intro e; exact c (List.cons.inj e).1)]
theorem DecS.whileD [DecidableEq T] {a b : List T} {body : Int → Option (Int ⊕ (Unit ⊕ Unit))} (hl : a.length = b.length)
    (h : ∀ (i : Nat) x y, a[i]? = some x → b[i]? = some y → body (i : Int) = some (if x = y then .inl ((i + 1 : Nat) : Int) else .inr (.inl ()))) (hf : body (a.length : Int) = some (.inr (.inr ()))) :
    DecS ((whileE body 0).bind (Sum.elim (fun _ => some (.inr (.inl ()))) (fun _ => some (.inl ())))) (a = b) := by
  have := while_dec hl h hf a b 0 rfl rfl (Nat.zero_le _)
  rw [show ((0 : Nat) : Int) = 0 from rfl] at this
  rw [this]
  by_cases c : a = b
  · rw [if_pos c]; exact ⟨fun _ => rfl, fun h => absurd c h⟩
  · rw [if_neg c]; exact ⟨fun h => absurd h c, fun _ => rfl⟩
end
theorem beqT {T : Type} [BEq T] [LawfulBEq T] {x y : T} : (x == y) = true ↔ x = y := beq_iff_eq
theorem cmpT {p : Prop} [Decidable p] {b : Bool} (h : b = decide p) : b = true ↔ p := by rw [h]; simp
theorem d_File (a b : List TFile) (h : a.length ≤ maxLen) : Dec (g_slices_Equal_File_File a b) (a = b) := Dec.list h (fun i x y _ hy => DecS.get hy (DecS.flat (cmpT (TFile.cmp x y))))
theorem d_iServer (x y : TServer) (h : x.ok) : Dec (iEqualServers_1 x y) (x = y) := by
  obtain ⟨_, h2, _⟩ := h
  refine (Dec.and beqT (Dec.bindE (d_File _ _ h2.1))).iff ?_
  obtain ⟨x1, x2⟩ := x; obtain ⟨y1, y2⟩ := y
  simp
theorem d_iServers (a b : List TServer) (h : okL TServer.ok a) : Dec (iEqualServers a b) (a = b) :=
  Dec.bindE (Dec.list h.1 (fun i x y hx hy => DecS.get hy (DecS.call1 (d_iServer x y (h.2 x (List.mem_of_getElem? hx))))))
theorem DecS.val {A : Type} {f : Option A} {v : A} {X : A → Option (Unit ⊕ (Unit ⊕ Unit))} {p : Prop} (h : f = some v) (hX : DecS (X v) p) : DecS (f.bind X) p := by subst h; exact hX
theorem while_body {T : Type} [DecidableEq T] {x y : T} {b : Bool} {i : Nat} (hb : b = true ↔ x = y) (hi : i < 9223372036854775807) : br (!b) (some (.inr (.inl ()))) (some (.inl (IntKind.wrap .i64 ((i : Int) + 1)))) = some (if x = y then (.inl ((i + 1 : Nat) : Int) : Int ⊕ (Unit ⊕ Unit)) else .inr (.inl ())) := by
  rw [wrapS hi]
  by_cases c : x = y
  · rw [if_pos c, hb.2 c]; rfl
  · rw [if_neg c]
    have : b = false := by cases b with
      | true => exact absurd (hb.1 rfl) c
      | false => rfl
    rw [this]; rfl
theorem d_sServers (a b : List TServer) (h : okL TServer.ok a) : Dec (sEqualServers a b) (a = b) := by
  refine Dec.list h.1 (fun i x y hx hy => ?_)
  obtain ⟨_, h2, _⟩ := h.2 x (List.mem_of_getElem? hx)
  have hm := h2.1
  unfold maxLen at hm
  refine DecS.iff (p := x.xHost = y.xHost ∧ x.xFiles.length = y.xFiles.length ∧ x.xFiles = y.xFiles) ?_ ?_
  · refine DecS.get hy (DecS.nand beqT (DecS.get hy (DecS.len (fun hl => DecS.whileD hl ?_ ?_))))
    · intro j u v hu hv
      have hj := (List.getElem?_eq_some_iff.1 hu).1
      exact brE (Int.ofNat_lt.2 hj) (getI_bind hu (getI_bind hy (getI_bind hv (while_body (cmpT (TFile.cmp u v)) (by omega)))))
    · exact brN (Int.lt_irrefl _) rfl
  obtain ⟨x1, x2⟩ := x; obtain ⟨y1, y2⟩ := y
  constructor
  · rintro ⟨e1, _, e2⟩; simp only at e1 e2; subst e1; subst e2; rfl
  · intro e; cases e; exact ⟨rfl, rfl, rfl⟩
theorem eq_IsStale (n : TNet) (h : THidden) (hh : h.ok) : ∃ r, sIsStale n h = some r ∧ iIsStale n h = some r := by
  have hok : okL TServer.ok h.xServers := by
    obtain ⟨_, h1, h2, h3, _⟩ := hh
    assumption
  obtain ⟨u, hu, hu2⟩ := d_sServers h.xServers n.xServers hok
  obtain ⟨v, hv, hv2⟩ := d_iServers h.xServers n.xServers hok
  have huv : v = u := by rw [Bool.eq_iff_iff]; exact hv2.trans hu2.symm
  subst huv
  unfold sIsStale iIsStale
  rw [hu, hv]
  cases h.xReady
  · exact ⟨_, rfl, rfl⟩
  · by_cases c : h.xNow != n.xNow
    · rw [c]; exact ⟨_, rfl, rfl⟩
    · rw [show (h.xNow != n.xNow) = false by simpa using c]; exact ⟨_, rfl, rfl⟩
theorem le_FnExactIsStale (a : TNet) (b : THidden) (ha : a.ok) (hb : b.ok) : lFnExactIsStale a b = some true := by
  refine E_sz (n := a.size) (if_pos ⟨by omega, by omega, ha⟩) (fun m hm h0 hle => E_sz (n := b.size) (if_pos ⟨h0, by omega, hb⟩) (fun m2 hm2 h02 hle2 => ?_))
  have hs : a.size ≤ 1048576 := by omega
  have hs' : b.size ≤ 1048576 := by omega
  obtain ⟨r, hu, hv⟩ := eq_IsStale a b hb
  exact E_bind (if_pos hs) (E_bind (if_pos hs') (E_bind hu (E_bind (if_pos hs) (E_bind (if_pos hs') (E_bind hv (E_no (by simp) (E_bind (if_pos hs) (E_bind (if_pos ha) (E_no (by simp) (E_bind (if_pos hs') (E_bind (if_pos hb) (E_no (by simp) rfl))))))))))))
theorem law4 (a0 : TNet) (a1 : THidden) (o0 : a0.ok) (o1 : a1.ok) (k : Bool → Option β) : F4 β (rows kServer TServer.row a0.xServers) (rows kEntry TEntry.row a0.xCache.xEntries) (rows kSent TSent.row a0.xLog) a0.xNow a1.xReady a1.xPage.xAddr.xHost a1.xPage.xAddr.xPath a1.xPage.xPolicy.xSet (rStr a1.xPage.xPolicy.xScripts) (rStr a1.xPage.xPolicy.xStyles) (rStr a1.xPage.xPolicy.xImages) a1.xPage.xPolicy.xNonce a1.xPage.xTok.xRest (rows kToken TToken.row a1.xPage.xQueue) a1.xPage.xEnded (rows kNode TNode.row a1.xPage.xBuilder.xNodes) (rInt a1.xPage.xBuilder.xOpen) (rows kSlot TSlot.row a1.xPage.xSlots) (rows kModule TModule.row a1.xPage.xMods) (rows kAddr TAddr.row a1.xPage.xEntries) a1.xPage.xBlock a1.xPage.xInline a1.xPage.xDeferred a1.xPage.xEntered (rows kAddr TAddr.row a1.xPage.xRan) (rStr a1.xPage.xLog) a1.xPage.xLoaded (rows kKept TKept.row a1.xTaken) (rows kServer TServer.row a1.xServers) a1.xNow k = k true :=
  ei_lFnExactIsStale a0 a1 k true (le_FnExactIsStale a0 a1 o0 o1)
end Go.Am

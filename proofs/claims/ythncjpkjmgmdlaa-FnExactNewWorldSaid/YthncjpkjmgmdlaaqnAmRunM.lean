/-
  Laws that mark: their calls.
-/
import Derived.Test.YthncjpkjmgmdlaaqnAmMark5
section
set_option linter.unusedVariables false
set_option linter.unusedSimpArgs false
namespace Go.Am
open Go Go.RowKit
inductive VK : V → Kd → Nat → Prop
  | str (s : List UInt8) : VK (.str s) .str 1
  | int (n : Int) : VK (.int .i64 n) .int 1
  | bool (b : Bool) : VK (.bool b) .bool 1
  | sl (s : Nat) (f : Bool) (xs : List V) (ks : List Kd) (N : Nat → Nat) (hs : s = ks.length) (hp : 0 < ks.length) (hm : xs.length ≤ 1152921504606846976)
      (h : ∀ (i : Nat) (x : V) (j : Nat) (c : V) (kd : Kd), xs[i]? = some x → x.cells[j]? = some c → ks[j]? = some kd → VK c kd (N (i * ks.length + j))) : VK (.sl s f xs) (.sl ks) (sumN N (xs.length * ks.length))
theorem cell_block {w : World} {k o : Nat} {v : Value} {cur : Array Value} {e : TypeId} (h : w.cell? ⟨k, o, none⟩ = some v) (hb : w.heap[k]? = some (.cells cur e (0, 0))) : cur[o]? = some v := by
 rw [World.cell?, hb] at h
 exact h
theorem divmod_lt {p m s : Nat} (h : p < m * s) : p / s < m ∧ p % s < s ∧ p / s * s + p % s = p := by
 have hs : 0 < s := by
  rcases Nat.eq_zero_or_pos s with e | e
  ·rw [e, Nat.mul_zero] at h; omega
  ·exact e
 exact ⟨Nat.div_lt_of_lt_mul (by rw [Nat.mul_comm]; exact h), Nat.mod_lt _ hs, Nat.div_add_mod' p s⟩
theorem mt_rows {mt : Nat → List UInt8} {w : World} {s : Nat} {xs : List V} {ks : List Kd} {N : Nat → Nat} {k o cap : Nat} {g : Nat → Nat → Value} {T : Nat → Nat → Nat → Prop} {T' : Nat → Prop} (hs : s = ks.length) (hp : 0 < ks.length) (hm : xs.length ≤ 1152921504606846976) (h0 : 0 < xs.length)
  (hsz : ∀ x ∈ xs, x.cells.length = s) (hg : ∀ i j : Nat, i < xs.length → j < s → w.cell? ⟨k, o + i * s + j, none⟩ = some (g i j)) (hb : ∃ cur e, w.heap[k]? = some (.cells cur e (0, 0)))
  (hr : ∀ (i : Nat) (x : V) (j : Nat) (c : V) (kd : Kd), xs[i]? = some x → x.cells[j]? = some c → ks[j]? = some kd → ∀ k0, MT mt false w kd (g i j) k0 (N (i * ks.length + j)) (T i j))
  (hd : ∀ i j i' j' m, T i j m → T i' j' m → i = i' ∧ j = j') (hk : ∀ i j, ¬ T i j k) (hTk : T' k) (hT : ∀ i j m, T i j m → T' m) (k0 : Nat) : MT mt false w (.sl ks) (.slice (some ⟨k, o, none⟩) xs.length cap) k0 (sumN N (xs.length * ks.length)) T' := by
 subst hs
 obtain ⟨cur, e, hb⟩ := hb
 have hfit : o + xs.length * ks.length ≤ cur.size := by
  have := cell_block (hg (xs.length - 1) (ks.length - 1) (by omega) (by omega)) hb
  have hlt := (Array.getElem?_eq_some_iff.1 this).1
  have e : (xs.length - 1) * ks.length + ks.length = xs.length * ks.length := by
   rw [← Nat.succ_mul]
   congr 1
   omega
  omega
 refine .sl ks k o xs.length cap k0 cur e N (fun p x => p < xs.length * ks.length ∧ T (p / ks.length) (p % ks.length) x) T' h0 hm hb hfit (fun p kd v hp' h1 h2 => ?_) (fun p p' x h1 h2 => ?_) (fun p h => hk _ _ h.2) hTk (fun p x h => hT _ _ x h.2)
 ·obtain ⟨d1, d2, d3⟩ := divmod_lt hp'
  have hx := List.getElem?_eq_getElem d1
  have hc := hsz _ (List.getElem_mem d1)
  have hcj : (xs[p / ks.length]).cells[p % ks.length]? = some _ := List.getElem?_eq_getElem (by rw [hc]; exact d2)
  have hv : g (p / ks.length) (p % ks.length) = v := by
   have := cell_block (hg _ _ d1 d2) hb
   rw [Nat.add_assoc, d3, h2] at this
   injection this with this
   exact this.symm
  have := hr _ _ _ _ kd hx hcj h1 (k0 + sumN N p)
  rw [d3, hv] at this
  exact this.weaken (fun b hb => ⟨hp', hb⟩)
 ·obtain ⟨e1, e2⟩ := hd _ _ _ _ x h1.2 h2.2
  rw [← (divmod_lt h1.1).2.2, ← (divmod_lt h2.1).2.2, e1, e2]
theorem mt_of {mt : Nat → List UInt8} {w : World} {v : V} {kd : Kd} {n : Nat} (hv : VK v kd n) : ∀ {S : Nat → Prop} {x : Value} {T : Nat → Prop}, Rd w S v x → Tr w v x T → (∀ b, T b → ∃ cur e, w.heap[b]? = some (.cells cur e (0, 0))) → ∀ k0, MT mt false w kd x k0 n T := by
 induction hv with
 | str s =>
  intro S x T hr ht hT k0
  cases hr with
  | str _ b _ => exact .leaf _ _ k0 T ⟨b, rfl⟩ (fun e => by cases e)
 | int n =>
  intro S x T hr ht hT k0
  cases hr with
  | int _ _ => exact .leaf _ _ k0 T ⟨n, rfl⟩ (fun e => by cases e)
 | bool b =>
  intro S x T hr ht hT k0
  cases hr with
  | bool _ => exact .leaf _ _ k0 T ⟨b, rfl⟩ (fun e => by cases e)
 | sl s f xs ks N hs hp hm h ih =>
  intro S x T hr ht hT k0
  cases hr with
  | empty _ _ a cap =>
   rw [show ([] : List V).length * ks.length = 0 from Nat.zero_mul _]
   exact .nil ks a cap k0 T
  | sl _ _ _ k o cap g hl hcap hS hsz hf hg hrr =>
   cases ht with
   | leaf _ _ _ h => exact h.elim
   | empty => exact absurd hl (Nat.lt_irrefl 0)
   | sl _ _ _ _ _ _ g' T1 _ hl' hg' hr' hd hk h0 hT' =>
    refine mt_rows (g := g') (T := T1) hs hp hm hl hsz hg' (hT k h0) (fun i x j c kd h1 h2 h3 => ?_) hd hk h0 hT' k0
    have hi : i < xs.length := (List.getElem?_eq_some_iff.1 h1).1
    have hj : j < s := by
     have := (List.getElem?_eq_some_iff.1 h2).1
     rwa [hsz x (List.mem_of_getElem? h1)] at this
    have e : g i j = g' i j := by
     have := (hg i j hi hj).1
     rw [hg' i j hi hj] at this
     injection this with this
     exact this.symm
    exact ih i x j c kd h1 h2 h3 (e ▸ hrr i x j c h1 h2) (hr' i x j c h1 h2) (fun b hb => hT b (hT' i j b hb))
theorem mt_own {mt : Nat → List UInt8} {Γ : Ctx} {w : World} {b s n : Nat} {q : Q} {f : Bool} {xs : List V} {ks : List Kd} {x : Value} (h : VR Γ w (.own b s q xs) x) (hq : q ≠ .any) (hk : VK (.sl s f xs) (.sl ks) n) (hU : Γ.U)
  (hb : ∀ b, Γ.has b → ¬ Γ.S (Γ.blk b) ∧ ∃ cur e, w.heap[Γ.blk b]? = some (.cells cur e (0, 0))) (hZ : ∀ k, Γ.Z k → ∃ cur e, w.heap[k]? = some (.cells cur e (0, 0))) (hN : ∀ b, Γ.has b → ∀ m, Γ.N b m → Γ.S m ∧ Γ.Z m) :
  ∀ k0, MT mt false w (.sl ks) x k0 n (fun m => Γ.has b ∧ (m = Γ.blk b ∨ Γ.N b m)) := by
 intro k0
 cases hk with
 | sl _ _ _ _ N hs hp hm hc =>
 cases h with
 | rd _ _ h => cases h
 | ownNil _ _ _ _ =>
  rw [show ([] : List V).length * ks.length = 0 from Nat.zero_mul _]
  exact .nil ks none 0 k0 _
 | own _ _ _ _ hb' hs' hl hr hfl hu =>
  by_cases h0 : xs.length = 0
  ·obtain rfl := List.length_eq_zero_iff.1 h0
   rw [show ([] : List V).length * ks.length = 0 from Nat.zero_mul _]
   exact .nil ks _ _ k0 _
  ·obtain ⟨r1, g, r2, r3⟩ := hr
   by_cases hqf : q = .flat
   ·refine mt_rows (g := g) (T := fun _ _ _ => False) hs hp hm (by omega) r1 (fun i j hi hj => (r2 i j hi hj).1) (hb b hb').2 (fun i x j c kd h1 h2 h3 k0 => ?_) (fun _ _ _ _ _ h => h.elim) (fun _ _ h => h) ⟨hb', .inl rfl⟩ (fun _ _ _ h => h.elim) k0
    have hn := hfl hqf x (List.mem_of_getElem? h1) c (List.mem_of_getElem? h2)
    exact mt_of (hc i x j c kd h1 h2 h3) (r3 i x j c h1 h2) (.leaf _ _ _ hn) (fun _ h => h.elim) k0
   ·have hqc : q = .clean := by
     cases q with
     | any => exact absurd rfl hq
     | flat => exact absurd rfl hqf
     | clean => rfl
    obtain ⟨g', T, u1, u2, u3, u4⟩ := hu hqc hU
    refine mt_rows (g := g') (T := T) hs hp hm (by omega) r1 u1 (hb b hb').2 (fun i x j c kd h1 h2 h3 k0 => ?_) u3 (fun i j h => (hb b hb').1 (u4 i j _ h).2) ⟨hb', .inl rfl⟩ (fun i j m h => ⟨hb', .inr (u4 i j m h).1⟩) k0
    have hi : i < xs.length := (List.getElem?_eq_some_iff.1 h1).1
    have hj : j < s := by
     have := (List.getElem?_eq_some_iff.1 h2).1
     rwa [r1 x (List.mem_of_getElem? h1)] at this
    have e : g i j = g' i j := by
     have := (r2 i j hi hj).1
     rw [u1 i j hi hj] at this
     injection this with this
     exact this.symm
    exact mt_of (hc i x j c kd h1 h2 h3) (e ▸ r3 i x j c h1 h2) (u2 i x j c h1 h2) (fun m hm => hZ m (hN b hb' m (u4 i j m hm).1).2) k0
inductive Hand (cl : Bool) : V → V → Prop
  | same (v : V) (h : noSl v) : Hand cl v v
  | own (b s : Nat) (q : Q) (f : Bool) (xs : List V) (hq : cl = true → q ≠ .any) (hf : f = true → ∀ x ∈ xs, ∀ c ∈ x.cells, noSl c) : Hand cl (.own b s q xs) (.sl s f xs)
  | nil (s : Nat) (f : Bool) : Hand cl .nil (.sl s f [])
  | sl (s : Nat) (f : Bool) (xs : List V) (hc : cl = false) : Hand cl (.sl s f xs) (.sl s f xs)
  | agg (cs cs' : List V) (hl : cs.length = cs'.length) (h : ∀ (i : Nat) (c c' : V), cs[i]? = some c → cs'[i]? = some c' → Hand cl c c') : Hand cl (.agg cs) (.agg cs')
theorem rd_hand {Γ : Ctx} {w : World} {cl : Bool} {r r' : V} {T : Nat → Prop} (hh : Hand cl r r') (hS : cl = false → ∀ k, Γ.S k → T k) (hZ : ∀ k, Γ.S k → Γ.Z k → T k) (hB : ∀ b, Γ.has b → T (Γ.blk b)) : ∀ {x : Value}, VR Γ w r x → Rd w T r' x := by
 have plain : ∀ {v : V} {x : Value}, noSl v → Rd w Γ.S v x → Rd w T v x := fun {v x} hn hr => by
  cases hr with
  | bool b => exact .bool b
  | int k n => exact .int k n
  | str s x h => exact .str s x h
  | nil => exact .nil
  | _ => exact hn.elim
 induction hh with
 | same v h =>
  intro x hv
  cases hv with
  | rd _ _ hr => exact plain h hr
  | _ => exact h.elim
 | own b s q f xs hq hf =>
  intro x hv
  cases hv with
  | rd _ _ hr => cases hr
  | ownNil => exact .empty s f none 0
  | own _ _ _ _ hb hs hl hr hfl hu =>
   by_cases h0 : xs.length = 0
   ·obtain rfl := List.length_eq_zero_iff.1 h0
    exact .empty s f _ _
   ·obtain ⟨r1, g, r2, r3⟩ := hr
    refine .sl s f xs _ _ _ g (by omega) hl.1 (hB b hb) r1 hf r2 (fun i x j c h1 h2 => (r3 i x j c h1 h2).mono (fun k hk => ?_) (fun _ _ _ => rfl))
    cases hc : cl with
    | false =>
     refine hS hc k ?_
     cases q with
     | any => exact hk
     | _ => exact hk.1
    | true =>
     have := hq hc
     cases q with
     | any => exact absurd rfl this
     | _ => exact hZ k hk.1 hk.2
 | nil s f =>
  intro x hv
  cases hv with
  | rd _ _ hr => cases hr; exact .empty s f none 0
 | sl s f xs hc =>
  intro x hv
  cases hv with
  | rd _ _ hr => exact hr.mono (hS hc) (fun _ _ _ => rfl)
 | agg cs cs' hl h ih =>
  intro x hv
  have go : ∀ vs : Array Value, cs.length = vs.size → (∀ (i : Nat) (c : V) (v : Value), cs[i]? = some c → vs[i]? = some v → VR Γ w c v) → Rd w T (.agg cs') (.agg vs) := fun vs hl' hr =>
   .agg cs' vs (hl.symm.trans hl') (fun i c v h1 h2 => by
    have hi : i < cs.length := by rw [hl]; exact (List.getElem?_eq_some_iff.1 h1).1
    exact ih i _ c (List.getElem?_eq_getElem hi) h1 (hr i _ v (List.getElem?_eq_getElem hi) h2))
  cases hv with
  | rd _ _ hr =>
   cases hr with
   | agg _ vs hl' hr => exact go vs hl' (fun i c v h1 h2 => .rd _ _ (hr i c v h1 h2))
  | agg _ vs hl' hr => exact go vs hl' hr
def OwnA (cs : List V) : List (Nat × List Kd) → List Nat → Nat → Prop
 | [], _, n => n = 0
 | (j, ks) :: fs, used, n => ∃ n1 n2, n = n1 + n2 ∧ ((∃ b s q f xs, cs[j]? = some (.own b s q xs) ∧ q ≠ .any ∧ b ∉ used ∧ VK (.sl s f xs) (.sl ks) n1 ∧ OwnA cs fs (b :: used) n2) ∨ (cs[j]? = some .nil ∧ n1 = 0 ∧ OwnA cs fs used n2))
theorem ma_own {mt : Nat → List UInt8} {Γ : Ctx} {w : World} {cs : List V} {vs : Array Value} (hl : cs.length = vs.size) (hv : ∀ (i : Nat) (c : V) (v : Value), cs[i]? = some c → vs[i]? = some v → VR Γ w c v) (hU : Γ.U)
  (hb : ∀ b, Γ.has b → ¬ Γ.S (Γ.blk b) ∧ ∃ cur e, w.heap[Γ.blk b]? = some (.cells cur e (0, 0))) (hZ : ∀ k, Γ.Z k → ∃ cur e, w.heap[k]? = some (.cells cur e (0, 0))) (hN : ∀ b, Γ.has b → ∀ m, Γ.N b m → Γ.S m ∧ Γ.Z m)
  (hinj : ∀ b b', Γ.has b → Γ.has b' → Γ.blk b = Γ.blk b' → b = b') (hdis : ∀ b b', Γ.has b → Γ.has b' → b ≠ b' → ∀ m, Γ.N b m → Γ.N b' m → False) :
  ∀ (fs : List (Nat × List Kd)) (used : List Nat) (n k0 : Nat), OwnA cs fs used n → MA mt false w fs vs k0 n (fun m => ∃ b, b ∉ used ∧ Γ.has b ∧ (m = Γ.blk b ∨ Γ.N b m))
 | [], used, n, k0, h => h
 | (j, ks) :: fs, used, n, k0, h => by
  obtain ⟨n1, n2, e, h⟩ := h
  have at_ : ∀ {c : V}, cs[j]? = some c → ∃ v, vs[j]? = some v := fun hc => by
   have := (List.getElem?_eq_some_iff.1 hc).1
   exact ⟨_, Array.getElem?_eq_getElem (by omega)⟩
  rcases h with ⟨b, s, q, f, xs, h1, h2, h3, h4, h5⟩ | ⟨h1, h2, h5⟩
  ·obtain ⟨v, hvj⟩ := at_ h1
   refine ⟨v, n1, n2, _, _, hvj, mt_own (hv j _ v h1 hvj) h2 h4 hU hb hZ hN k0, ma_own hl hv hU hb hZ hN hinj hdis fs (b :: used) n2 (k0 + n1) h5, e, ?_, ?_, ?_⟩
   ·exact fun m hm => ⟨b, h3, hm.1, hm.2⟩
   ·rintro m ⟨b', g1, g2, g3⟩
    exact ⟨b', fun e => g1 (List.mem_cons_of_mem _ e), g2, g3⟩
   ·rintro m ⟨g1, g2⟩ ⟨b', g3, g4, g5⟩
    have hne : b ≠ b' := fun e => g3 (e ▸ List.mem_cons_self)
    rcases g2 with rfl | g2
    ·rcases g5 with g5 | g5
     ·exact hne (hinj b b' g1 g4 g5)
     ·exact (hb b g1).1 (hN b' g4 _ g5).1
    ·rcases g5 with rfl | g5
     ·exact (hb b' g4).1 (hN b g1 _ g2).1
     ·exact hdis b b' g1 g4 hne m g2 g5
  ·obtain ⟨v, hvj⟩ := at_ h1
   have hnil : v = .slice none 0 0 := by
    cases hv j _ v h1 hvj with
    | rd _ _ hr => cases hr; rfl
   subst hnil
   subst h2
   refine ⟨_, 0, n2, fun _ => False, _, hvj, .nil ks none 0 k0 _, ma_own hl hv hU hb hZ hN hinj hdis fs used n2 (k0 + 0) h5, e, fun _ h => h.elim, fun _ h => h, fun _ h _ => h⟩
inductive Shp where
  | s (ks : List Kd)
  | a (sz : Nat) (fs : List (Nat × List Kd))
def Shp.tree (mt : Nat → List UInt8) (mk : Bool) (w : World) (x : Value) (k0 n : Nat) (T : Nat → Prop) : Shp → Prop
 | .s ks => MT mt mk w (.sl ks) x k0 n T
 | .a sz fs => ∃ cs : Array Value, x = .agg cs ∧ cs.size = sz ∧ MA mt mk w fs cs k0 n T
def Shp.own (r : V) (n : Nat) : Shp → Prop
 | .s ks => (∃ b s q f xs, r = .own b s q xs ∧ q ≠ .any ∧ VK (.sl s f xs) (.sl ks) n) ∨ (r = .nil ∧ n = 0)
 | .a sz fs => ∃ cs : List V, r = .agg cs ∧ cs.length = sz ∧ OwnA cs fs [] n
def Shp.MarkOk (P : Program) (mt : Nat → List UInt8) (f : Nat) : Shp → Prop
 | .s ks => Am.MarkOk P mt f (.sl ks)
 | .a sz fs => MarkAOk P mt f sz fs
def Shp.HeldOk (P : Program) (mt : Nat → List UInt8) (f : Nat) : Shp → Prop
 | .s ks => Am.HeldOk P mt f (.sl ks)
 | .a sz fs => HeldAOk P mt f sz fs
end Go.Am
end
section
set_option linter.unusedVariables false
set_option linter.unusedSimpArgs false
namespace Go.Am
open Go Go.RowKit
inductive LV where
  | un
  | kb (b : Bool)
  | ki (n : Int)
  | zi (i : Nat)
  | lt0 (i : Nat)
  | gt (i : Nat) (m : Int)
  | ct (l : List Nat)
  | v (j : Nat)
  | bx (j : Nat)
  | fb (t : Nat)
  | tp (js : List Nat)
  deriving DecidableEq
def lget : List (Nat × LV) → Nat → LV
 | [], _ => .un
 | (d, v) :: r, t => if d = t then v else lget r t
inductive LC where
  | sz (f j : Nat) (a : LV) (i : Nat)
  | len (j i : Nat) (str : Bool)
  | low (i : Nat)
  | big (i : Nat) (m : Int)
  | mk (f : Nat) (js : List Nat) (sh : Bool) (i : Nat)
  | mks (f : Nat) (js : List Nat) (sh : Bool) (ts : List Bool) (i : Nat)
  | tt (f : Nat) (js : List Nat)
  | mark (f j : Nat) (l : List Nat)
  | held (f j : Nat) (l : List Nat)
  | same (i j k : Nat)
  deriving DecidableEq
inductive LT where
  | ar
  | sh
  | nw
  | tr
  | mk (l : List Nat)
  | dd
  deriving DecidableEq
structure LE where
  grp : Nat
  st : LT
def LT.reads : LT → Bool
 | .ar => true
 | .sh => true
 | .nw => true
 | _ => false
def LT.whole : LT → Bool
 | .nw => true
 | .tr => true
 | _ => false
structure LX where
  P : Program
  D : Nat → List V → Option V
  mt : Nat → List UInt8
  Vh : Nat → V
  Vo : Nat → V
  nn : Nat → Nat
  shp : Nat → Shp
  ag : List (Option Nat)
  Z : Nat → Int
  R : Nat → Prop
  w0 : World
def LX.ctv (X : LX) (l : List Nat) : Nat := 1 + (l.map X.nn).sum
structure LM where
  x : Value
  lo : Nat
  hi : Nat
  T : Nat → Prop
def nofr (fr : Option (Nat × Nat)) (k : Nat) : Prop := ∀ b ty, fr = some (b, ty) → k ≠ b
def LX.stIs (X : LX) (fr : Option (Nat × Nat)) (w : World) (j : Nat) (t : LM) : LT → Prop
 | .ar => Rd w X.R (X.Vh j) t.x
 | .sh => Rd w (fun k => k < t.hi ∧ nofr fr k) (X.Vh j) t.x
 | .nw => Rd w (fun k => t.lo ≤ k ∧ k < t.hi) (X.Vh j) t.x ∧ (X.shp j).tree X.mt false w t.x 0 (X.nn j) t.T
 | .tr => (X.shp j).tree X.mt false w t.x 0 (X.nn j) t.T
 | .mk l => (X.shp j).tree X.mt true w t.x (X.ctv l) (X.nn j) t.T
 | .dd => True
structure LX.Ent (X : LX) (fr : Option (Nat × Nat)) (w : World) (j : Nat) (e : LE) (t : LM) : Prop where
  agx : ∀ n, X.ag[j]? = some (some n) → ∃ vs : Array Value, t.x = .agg vs ∧ vs.size = n ∧ ∀ u ∈ vs.toList, u.oneCell' = true
  hi : t.hi ≤ w.heap.size
  low : ∀ b, t.T b → X.w0.heap.size ≤ t.lo ∧ t.lo ≤ b ∧ b < t.hi
  st : X.stIs fr w j t e.st
  sh : e.st ≠ .ar → X.w0.heap.size ≤ t.lo
structure LX.Inv (X : LX) (tb : List LE) (tv : List LM) (bl : List (Nat × Nat)) (fr : Option (Nat × Nat)) (w : World) : Prop where
  R : ∀ k, X.R k → k < X.w0.heap.size
  g0 : globOk X.w0
  base : Mod (fun k => X.w0.heap.size ≤ k) X.w0 w
  len : tv.length = tb.length
  ent : ∀ (j : Nat) (e : LE) (t : LM), tb[j]? = some e → tv[j]? = some t → X.Ent fr w j e t
  ord : ∀ (i j : Nat) (ei ej : LE) (ti tj : LM), tb[i]? = some ei → tb[j]? = some ej → tv[i]? = some ti → tv[j]? = some tj → ei.grp < ej.grp → ti.hi ≤ tj.lo
  dis : ∀ (i j : Nat) (ei ej : LE) (ti tj : LM), tb[i]? = some ei → tb[j]? = some ej → tv[i]? = some ti → tv[j]? = some tj → ei.grp = ej.grp → i ≠ j → ∀ b, ti.T b → tj.T b → False
  grp : ∀ e ∈ tb, e.grp ≤ tb.length
  boxes : ∀ p ∈ bl, ∃ (t : LM) (cs : Array Value) (bt : TypeId), tv[p.2]? = some t ∧ t.x = .agg cs ∧ w.heap[p.1]? = some (.cells cs bt (0, 0)) ∧ X.w0.heap.size ≤ p.1 ∧ ∀ t ∈ tv, p.1 < t.lo ∨ t.hi ≤ p.1
  fresh : ∀ b ty, fr = some (b, ty) → ∃ (cur : Array Value) (bt : TypeId) (ti : TypeInfo), w.heap[b]? = some (.cells cur bt (0, 0)) ∧ X.P.info? ty = some ti ∧ cur.size = ti.size ∧ X.w0.heap.size ≤ b ∧ (∀ t ∈ tv, b < t.lo ∨ t.hi ≤ b) ∧ ∀ p ∈ bl, p.1 ≠ b
section
variable {X : LX} {tb : List LE} {tv : List LM} {bl : List (Nat × Nat)} {fr : Option (Nat × Nat)} {w w' : World} {j : Nat} {e : LE} {t : LM}
theorem Shp.tree_mono {s : Shp} {mt : Nat → List UInt8} {mk : Bool} {x : Value} {k0 n : Nat} {T : Nat → Prop} (h : s.tree mt mk w x k0 n T) (hw : ∀ b, T b → w'.heap[b]? = w.heap[b]?) : s.tree mt mk w' x k0 n T := by
 cases s with
 | s ks => exact MT.mono h hw
 | a sz fs => obtain ⟨cs, h1, h2, h3⟩ := h; exact ⟨cs, h1, h2, h3.mono hw⟩
theorem LX.Inv.size (h : X.Inv tb tv bl fr w) : X.w0.heap.size ≤ w.heap.size := h.base.size
theorem LX.Inv.glob (h : X.Inv tb tv bl fr w) : globOk w := h.base.glob (fun k hk => Nat.le_trans h.g0.2 hk) h.g0
theorem cell_heap {w w' : World} {k o : Nat} (h : w'.heap[k]? = w.heap[k]?) : w'.cell? ⟨k, o, none⟩ = w.cell? ⟨k, o, none⟩ := by simp only [World.cell?, h]
theorem LX.Inv.grow (h : X.Inv tb tv bl fr w) (hk : Kept w w') : X.Inv tb tv bl fr w' := by
 have hold : ∀ b, b < w.heap.size → w'.heap[b]? = w.heap[b]? := hk.2.2.2.2
 have hs := h.size
 refine ⟨h.R, h.g0, h.base.trans (Mod.of_kept hk), h.len, fun j e t h1 h2 => ?_, h.ord, h.dis, h.grp, fun p hp => ?_, fun b ty hb => ?_⟩
 ·obtain ⟨a1, a2, a3, a4, a5⟩ := h.ent j e t h1 h2
  have hT : ∀ b, t.T b → w'.heap[b]? = w.heap[b]? := fun b hb => hold b (Nat.lt_of_lt_of_le (a3 b hb).2.2 a2)
  refine ⟨a1, Nat.le_trans a2 hk.2.2.2.1, a3, ?_, a5⟩
  cases hst : e.st with
  | ar => rw [hst] at a4; exact a4.mono (fun _ h => h) (fun k hk' _ => cell_heap (hold k (Nat.lt_of_lt_of_le (h.R k hk') hs)))
  | sh => rw [hst] at a4; exact a4.mono (fun _ h => h) (fun k hk' _ => cell_heap (hold k (Nat.lt_of_lt_of_le hk'.1 a2)))
  | nw => rw [hst] at a4; exact ⟨a4.1.mono (fun _ h => h) (fun k hk' _ => cell_heap (hold k (Nat.lt_of_lt_of_le hk'.2 a2))), Shp.tree_mono a4.2 hT⟩
  | tr => rw [hst] at a4; exact Shp.tree_mono a4 hT
  | mk l => rw [hst] at a4; exact Shp.tree_mono a4 hT
  | dd => exact trivial
 ·obtain ⟨t, cs, bt, b1, b2, b3, b4, b5⟩ := h.boxes p hp
  exact ⟨t, cs, bt, b1, b2, (hold _ (blk_lt b3)).trans b3, b4, b5⟩
 ·obtain ⟨cur, bt, ti, b1, b2, b3, b4, b5, b6⟩ := h.fresh b ty hb
  exact ⟨cur, bt, ti, (hold _ (blk_lt b1)).trans b1, b2, b3, b4, b5, b6⟩
theorem LX.Inv.tdis (h : X.Inv tb tv bl fr w) {i j : Nat} {ei ej : LE} {ti tj : LM} (h1 : tb[i]? = some ei) (h2 : tb[j]? = some ej) (h3 : tv[i]? = some ti) (h4 : tv[j]? = some tj) (hne : i ≠ j) {b : Nat} (hb : ti.T b) (hb' : tj.T b) : False := by
 have a := (h.ent i ei ti h1 h3).low b hb
 have a' := (h.ent j ej tj h2 h4).low b hb'
 rcases Nat.lt_trichotomy ei.grp ej.grp with hg | hg | hg
 ·have := h.ord i j ei ej ti tj h1 h2 h3 h4 hg; omega
 ·exact h.dis i j ei ej ti tj h1 h2 h3 h4 hg hne b hb hb'
 ·have := h.ord j i ej ei tj ti h2 h1 h4 h3 hg; omega
theorem LX.Inv.rd (h : X.Inv tb tv bl fr w) (h1 : tb[j]? = some e) (h2 : tv[j]? = some t) (hr : e.st.reads = true) : Rd w (fun k => k < w.heap.size ∧ nofr fr k) (X.Vh j) t.x := by
 obtain ⟨a1, a2, a3, a4, a5⟩ := h.ent j e t h1 h2
 have hs := h.size
 cases hst : e.st with
 | ar =>
  rw [hst] at a4
  refine Rd.mono (fun k hk => ⟨Nat.lt_of_lt_of_le (h.R k hk) hs, fun b ty hb => ?_⟩) (fun _ _ _ => rfl) a4
  obtain ⟨_, _, _, _, _, _, b4, _⟩ := h.fresh b ty hb
  have := h.R k hk
  omega
 | sh => rw [hst] at a4; exact Rd.mono (fun k hk => ⟨Nat.lt_of_lt_of_le hk.1 a2, hk.2⟩) (fun _ _ _ => rfl) a4
 | nw =>
  rw [hst] at a4
  refine Rd.mono (fun k hk => ⟨Nat.lt_of_lt_of_le hk.2 a2, fun b ty hb => ?_⟩) (fun _ _ _ => rfl) a4.1
  obtain ⟨_, _, _, _, _, _, _, b5, _⟩ := h.fresh b ty hb
  have := b5 t (List.mem_of_getElem? h2)
  have hk1 : t.lo ≤ k := hk.1
  have hk2 : k < t.hi := hk.2
  omega
 | _ => rw [hst] at hr; cases hr
theorem LX.Inv.more (h : X.Inv tb tv bl fr w) (hk : Kept w w') (es : List LE) (ts : List LM) (hl : ts.length = es.length) (hlo : ∀ t ∈ ts, t.lo = w.heap.size ∧ t.hi = w'.heap.size) (hg : ∀ e ∈ es, e.grp = tb.length + 1)
  (hent : ∀ (i : Nat) (e : LE) (t : LM), es[i]? = some e → ts[i]? = some t → X.Ent fr w' (tb.length + i) e t)
  (hdis : ∀ (i i' : Nat) (t t' : LM), ts[i]? = some t → ts[i']? = some t' → i ≠ i' → ∀ b, t.T b → t'.T b → False) : X.Inv (tb ++ es) (tv ++ ts) bl fr w' := by
 have h' := h.grow hk
 have sp : ∀ (i : Nat) (e : LE) (t : LM), (tb ++ es)[i]? = some e → (tv ++ ts)[i]? = some t → (tb[i]? = some e ∧ tv[i]? = some t) ∨ ∃ p, i = tb.length + p ∧ es[p]? = some e ∧ ts[p]? = some t := by
  intro i e t h1 h2
  rcases Nat.lt_or_ge i tb.length with hi | hi
  ·rw [List.getElem?_append_left hi] at h1
   rw [List.getElem?_append_left (by rw [h.len]; exact hi)] at h2
   exact .inl ⟨h1, h2⟩
  ·rw [List.getElem?_append_right hi] at h1
   rw [List.getElem?_append_right (by rw [h.len]; exact hi), h.len] at h2
   exact .inr ⟨i - tb.length, by omega, h1, h2⟩
 refine ⟨h.R, h.g0, h'.base, by rw [List.length_append, List.length_append, h.len, hl], fun i e t h1 h2 => ?_, fun i j ei ej ti tj h1 h2 h3 h4 hlt => ?_, fun i j ei ej ti tj h1 h2 h3 h4 heq hne b hb hb' => ?_, fun e he => ?_, fun p hp => ?_, fun b ty hb => ?_⟩
 ·rcases sp i e t h1 h2 with ⟨h1, h2⟩ | ⟨p, rfl, h1, h2⟩
  ·exact h'.ent i e t h1 h2
  ·exact hent p e t h1 h2
 ·rcases sp i ei ti h1 h3 with ⟨h1, h3⟩ | ⟨p, rfl, h1, h3⟩
  ·rcases sp j ej tj h2 h4 with ⟨h2, h4⟩ | ⟨q, rfl, h2, h4⟩
   ·exact h.ord i j ei ej ti tj h1 h2 h3 h4 hlt
   ·rw [(hlo tj (List.mem_of_getElem? h4)).1]
    exact (h.ent i ei ti h1 h3).hi
  ·rcases sp j ej tj h2 h4 with ⟨h2, h4⟩ | ⟨q, rfl, h2, h4⟩
   ·have a1 := h.grp ej (List.mem_of_getElem? h2)
    have a2 := hg ei (List.mem_of_getElem? h1)
    omega
   ·have a1 := hg ej (List.mem_of_getElem? h2)
    have a2 := hg ei (List.mem_of_getElem? h1)
    omega
 ·rcases sp i ei ti h1 h3 with ⟨h1, h3⟩ | ⟨p, rfl, h1, h3⟩
  ·rcases sp j ej tj h2 h4 with ⟨h2, h4⟩ | ⟨q, rfl, h2, h4⟩
   ·exact h.dis i j ei ej ti tj h1 h2 h3 h4 heq hne b hb hb'
   ·have a1 := h.grp ei (List.mem_of_getElem? h1)
    have a2 := hg ej (List.mem_of_getElem? h2)
    omega
  ·rcases sp j ej tj h2 h4 with ⟨h2, h4⟩ | ⟨q, rfl, h2, h4⟩
   ·have a1 := h.grp ej (List.mem_of_getElem? h2)
    have a2 := hg ei (List.mem_of_getElem? h1)
    omega
   ·exact hdis p q ti tj h3 h4 (by omega) b hb hb'
 ·rw [List.length_append]
  rcases List.mem_append.1 he with he | he
  ·have := h.grp e he; omega
  ·have := hg e he
   have : 0 < es.length := List.length_pos_of_mem he
   omega
 ·obtain ⟨t, cs, bt, b1, b2, b3, b4, b5⟩ := h'.boxes p hp
  refine ⟨t, cs, bt, by rw [List.getElem?_append_left (List.getElem?_eq_some_iff.1 b1).1]; exact b1, b2, b3, b4, fun t ht => ?_⟩
  rcases List.mem_append.1 ht with ht | ht
  ·exact b5 t ht
  ·obtain ⟨_, _, _, _, _, c3, _⟩ := h.boxes p hp
   rw [(hlo t ht).1]
   exact .inl (blk_lt c3)
 ·obtain ⟨cur, bt, ti, b1, b2, b3, b4, b5, b6⟩ := h'.fresh b ty hb
  refine ⟨cur, bt, ti, b1, b2, b3, b4, fun t ht => ?_, b6⟩
  rcases List.mem_append.1 ht with ht | ht
  ·exact b5 t ht
  ·obtain ⟨_, _, _, c1, _⟩ := h.fresh b ty hb
   rw [(hlo t ht).1]
   exact .inl (blk_lt c1)
def markTb (tb : List LE) (j g : Nat) (l : List Nat) : List LE := tb.mapIdx fun i e => if i = j then ⟨e.grp, .mk l⟩ else match e.st with
 | .sh => if e.grp < g then e else ⟨e.grp, .dd⟩
 | .nw => if e.grp = g then ⟨e.grp, .tr⟩ else e
 | _ => e
theorem markTb_get {g : Nat} {l : List Nat} {i : Nat} {e' : LE} (h : (markTb tb j g l)[i]? = some e') : ∃ e, tb[i]? = some e ∧ e'.grp = e.grp ∧ (i = j → e'.st = .mk l) ∧ (i ≠ j → e'.st = match e.st with
 | .sh => if e.grp < g then .sh else .dd
 | .nw => if e.grp = g then .tr else .nw
 | s => s) := by
 rw [markTb, List.getElem?_mapIdx] at h
 cases hi : tb[i]? with
 | none => rw [hi] at h; cases h
 | some e =>
  rw [hi] at h
  simp only [Option.map_some, Option.some.injEq] at h
  refine ⟨e, rfl, ?_⟩
  by_cases hij : i = j
  ·rw [if_pos hij] at h
   subst h
   exact ⟨rfl, fun _ => rfl, fun hn => absurd hij hn⟩
  ·rw [if_neg hij] at h
   cases hst : e.st with
   | sh =>
    rw [hst] at h
    by_cases hc : e.grp < g
    ·simp only [if_pos hc] at h ⊢
     subst h
     exact ⟨rfl, fun hn => absurd hn hij, fun _ => hst⟩
    ·simp only [if_neg hc] at h ⊢
     subst h
     exact ⟨rfl, fun hn => absurd hn hij, fun _ => rfl⟩
   | nw =>
    rw [hst] at h
    by_cases hc : e.grp = g
    ·simp only [if_pos hc] at h ⊢
     subst h
     exact ⟨rfl, fun hn => absurd hn hij, fun _ => rfl⟩
    ·simp only [if_neg hc] at h ⊢
     subst h
     exact ⟨rfl, fun hn => absurd hn hij, fun _ => hst⟩
   | _ =>
    rw [hst] at h
    simp only at h
    subst h
    exact ⟨rfl, fun hn => absurd hn hij, fun _ => hst⟩
theorem LX.Inv.marked (h : X.Inv tb tv bl fr w) {l : List Nat} (h1 : tb[j]? = some e) (h2 : tv[j]? = some t) (hm : Mod t.T w w') (ht : (X.shp j).tree X.mt true w' t.x (X.ctv l) (X.nn j) t.T) (hw : e.st.whole = true) : X.Inv (markTb tb j e.grp l) tv bl fr w' := by
 have hj := h.ent j e t h1 h2
 have hs := h.size
 have hlow : X.w0.heap.size ≤ t.lo := hj.sh (fun e => by rw [e] at hw; cases hw)
 refine ⟨h.R, h.g0, h.base.trans (hm.mono (fun b hb => Nat.le_trans hlow (hj.low b hb).2.1)), by rw [markTb, List.length_mapIdx]; exact h.len, fun i e' ti g1 g2 => ?_, fun i i' ei ei' ti ti' g1 g2 g3 g4 hlt => ?_, fun i i' ei ei' ti ti' g1 g2 g3 g4 heq hne b hb hb' => ?_, fun e' he' => ?_, fun p hp => ?_, fun b ty hb => ?_⟩
 ·obtain ⟨ei, q1, q2, q3, q4⟩ := markTb_get g1
  have hi := h.ent i ei ti q1 g2
  by_cases hij : i = j
  ·subst hij
   rw [h1] at q1; injection q1 with q1; subst q1
   rw [h2] at g2; injection g2 with g2; subst g2
   refine ⟨hi.agx, Nat.le_trans hi.hi hm.size, hi.low, ?_, fun _ => hlow⟩
   rw [q3 rfl]
   exact ht
  ·have q4 := q4 hij
   have hT : ∀ b, ti.T b → w'.heap[b]? = w.heap[b]? := fun b hb => hm.old b (Nat.lt_of_lt_of_le (hi.low b hb).2.2 hi.hi) (fun hb' => h.tdis q1 h1 g2 h2 hij hb hb')
   have a4 := hi.st
   refine ⟨hi.agx, Nat.le_trans hi.hi hm.size, hi.low, ?_, fun hne => hi.sh (fun he => hne (by rw [q4, he]))⟩
   cases hst : ei.st with
   | ar =>
    rw [hst] at a4 q4
    rw [q4]
    exact a4.mono (fun _ h => h) (fun k hk _ => cell_heap (hm.old k (Nat.lt_of_lt_of_le (h.R k hk) hs) (fun hb => by have := (hj.low k hb).2.1; have := h.R k hk; omega)))
   | sh =>
    rw [hst] at a4 q4
    simp only at q4
    by_cases hc : ei.grp < e.grp
    ·rw [if_pos hc] at q4
     rw [q4]
     have ho := h.ord i j ei e ti t q1 h1 g2 h2 hc
     exact Rd.mono (fun _ h => h) (fun k hk _ => cell_heap (hm.old k (Nat.lt_of_lt_of_le hk.1 hi.hi) (fun hb => by have := (hj.low k hb).2.1; have : k < ti.hi := hk.1; omega))) a4
    ·rw [if_neg hc] at q4
     rw [q4]
     exact trivial
   | nw =>
    rw [hst] at a4 q4
    simp only at q4
    by_cases hc : ei.grp = e.grp
    ·rw [if_pos hc] at q4
     rw [q4]
     exact Shp.tree_mono a4.2 hT
    ·rw [if_neg hc] at q4
     rw [q4]
     refine ⟨Rd.mono (fun _ h => h) (fun k hk _ => cell_heap (hm.old k (Nat.lt_of_lt_of_le hk.2 hi.hi) (fun hb => ?_))) a4.1, Shp.tree_mono a4.2 hT⟩
     have a := hj.low k hb
     have hk1 : ti.lo ≤ k := hk.1
     have hk2 : k < ti.hi := hk.2
     rcases Nat.lt_or_gt_of_ne hc with hc | hc
     ·have := h.ord i j ei e ti t q1 h1 g2 h2 hc; omega
     ·have := h.ord j i e ei t ti h1 q1 h2 g2 hc; omega
   | tr => rw [hst] at a4 q4; rw [q4]; exact Shp.tree_mono a4 hT
   | mk l => rw [hst] at a4 q4; rw [q4]; exact Shp.tree_mono a4 hT
   | dd => rw [hst] at q4; rw [q4]; exact trivial
 ·obtain ⟨e1, q1, q2, _⟩ := markTb_get g1
  obtain ⟨e2, r1, r2, _⟩ := markTb_get g2
  exact h.ord i i' e1 e2 ti ti' q1 r1 g3 g4 (by rw [← q2, ← r2]; exact hlt)
 ·obtain ⟨e1, q1, q2, _⟩ := markTb_get g1
  obtain ⟨e2, r1, r2, _⟩ := markTb_get g2
  exact h.dis i i' e1 e2 ti ti' q1 r1 g3 g4 (by rw [← q2, ← r2]; exact heq) hne b hb hb'
 ·obtain ⟨i, hi⟩ := List.getElem?_of_mem he'
  obtain ⟨e1, q1, q2, _⟩ := markTb_get hi
  rw [q2, markTb, List.length_mapIdx]
  exact h.grp e1 (List.mem_of_getElem? q1)
 ·obtain ⟨t', cs, bt, b1, b2, b3, b4, b5⟩ := h.boxes p hp
  refine ⟨t', cs, bt, b1, b2, (hm.old _ (blk_lt b3) (fun hb => ?_)).trans b3, b4, b5⟩
  have := b5 t (List.mem_of_getElem? h2)
  have := hj.low _ hb
  omega
 ·obtain ⟨cur, bt, ti, b1, b2, b3, b4, b5, b6⟩ := h.fresh b ty hb
  refine ⟨cur, bt, ti, (hm.old _ (blk_lt b1) (fun hb => ?_)).trans b1, b2, b3, b4, b5, b6⟩
  have := b5 t (List.mem_of_getElem? h2)
  have := hj.low _ hb
  omega
theorem LX.Inv.setb {b : Nat} (h : X.Inv tb tv bl fr w) (hm : Mod (fun k => k = b) w w') (h0 : X.w0.heap.size ≤ b) (hv : ∀ t ∈ tv, b < t.lo ∨ t.hi ≤ b) (hb : ∀ p ∈ bl, p.1 ≠ b) (hf : nofr fr b → ∀ t ∈ tv, t.hi ≤ b) (fr' : Option (Nat × Nat)) (hfr : ∀ k, nofr fr k → k < w.heap.size → k ≠ b → nofr fr' k)
  (hfresh : ∀ b ty, fr' = some (b, ty) → ∃ (cur : Array Value) (bt : TypeId) (ti : TypeInfo), w'.heap[b]? = some (.cells cur bt (0, 0)) ∧ X.P.info? ty = some ti ∧ cur.size = ti.size ∧ X.w0.heap.size ≤ b ∧ (∀ t ∈ tv, b < t.lo ∨ t.hi ≤ b) ∧ ∀ p ∈ bl, p.1 ≠ b) : X.Inv tb tv bl fr' w' := by
 have hs := h.size
 refine ⟨h.R, h.g0, h.base.trans (hm.mono (fun k hk => by rw [hk]; exact h0)), h.len, fun j e t h1 h2 => ?_, h.ord, h.dis, h.grp, fun p hp => ?_, hfresh⟩
 ·obtain ⟨a1, a2, a3, a4, a5⟩ := h.ent j e t h1 h2
  have hvt := hv t (List.mem_of_getElem? h2)
  have hT : ∀ k, t.T k → w'.heap[k]? = w.heap[k]? := fun k hk => hm.old k (Nat.lt_of_lt_of_le (a3 k hk).2.2 a2) (fun e => by have := a3 k hk; omega)
  refine ⟨a1, Nat.le_trans a2 hm.size, a3, ?_, a5⟩
  cases hst : e.st with
  | ar => rw [hst] at a4; exact a4.mono (fun _ h => h) (fun k hk' _ => cell_heap (hm.old k (Nat.lt_of_lt_of_le (h.R k hk') hs) (fun e => by have := h.R k hk'; omega)))
  | sh =>
   rw [hst] at a4
   have hne : ∀ k, k < t.hi ∧ nofr fr k → k ≠ b := fun k hk e => by
    subst e
    have := hf hk.2 t (List.mem_of_getElem? h2)
    omega
   exact Rd.mono (fun k hk => ⟨hk.1, hfr k hk.2 (Nat.lt_of_lt_of_le hk.1 a2) (hne k hk)⟩) (fun k hk' _ => cell_heap (hm.old k (Nat.lt_of_lt_of_le hk'.1 a2) (hne k hk'))) a4
  | nw => rw [hst] at a4; exact ⟨Rd.mono (fun _ h => h) (fun k hk' _ => cell_heap (hm.old k (Nat.lt_of_lt_of_le hk'.2 a2) (fun e => by have h1 : t.lo ≤ k := hk'.1; have h2 : k < t.hi := hk'.2; omega))) a4.1, Shp.tree_mono a4.2 hT⟩
  | tr => rw [hst] at a4; exact Shp.tree_mono a4 hT
  | mk l => rw [hst] at a4; exact Shp.tree_mono a4 hT
  | dd => exact trivial
 ·obtain ⟨t, cs, bt, b1, b2, b3, b4, b5⟩ := h.boxes p hp
  exact ⟨t, cs, bt, b1, b2, (hm.old _ (blk_lt b3) (hb p hp)).trans b3, b4, b5⟩
theorem LX.Inv.hiLe (h : X.Inv tb tv bl fr w) : ∀ t ∈ tv, t.hi ≤ w.heap.size := fun t ht => by
 obtain ⟨j, hj⟩ := List.getElem?_of_mem ht
 have : j < tb.length := by rw [← h.len]; exact (List.getElem?_eq_some_iff.1 hj).1
 exact (h.ent j _ t (List.getElem?_eq_getElem this) hj).hi
theorem LX.Inv.boxLt (h : X.Inv tb tv bl fr w) : ∀ p ∈ bl, p.1 < w.heap.size := fun p hp => by
 obtain ⟨_, _, _, _, _, b3, _⟩ := h.boxes p hp
 exact blk_lt b3
theorem LX.Inv.alloc (h : X.Inv tb tv bl none w) {cs : Array Value} {bt : TypeId} {ty : Nat} {ti : TypeInfo} (hi : X.P.info? ty = some ti) (hs : cs.size = ti.size) : X.Inv tb tv bl (some (w.heap.size, ty)) (w.alloc (.cells cs bt)) := by
 have hk := Kept.al w (.cells cs bt)
 refine LX.Inv.setb (b := w.heap.size) h ((Mod.of_kept hk).mono (fun _ h => h)) h.size (fun t ht => .inr (h.hiLe t ht)) (fun p hp => Nat.ne_of_lt (h.boxLt p hp)) (fun _ => h.hiLe) _ (fun k _ hk _ b ty e => ?_) (fun b ty' e => ?_)
 ·injection e with e; injection e with e1 e2; omega
 ·injection e with e; injection e with e1 e2
  subst e1; subst e2
  exact ⟨cs, bt, ti, heap_alloc_eq w _, hi, hs, h.size, fun t ht => .inr (h.hiLe t ht), fun p hp => Nat.ne_of_lt (h.boxLt p hp)⟩
theorem LX.Inv.box (h : X.Inv tb tv bl fr w) {cs : Array Value} {bt : TypeId} (h2 : tv[j]? = some t) (hx : t.x = .agg cs) : X.Inv tb tv ((w.heap.size, j) :: bl) fr (w.alloc (.cells cs bt)) := by
 have hk := Kept.al w (.cells cs bt)
 have h' := h.grow hk
 refine { h' with boxes := fun p hp => ?_, fresh := fun b ty hb => ?_ }
 ·rcases List.mem_cons.1 hp with rfl | hp
  ·exact ⟨t, cs, bt, h2, hx, heap_alloc_eq w _, h.size, fun t ht => .inr (h.hiLe t ht)⟩
  ·exact h'.boxes p hp
 ·obtain ⟨cur, bt', ti, b1, b2, b3, b4, b5, b6⟩ := h'.fresh b ty hb
  obtain ⟨_, _, _, c1, _⟩ := h.fresh b ty hb
  refine ⟨cur, bt', ti, b1, b2, b3, b4, b5, fun p hp => ?_⟩
  rcases List.mem_cons.1 hp with rfl | hp
  ·have := blk_lt c1
   show w.heap.size ≠ b
   omega
  ·exact b6 p hp
theorem LX.Inv.store {b ty : Nat} (h : X.Inv tb tv bl (some (b, ty)) w) {cs : Array Value} {bt : TypeId} (h2 : tv[j]? = some t) (hx : t.x = .agg cs) (hm : Mod (fun k => k = b) w w') (hb : w'.heap[b]? = some (.cells cs bt (0, 0))) : X.Inv tb tv ((b, j) :: bl) none w' := by
 obtain ⟨cur, bt', ti, b1, b2, b3, b4, b5, b6⟩ := h.fresh b ty rfl
 have h' : X.Inv tb tv bl none w' := LX.Inv.setb h hm b4 b5 b6 (fun hn => absurd rfl (hn b ty rfl)) none (fun _ _ _ _ _ _ e => by cases e) (fun _ _ e => by cases e)
 refine { h' with boxes := fun p hp => ?_, fresh := fun _ _ e => by cases e }
 rcases List.mem_cons.1 hp with rfl | hp
 ·exact ⟨t, cs, bt, h2, hx, hb, b4, b5⟩
 ·exact h'.boxes p hp
end
end Go.Am
end
section
set_option linter.unusedVariables false
set_option linter.unusedSimpArgs false
namespace Go.Am
open Go Go.RowKit
structure LX.Ok (X : LX) : Prop where
  ans : Answers X.P X.D
  agv : ∀ j n, X.ag[j]? = some (some n) → ∃ cs, X.Vh j = .agg cs ∧ cs.length = n ∧ allCell cs = true
def LX.LR (X : LX) (tv : List LM) (bl : List (Nat × Nat)) (fr : Option (Nat × Nat)) : LV → Value → Prop
 | .un, _ => True
 | .kb b, x => x = .bool b
 | .ki n, x => x = .int .i64 n
 | .zi i, x => x = .int .i64 (X.Z i)
 | .lt0 i, x => x = .bool (decide (X.Z i < 0))
 | .gt i m, x => x = .bool (decide (m < X.Z i))
 | .ct l, x => x = .int .i64 (X.ctv l : Int)
 | .v j, x => ∃ t, tv[j]? = some t ∧ x = t.x
 | .bx j, x => ∃ b, x = .pointer (some ⟨b, 0, none⟩) ∧ (b, j) ∈ bl
 | .fb ty, x => ∃ b, x = .pointer (some ⟨b, 0, none⟩) ∧ fr = some (b, ty)
 | .tp js, x => ∃ vs : Array Value, x = .tuple vs ∧ vs.size = js.length ∧ ∀ (i j : Nat), js[i]? = some j → ∃ t, tv[j]? = some t ∧ vs[i]? = some t.x
def LX.argZ (X : LX) : LV → Option Int
 | .ki n => some n
 | .zi i => some (X.Z i)
 | _ => none
def LX.H (X : LX) : List LC → Prop
 | [] => True
 | .sz f j a i :: r => (∃ z, X.argZ a = some z ∧ X.D f [X.Vh j, .int .i64 z] = some (.int .i64 (X.Z i))) ∧ LX.H X r
 | .len j i b :: r => (if b = true then ∃ s, X.Vh j = .str s ∧ X.Z i = s.length else ∃ s f xs, X.Vh j = .sl s f xs ∧ X.Z i = xs.length) ∧ LX.H X r
 | .low i :: r => 0 ≤ X.Z i → LX.H X r
 | .big i m :: r => X.Z i ≤ m → LX.H X r
 | .mk f js sh i :: r => (X.D f (js.map X.Vh) = some (X.Vo i) ∧ Hand (!sh) (X.Vo i) (X.Vh i) ∧ (sh = false → (X.shp i).own (X.Vo i) (X.nn i))) ∧ LX.H X r
 | .mks _ _ _ _ _ :: _ => False
 | .tt f js :: r => X.D f (js.map X.Vh) = some (.bool true) ∧ LX.H X r
 | .mark f j l :: r => ((X.shp j).MarkOk X.P X.mt f ∧ X.ctv l + X.nn j ≤ 1152921504606846976) ∧ LX.H X r
 | .held f j l :: r => ((X.shp j).HeldOk X.P X.mt f ∧ X.ctv l + X.nn j ≤ 1152921504606846976) ∧ LX.H X r
 | .same i j k :: r => ((k = 0 ∧ ∃ b, X.Vh i = .bool b ∧ X.Vh j = .bool b) ∨ (k = 1 ∧ ∃ n, X.Vh i = .int .i64 n ∧ X.Vh j = .int .i64 n) ∨ (k = 2 ∧ ∃ s, X.Vh i = .str s ∧ X.Vh j = .str s)) ∧ LX.H X r
def readsAt (tb : List LE) (j : Nat) : Bool := match tb[j]? with
 | some e => e.st.reads
 | none => false
def LV.asZ : LV → Bool
 | .ki _ => true
 | .zi _ => true
 | _ => false
def LV.asCt : LV → Option (List Nat)
 | .ki n => if n = 1 then some [] else none
 | .ct l => some l
 | _ => none
def lcall (f : Nat) (al : List LV) (tb : List LE) : LC → Option (LV × List LE)
 | .sz f' j a i => if f' = f ∧ al = [.v j, a] ∧ readsAt tb j = true ∧ a.asZ = true then some (.zi i, tb) else none
 | .mk f' js sh i => if f' = f ∧ al = js.map .v ∧ js.all (readsAt tb) = true ∧ i = tb.length then some (.v i, tb ++ [⟨tb.length + 1, if sh then .sh else .nw⟩]) else none
 | .tt f' js => if f' = f ∧ al = js.map .v ∧ js.all (readsAt tb) = true then some (.kb true, tb) else none
 | .mark f' j l => match al with
  | [.v j', a] => if f' = f ∧ j' = j ∧ a.asCt = some l then (match tb[j]? with
   | some e => if e.st.whole = true then some (.ct (j :: l), markTb tb j e.grp l) else none
   | none => none) else none
  | _ => none
 | .held f' j l => match al with
  | [.v j', a] => if f' = f ∧ j' = j ∧ a.asCt = some l then (match tb[j]? with
   | some e => if e.st = .mk l then some (.ct (j :: l), tb) else none
   | none => none) else none
  | _ => none
 | _ => none
section
variable {X : LX} {tb tb' : List LE} {tv : List LM} {bl : List (Nat × Nat)} {fr : Option (Nat × Nat)} {w w' : World} {j : Nat} {e : LE} {t : LM}
theorem tree_of_answer {mt : Nat → List UInt8} {R : Nat → Prop} {r : V} {x : Value} {s : Shp} {n : Nat} (a : Answer R w r x w') (h : s.own r n) : ∃ T, s.tree mt false w' x 0 n T ∧ ∀ b, T b → w.heap.size ≤ b ∧ b < w'.heap.size := by
 obtain ⟨Γ, hv, hF, hS, hB, hinj, hbZ, hZ, hU, hN, hdis⟩ := a.val
 have b1 : ∀ b, Γ.has b → ¬ Γ.S (Γ.blk b) ∧ ∃ cur e, w'.heap[Γ.blk b]? = some (.cells cur e (0, 0)) := fun b hb => by
  obtain ⟨_, _, h3, _, cur, e, h5, _⟩ := hB b hb
  exact ⟨h3, cur, e, h5⟩
 have z1 : ∀ k, Γ.Z k → ∃ cur e, w'.heap[k]? = some (.cells cur e (0, 0)) := fun k hk => (hZ k hk).2.2
 cases s with
 | s ks =>
  rcases h with ⟨b, s, q, f, xs, rfl, hq, hk⟩ | ⟨rfl, rfl⟩
  ·refine ⟨_, mt_own hv hq hk hU b1 z1 hN 0, ?_⟩
   rintro m ⟨g1, g2 | g2⟩
   ·rw [g2]; exact ⟨(hB b g1).1, (hB b g1).2.1⟩
   ·have := hZ m (hN b g1 m g2).2; exact ⟨this.1, this.2.1⟩
  ·refine ⟨fun _ => False, ?_, fun _ h => h.elim⟩
   cases hv with
   | rd _ _ hr => cases hr; exact .nil ks none 0 0 _
 | a sz fs =>
  obtain ⟨cs, rfl, hl, ho⟩ := h
  have go : ∀ vs : Array Value, cs.length = vs.size → (∀ (i : Nat) (c : V) (v : Value), cs[i]? = some c → vs[i]? = some v → VR Γ w' c v) → ∃ T, (Shp.a sz fs).tree mt false w' (.agg vs) 0 n T ∧ ∀ b, T b → w.heap.size ≤ b ∧ b < w'.heap.size := fun vs h1 h2 => by
   refine ⟨_, ⟨vs, rfl, by omega, ma_own h1 h2 hU b1 z1 hN hinj hdis fs [] n 0 ho⟩, ?_⟩
   rintro m ⟨b, _, g1, g2 | g2⟩
   ·rw [g2]; exact ⟨(hB b g1).1, (hB b g1).2.1⟩
   ·have := hZ m (hN b g1 m g2).2; exact ⟨this.1, this.2.1⟩
  cases hv with
  | rd _ _ hr =>
   cases hr with
   | agg _ vs h1 h2 => exact go vs h1 (fun i c v g1 g2 => .rd _ _ (h2 i c v g1 g2))
  | agg _ vs h1 h2 => exact go vs h1 h2
theorem agx_of_rd {S : Nat → Prop} {cs : List V} {x : Value} (h : Rd w S (.agg cs) x) (hc : allCell cs = true) : ∃ vs : Array Value, x = .agg vs ∧ vs.size = cs.length ∧ ∀ u ∈ vs.toList, u.oneCell' = true := by
 cases h with
 | agg _ vs h1 h2 =>
  refine ⟨vs, rfl, h1.symm, fun u hu => ?_⟩
  obtain ⟨i, hi⟩ := List.getElem?_of_mem hu
  have hlt : i < cs.length := by have := (List.getElem?_eq_some_iff.1 hi).1; simp at this; omega
  have hr := h2 i _ u (List.getElem?_eq_getElem hlt) (by simpa using hi)
  have hcell := allCell_mem hc _ (List.getElem_mem hlt)
  let Γ : Ctx := { w0 := w, F := fun _ => False, S := S, has := fun _ => False, blk := fun _ => 0, off := fun _ => 0, cap := fun _ => 0, sz := fun _ => 0, ln := fun _ => 0, lb := fun _ => False, box := fun _ => 0, R := fun _ => False, Z := fun _ => False, N := fun _ _ => False, U := True }
  exact isCell_one (Γ := Γ) (.rd _ _ hr) hcell
theorem LX.Ok.agx (hO : X.Ok) {S : Nat → Prop} {x : Value} (h : Rd w S (X.Vh j) x) : ∀ n, X.ag[j]? = some (some n) → ∃ vs : Array Value, x = .agg vs ∧ vs.size = n ∧ ∀ u ∈ vs.toList, u.oneCell' = true := fun n hn => by
 obtain ⟨cs, h1, h2, h3⟩ := hO.agv j n hn
 rw [h1] at h
 obtain ⟨vs, g1, g2, g3⟩ := agx_of_rd h h3
 exact ⟨vs, g1, g2.trans h2, g3⟩
theorem readsAt_inv (h : readsAt tb j = true) : ∃ e, tb[j]? = some e ∧ e.st.reads = true := by
 unfold readsAt at h
 split at h
 ·rename_i e he; exact ⟨e, he, h⟩
 ·cases h
theorem LX.LR.mono {fr' : Option (Nat × Nat)} {tv' : List LM} {bl' : List (Nat × Nat)} {v : LV} {x : Value} (h : X.LR tv bl fr v x) (ht : tv <+: tv') (hb : ∀ p ∈ bl, p ∈ bl') (hf : ∀ b ty, fr = some (b, ty) → fr' = some (b, ty)) : X.LR tv' bl' fr' v x := by
 have pre : ∀ {i : Nat} {t : LM}, tv[i]? = some t → tv'[i]? = some t := fun {i t} hi => by
  obtain ⟨r, rfl⟩ := ht
  rw [List.getElem?_append_left (List.getElem?_eq_some_iff.1 hi).1]
  exact hi
 cases v with
 | v j => obtain ⟨t, h1, h2⟩ := h; exact ⟨t, pre h1, h2⟩
 | bx j => obtain ⟨b, h1, h2⟩ := h; exact ⟨b, h1, hb _ h2⟩
 | fb ty => obtain ⟨b, h1, h2⟩ := h; exact ⟨b, h1, hf b ty h2⟩
 | tp js => obtain ⟨vs, h1, h2, h3⟩ := h; exact ⟨vs, h1, h2, fun i j hj => by obtain ⟨t, g1, g2⟩ := h3 i j hj; exact ⟨t, pre g1, g2⟩⟩
 | _ => exact h
theorem kept_of {R : Nat → Prop} {w w' : World} {r : V} {x : Value} (a : Answer R w r x w') : Kept w w' := ⟨a.os, a.tape, a.output, a.size, a.old⟩
theorem answer_bool' {R : Nat → Prop} {W W' : World} {b : Bool} {y : Value} (a : Answer R W (.bool b) y W') : y = .bool b := by
 obtain ⟨Γ, hv, _⟩ := a.val
 exact hv.bool_inv
theorem answer_int' {R : Nat → Prop} {W W' : World} {k : IntKind} {m : Int} {y : Value} (a : Answer R W (.int k m) y W') : y = .int k m := by
 obtain ⟨Γ, hv, _⟩ := a.val
 exact hv.int_inv
theorem ans_call (hO : X.Ok) (hI : X.Inv tb tv bl fr w) {f : Nat} {args : List V} {r : V} {vals : Array Value} {B : Ending → World → Prop} (hd : X.D f args = some r) (hl : args.length = vals.size)
  (hr : ∀ (i : Nat) (c : V) (v : Value), args[i]? = some c → vals[i]? = some v → Rd w (fun k => k < w.heap.size ∧ nofr fr k) c v) (hB : ∀ x w', Answer (fun k => k < w.heap.size ∧ nofr fr k) w r x w' → B (.returned x) w') : Calls X.P f vals w B :=
 ((hO.ans _ _ _ hd).2 (fun k => k < w.heap.size ∧ nofr fr k) w vals hI.glob (fun _ h => h.1) hl hr).mono (fun e W' h => by
  cases e with
  | returned x => exact hB x W' h
  | _ => exact h.elim)
theorem args_rd (hI : X.Inv tb tv bl fr w) {js : List Nat} {vals : Array Value} (hj : js.all (readsAt tb) = true) (ha : ∀ (i : Nat) (a : LV) (x : Value), (js.map LV.v)[i]? = some a → vals[i]? = some x → X.LR tv bl fr a x) :
  ∀ (i : Nat) (c : V) (v : Value), (js.map X.Vh)[i]? = some c → vals[i]? = some v → Rd w (fun k => k < w.heap.size ∧ nofr fr k) c v := by
 intro i c v h1 h2
 rw [List.getElem?_map] at h1
 cases hji : js[i]? with
 | none => rw [hji] at h1; cases h1
 | some j =>
  rw [hji] at h1
  injection h1 with h1
  obtain ⟨t, g1, g2⟩ := ha i (.v j) v (by rw [List.getElem?_map, hji]; rfl) h2
  obtain ⟨e, e1, e2⟩ := readsAt_inv (List.all_eq_true.1 hj j (List.mem_of_getElem? hji))
  rw [← h1, g2]
  exact hI.rd e1 g1 e2
theorem ctv_cons {l : List Nat} : X.ctv (j :: l) = X.ctv l + X.nn j := by
 simp only [LX.ctv, List.map_cons, List.sum_cons]
 omega
theorem asCt_val {a : LV} {l : List Nat} {x : Value} (h : a.asCt = some l) (hr : X.LR tv bl fr a x) : x = .int .i64 (X.ctv l : Int) := by
 cases a with
 | ki n =>
  simp only [LV.asCt] at h
  split at h
  ·rename_i e
   injection h with h
   subst h; subst e
   exact hr
  ·cases h
 | ct l' => injection h with h; subst h; exact hr
 | _ => cases h
theorem asZ_val {a : LV} {z : Int} {x : Value} (h : X.argZ a = some z) (hr : X.LR tv bl fr a x) : x = .int .i64 z := by
 cases a with
 | ki n => injection h with h; subst h; exact hr
 | zi i => injection h with h; subst h; exact hr
 | _ => cases h
theorem lcall_ok {f : Nat} {al : List LV} {ev : LC} {evs : List LC} {v : LV} {vals : Array Value} (hO : X.Ok) (hI : X.Inv tb tv bl fr w) (h : lcall f al tb ev = some (v, tb')) (hH : X.H (ev :: evs)) (hl : al.length = vals.size) (ha : ∀ (i : Nat) (a : LV) (x : Value), al[i]? = some a → vals[i]? = some x → X.LR tv bl fr a x) :
  Known X.P f ∧ X.H evs ∧ Calls X.P f vals w fun e w' => ∃ x tv', e = .returned x ∧ tv <+: tv' ∧ X.LR tv' bl fr v x ∧ X.Inv tb' tv' bl fr w' := by
 cases ev with
 | sz f' j a i =>
  simp only [lcall] at h
  split at h
  ·rename_i hc
   obtain ⟨rfl, rfl, h3, h4⟩ := hc
   simp only [Option.some.injEq, Prod.mk.injEq] at h
   obtain ⟨rfl, rfl⟩ := h
   obtain ⟨⟨z, hz, hd⟩, hH⟩ := hH
   refine ⟨(hO.ans _ _ _ hd).1, hH, ans_call hO hI hd hl (fun p c v h1 h2 => ?_) (fun x w' a => ⟨x, tv, rfl, List.prefix_refl _, answer_int' a, hI.grow (kept_of a)⟩)⟩
   match p, h1 with
   | 0, h1 =>
    injection h1 with h1
    subst h1
    obtain ⟨t, g1, g2⟩ := ha 0 _ v rfl h2
    obtain ⟨e, e1, e2⟩ := readsAt_inv h3
    rw [g2]
    exact hI.rd e1 g1 e2
   | 1, h1 =>
    injection h1 with h1
    subst h1
    rw [asZ_val hz (ha 1 _ v rfl h2)]
    exact .int _ _
   | p + 2, h1 => simp at h1
  ·cases h
 | mk f' js sh i =>
  simp only [lcall] at h
  split at h
  ·rename_i hc
   obtain ⟨rfl, rfl, h3, rfl⟩ := hc
   simp only [Option.some.injEq, Prod.mk.injEq] at h
   obtain ⟨rfl, rfl⟩ := h
   obtain ⟨⟨hd, hh, hown⟩, hH⟩ := hH
   refine ⟨(hO.ans _ _ _ hd).1, hH, ans_call hO hI hd (by simpa using hl) (args_rd hI h3 ha) (fun x w' a => ?_)⟩
   have hk := kept_of a
   have fin : ∀ t : LM, t.x = x → t.lo = w.heap.size → t.hi = w'.heap.size → X.Ent fr w' tb.length ⟨tb.length + 1, if sh then .sh else .nw⟩ t → ∃ x_1 tv', Ending.returned x = Ending.returned x_1 ∧ tv <+: tv' ∧ X.LR tv' bl fr (.v tb.length) x_1 ∧ X.Inv (tb ++ [⟨tb.length + 1, if sh then .sh else .nw⟩]) tv' bl fr w' := fun t ht h1 h2 hent =>
    ⟨x, tv ++ [t], rfl, List.prefix_append _ _, ⟨t, by rw [← hI.len, List.getElem?_append_right (Nat.le_refl _), Nat.sub_self]; rfl, ht.symm⟩,
     hI.more hk [_] [t] rfl (fun t' ht' => by rw [List.mem_singleton.1 ht']; exact ⟨h1, h2⟩) (fun e he => by rw [List.mem_singleton.1 he]) (fun i e t' g1 g2 => by
      match i, g1, g2 with
      | 0, g1, g2 => injection g1 with g1; injection g2 with g2; subst g1; subst g2; exact hent
      | i + 1, g1, _ => simp at g1) (fun i i' t1 t2 g1 g2 hne => by
      have e1 := (List.getElem?_eq_some_iff.1 g1).1
      have e2 := (List.getElem?_eq_some_iff.1 g2).1
      simp at e1 e2
      omega)⟩
   obtain ⟨Γ, hv, hF, hS, hB, hinj, hbZ, hZ, hU, hN, hdis⟩ := a.val
   cases sh with
   | true =>
    have hr : Rd w' (fun k => k < w'.heap.size ∧ nofr fr k) (X.Vh tb.length) x := by
     have nb : ∀ k, w.heap.size ≤ k → nofr fr k := fun k hk b ty hb => by
      obtain ⟨_, _, _, b1, _⟩ := hI.fresh b ty hb
      have := blk_lt b1
      omega
     refine rd_hand hh (fun _ k hk => ⟨(hS k hk).2, (hS k hk).1.elim (fun h => h.2) (nb k)⟩) (fun k hk _ => ⟨(hS k hk).2, (hS k hk).1.elim (fun h => h.2) (nb k)⟩) (fun b hb => ⟨(hB b hb).2.1, nb _ (hB b hb).1⟩) hv
    exact fin ⟨x, w.heap.size, w'.heap.size, fun _ => False⟩ rfl rfl rfl ⟨hO.agx hr, Nat.le_refl _, fun b hb => hb.elim, hr, fun _ => hI.size⟩
   | false =>
    have hr : Rd w' (fun k => w.heap.size ≤ k ∧ k < w'.heap.size) (X.Vh tb.length) x :=
     rd_hand hh (fun e => by cases e) (fun k _ hk => ⟨(hZ k hk).1, (hZ k hk).2.1⟩) (fun b hb => ⟨(hB b hb).1, (hB b hb).2.1⟩) hv
    obtain ⟨T, hT1, hT2⟩ := tree_of_answer (mt := X.mt) a (hown rfl)
    exact fin ⟨x, w.heap.size, w'.heap.size, T⟩ rfl rfl rfl ⟨hO.agx hr, Nat.le_refl _, fun b hb => ⟨hI.size, (hT2 b hb).1, (hT2 b hb).2⟩, ⟨hr, hT1⟩, fun _ => hI.size⟩
  ·cases h
 | tt f' js =>
  simp only [lcall] at h
  split at h
  ·rename_i hc
   obtain ⟨rfl, rfl, h3⟩ := hc
   simp only [Option.some.injEq, Prod.mk.injEq] at h
   obtain ⟨rfl, rfl⟩ := h
   obtain ⟨hd, hH⟩ := hH
   exact ⟨(hO.ans _ _ _ hd).1, hH, ans_call hO hI hd (by simpa using hl) (args_rd hI h3 ha) (fun x w' a => ⟨x, tv, rfl, List.prefix_refl _, answer_bool' a, hI.grow (kept_of a)⟩)⟩
  ·cases h
 | mark f' j l =>
  simp only [lcall] at h
  split at h
  ·rename_i j' a
   split at h
   ·rename_i hc
    obtain ⟨rfl, rfl, hct⟩ := hc
    split at h
    ·rename_i e he
     split at h
     ·rename_i hw
      simp only [Option.some.injEq, Prod.mk.injEq] at h
      obtain ⟨rfl, rfl⟩ := h
      obtain ⟨⟨hm, hb⟩, hH⟩ := hH
      obtain ⟨y, k, rfl⟩ : ∃ y k, vals = #[y, k] := by
       have : vals.toList.length = 2 := by simpa using hl.symm
       match hv : vals.toList, this with
       | [y, k], _ => exact ⟨y, k, arr2 hv⟩
      obtain ⟨t, g1, rfl⟩ := ha 0 _ y rfl rfl
      obtain rfl := asCt_val hct (ha 1 _ k rfl rfl)
      have hent := hI.ent j' e t he g1
      have htree : (X.shp j').tree X.mt false w t.x 0 (X.nn j') t.T := by
       have := hent.st
       cases hst : e.st with
       | nw => rw [hst] at this; exact this.2
       | tr => rw [hst] at this; exact this
       | _ => rw [hst] at hw; cases hw
      have hlow : ∀ b, t.T b → globN ≤ b ∧ b < w.heap.size := fun b hb => by
       obtain ⟨q1, q2, q3⟩ := hent.low b hb
       have := hI.g0.2
       have := hent.hi
       omega
      have go : ∀ (kn : Known X.P f'), Calls X.P f' #[t.x, .int .i64 (X.ctv l : Int)] w (fun e w' => e = .returned (.int .i64 ((X.ctv l + X.nn j' : Nat) : Int)) ∧ Mod t.T w w' ∧ (X.shp j').tree X.mt true w' t.x (X.ctv l) (X.nn j') t.T) →
        Known X.P f' ∧ X.H evs ∧ Calls X.P f' #[t.x, .int .i64 (X.ctv l : Int)] w fun e_1 w' => ∃ x tv', e_1 = .returned x ∧ tv <+: tv' ∧ X.LR tv' bl fr (.ct (j' :: l)) x ∧ X.Inv (markTb tb j' e.grp l) tv' bl fr w' := fun kn hc =>
       ⟨kn, hH, hc.mono (fun e' w' h => ⟨_, tv, h.1, List.prefix_refl _, by show Value.int _ _ = _; rw [ctv_cons], hI.marked he g1 h.2.1 h.2.2 hw⟩)⟩
      cases hs : X.shp j' with
      | s ks =>
       rw [hs] at hm htree
       rw [hs] at go
       exact go hm.1 (hm.2 t.T t.x (X.nn j') (X.ctv l) w hI.glob hlow htree hb)
      | a sz fs =>
       rw [hs] at hm htree
       rw [hs] at go
       obtain ⟨cs, q1, q2, q3⟩ := htree
       refine go hm.1 ?_
       rw [q1]
       exact (hm.2 t.T cs (X.nn j') (X.ctv l) w hI.glob hlow q2 q3 hb).mono (fun e' w' h => ⟨h.1, h.2.1, cs, rfl, q2, h.2.2⟩)
     ·cases h
    ·cases h
   ·cases h
  ·cases h
 | held f' j l =>
  simp only [lcall] at h
  split at h
  ·rename_i j' a
   split at h
   ·rename_i hc
    obtain ⟨rfl, rfl, hct⟩ := hc
    split at h
    ·rename_i e he
     split at h
     ·rename_i hw
      simp only [Option.some.injEq, Prod.mk.injEq] at h
      obtain ⟨rfl, rfl⟩ := h
      obtain ⟨⟨hm, hb⟩, hH⟩ := hH
      obtain ⟨y, k, rfl⟩ : ∃ y k, vals = #[y, k] := by
       have : vals.toList.length = 2 := by simpa using hl.symm
       match hv : vals.toList, this with
       | [y, k], _ => exact ⟨y, k, arr2 hv⟩
      obtain ⟨t, g1, rfl⟩ := ha 0 _ y rfl rfl
      obtain rfl := asCt_val hct (ha 1 _ k rfl rfl)
      have hent := hI.ent j' e t he g1
      have htree : (X.shp j').tree X.mt true w t.x (X.ctv l) (X.nn j') t.T := by
       have := hent.st
       rw [hw] at this
       exact this
      have hlow : ∀ b, t.T b → b < w.heap.size := fun b hb => by
       obtain ⟨q1, q2, q3⟩ := hent.low b hb
       have := hent.hi
       omega
      have go : ∀ (kn : Known X.P f'), Calls X.P f' #[t.x, .int .i64 (X.ctv l : Int)] w (fun e w' => e = .returned (.int .i64 ((X.ctv l + X.nn j' : Nat) : Int)) ∧ Kept w w') →
        Known X.P f' ∧ X.H evs ∧ Calls X.P f' #[t.x, .int .i64 (X.ctv l : Int)] w fun e_1 w' => ∃ x tv', e_1 = .returned x ∧ tv <+: tv' ∧ X.LR tv' bl fr (.ct (j' :: l)) x ∧ X.Inv tb tv' bl fr w' := fun kn hc =>
       ⟨kn, hH, hc.mono (fun e' w' h => ⟨_, tv, h.1, List.prefix_refl _, by show Value.int _ _ = _; rw [ctv_cons], hI.grow h.2⟩)⟩
      cases hs : X.shp j' with
      | s ks =>
       rw [hs] at hm htree
       exact go hm.1 (hm.2 t.T t.x (X.nn j') (X.ctv l) w hI.glob hlow htree hb)
      | a sz fs =>
       rw [hs] at hm htree
       obtain ⟨cs, q1, q2, q3⟩ := htree
       refine go hm.1 ?_
       rw [q1]
       exact hm.2 t.T cs (X.nn j') (X.ctv l) w hI.glob hlow q2 q3 hb
     ·cases h
    ·cases h
   ·cases h
  ·cases h
 | _ => cases h
end
end Go.Am
end

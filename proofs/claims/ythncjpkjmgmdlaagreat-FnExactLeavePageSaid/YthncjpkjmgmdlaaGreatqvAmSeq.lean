/-
  What laws.sz..S, laws.to..S and laws.eq..S compute on a list of structures, told once for all structures.
-/
import Derived.Test.YthncjpkjmgmdlaaGreatqvAmCfg
import Derived.Test.YthncjpkjmgmdlaaGreatqvAmEvOk2
import Derived.KernelRfl
import Derived.Test.YthncjpkjmgmdlaaGreatqvFlp0
import Derived.Test.YthncjpkjmgmdlaaGreatqvAmTyped
import Derived.Test.YthncjpkjmgmdlaaGreatqvAmPure
section
set_option maxRecDepth 10000
set_option linter.unusedVariables false
namespace Go.Am
open Go Go.Proofs
noncomputable section
abbrev T97 : Type 1 := (β : Type) → Int → (List UInt8 → Option β) → Option β
def P97 : T97 := fun β xk k =>
 br (decide (xk ≤ 0)) (
 k [109, 48]) (
 whileK (fun s1 =>
 br (decide ((lI s1 0) > 0)) (
 strO [.int .u8 (IntKind.wrap .u8 (IntKind.wrap .i64 (48 + (Int.tmod (lI s1 0) 10))))] fun t2 =>
 chk (t2.length + (lS s1 1).length ≤ 9223372036854775807) <|
 some (.inl [.i (IntKind.wrap .i64 (Int.tdiv (lI s1 0) 10)), .s (t2 ++ (lS s1 1))])) (
 some (.inr (0, [.s (lS s1 1)])))) [.i xk, .s []] fun (r3 : Nat × List Leaf) =>
 chk (([109] : List UInt8).length + (lS r3.2 0).length ≤ 9223372036854775807) <|
 k ([109] ++ (lS r3.2 0)))
def F97 : T97 := P97
def X97 : Exits := fun i => lookN i [] [(4, [(.exit 0, xk 20 [(3, .str [])] [])])]
abbrev s97 : List (Bool × List CK) := [(false, [.int .i64])]
def G97 (F : T97) (β : Type) (e : (Int × Unit) × Unit) (k : V → Option β) : Option β := F β e.1.1 (fun y1 => k (.str y1))
abbrev W97 (F : T97) : WT := wrap s97 (G97 F)
theorem k97 (β : Type) (e : argsT s97) (k : V → Option β) : fnK cfg (tabL []) X97 97 Tryz.f97 β (argsEnc s97 e) k = G97 (P97 ) β e k := by kernel_rfl
theorem ok97 : FnOk D 97 (W97 F97) := fn_okW [] X97 (fun _ => rfl) Tryz.func97 rfl (tabL_nil) (k97 )
end
end Go.Am
end
section
set_option linter.unusedVariables false
set_option linter.unusedSimpArgs false
namespace Go.Am
open Go
section
variable {P : Program} {fl : Nat → Bool} {n t e : Nat} {vs : List V}
theorem cn_bool (h : Cn P fl n t vs) (hu : P.underlying t = some .bool) : ∃ b, vs = [.bool b] := by
 cases n with
 | zero => cases h
 | succ n => unfold Cn at h; rw [hu] at h; exact h
theorem cn_int {k : IntKind} (h : Cn P fl n t vs) (hu : P.underlying t = some (.int k)) : ∃ m, vs = [.int k m] ∧ (Lit.int k m).wf = true := by
 cases n with
 | zero => cases h
 | succ n => unfold Cn at h; rw [hu] at h; exact h
theorem cn_str (h : Cn P fl n t vs) (hu : P.underlying t = some .string) : ∃ s, vs = [.str s] ∧ s.length ≤ maxLen := by
 cases n with
 | zero => cases h
 | succ n => unfold Cn at h; rw [hu] at h; exact h
def fieldsC (P : Program) (fl : Nat → Bool) (n : Nat) (vs : List V) : List Field → Prop
 | [] => True
 | f :: fs => Cn P fl n f.type ((vs.drop f.offset).take (P.cellsOf f.type)) ∧ fieldsC P fl n vs fs
theorem cn_struct {fs : Array Field} (h : Cn P fl n t vs) (hu : P.underlying t = some (.struct fs)) : ∃ m, vs.length = P.cellsOf t ∧ fieldsC P fl m vs fs.toList := by
 cases n with
 | zero => cases h
 | succ n =>
  unfold Cn at h
  rw [hu] at h
  refine ⟨n, h.1, ?_⟩
  have : ∀ l : List Field, (∀ f ∈ l, Cn P fl n f.type ((vs.drop f.offset).take (P.cellsOf f.type))) → fieldsC P fl n vs l := by
   intro l
   induction l with
   | nil => intro _; trivial
   | cons f l ih => intro g; exact ⟨g f (by simp), ih (fun f hf => g f (by simp [hf]))⟩
  exact this _ h.2
theorem cn_rows {fs : Array Field} (h : Cn P fl n t vs) (hu : P.underlying t = some (.slice e)) (he : P.underlying e = some (.struct fs)) : ∃ m rows, vs = [.sl (P.cellsOf e) (fl e) rows] ∧ rows.length ≤ maxLen ∧ ∀ r ∈ rows, ∃ us, Cn P fl m e us ∧ r = .agg us := by
 cases n with
 | zero => cases h
 | succ n =>
  unfold Cn at h
  rw [hu] at h
  obtain ⟨rows, h1, h2, h3⟩ := h
  refine ⟨n, rows, h1, h2, fun r hr => ?_⟩
  obtain ⟨us, _, g2, g3⟩ := h3 r hr
  rw [he] at g3
  exact ⟨us, g2, g3⟩
theorem cn_rows1 (h : Cn P fl n t vs) (hu : P.underlying t = some (.slice e)) (he : ∀ fs, P.underlying e ≠ some (.struct fs)) : ∃ m rows, vs = [.sl (P.cellsOf e) (fl e) rows] ∧ rows.length ≤ maxLen ∧ ∀ r ∈ rows, ∃ us, Cn P fl m e us ∧ r = us.headD .undef := by
 cases n with
 | zero => cases h
 | succ n =>
  unfold Cn at h
  rw [hu] at h
  obtain ⟨rows, h1, h2, h3⟩ := h
  refine ⟨n, rows, h1, h2, fun r hr => ?_⟩
  obtain ⟨us, _, g2, g3⟩ := h3 r hr
  refine ⟨us, g2, ?_⟩
  rw [g3]
  cases hd : P.underlying e with
  | none => rfl
  | some d => cases d <;> first | rfl | exact absurd hd (he _)
theorem pack_struct {fs : Array Field} (hu : P.underlying t = some (.struct fs)) : packT P t vs = .agg vs := by unfold packT; rw [hu]
theorem rows_of {T : Type} {ks : List CK} {g : T → cellsT ks} {ok : T → Prop} {l : List V} (h : ∀ r ∈ l, ∃ y, ok y ∧ r = rowEnc true ks (g y)) : ∃ ys, l = rows ks g ys ∧ ∀ y ∈ ys, ok y := by
 induction l with
 | nil => exact ⟨[], rfl, fun y hy => by cases hy⟩
 | cons r l ih =>
  obtain ⟨ys, h1, h2⟩ := ih (fun r hr => h r (by simp [hr]))
  obtain ⟨y, g1, g2⟩ := h r (by simp)
  exact ⟨y :: ys, by rw [g2, h1]; rfl, fun z hz => (List.mem_cons.1 hz).elim (fun e => e ▸ g1) (fun hz => h2 z hz)⟩
theorem rows1_of {T : Type} {kd : CK} {g : T → kd.T} {ok : T → Prop} {l : List V} (h : ∀ r ∈ l, ∃ y, ok y ∧ r = kd.enc (g y)) : ∃ ys, l = rows1 kd g ys ∧ ∀ y ∈ ys, ok y := by
 induction l with
 | nil => exact ⟨[], rfl, fun y hy => by cases hy⟩
 | cons r l ih =>
  obtain ⟨ys, h1, h2⟩ := ih (fun r hr => h r (by simp [hr]))
  obtain ⟨y, g1, g2⟩ := h r (by simp)
  exact ⟨y :: ys, by rw [g2, h1]; rfl, fun z hz => (List.mem_cons.1 hz).elim (fun e => e ▸ g1) (fun hz => h2 z hz)⟩
end
end Go.Am
end
section
set_option linter.unusedVariables false
set_option linter.unusedSimpArgs false
namespace Go.Am
open Go
section
variable {β T : Type} {ks : List CK} {g : T → cellsT ks} {size : T → Nat} {ok : T → Prop} {z : T} {zero : V} {C : Int}
abbrev OLf := Option (List Leaf ⊕ (Nat × List Leaf))
theorem szS_g (F : cellsT ks → Int → (Int → OLf) → OLf) (hF : ∀ y m, 0 ≤ m → m ≤ 1048576 → ok y → ∀ k, F (g y) m k = k (szL m (size y))) (a : List T) (l : Int) (h0 : 0 ≤ l) (h1 : l ≤ 1048576) (h : okL ok a) (k : Int → Option β) :
  br (decide (IntKind.wrap .i64 (l - ((rows ks g a).length : Int)) < 0)) (
   k (-1)) (
   whileK (fun s1 =>
   br (decide ((lI s1 2) < ((lL s1 0).length : Int))) (
   chk (0 ≤ (lI s1 2)) <|
   idx true ks (lL s1 0) ((lI s1 2).toNat) fun e2 =>
   F e2 (lI s1 1) fun n3 =>
   br (decide (n3 < 0)) (
   some (.inr (0, [.i n3, .i (-1)]))) (
   some (.inl [.l (lL s1 0), .i n3, .i (IntKind.wrap .i64 ((lI s1 2) + 1))]))) (
   some (.inr (1, [.i (lI s1 1)])))) [.l (rows ks g a), .i (IntKind.wrap .i64 (l - ((rows ks g a).length : Int))), .i 0] fun (r4 : Nat × List Leaf) =>
   if r4.1 = 0 then
   k (lI r4.2 1)
   else
   k (lI r4.2 0)) = k (szL l (a.length + sumL size a)) := by
 simp only [rows_len]
 refine szCut h0 h1 h.1 (fun m e h0 h1 => ?_)
 rw [e]
 refine while_sz (fun (i : Nat) (m : Int) => ([.l (rows ks g a), .i m, .i (i : Int)] : List Leaf)) a size (fun m => (1, [.i m])) (fun i y m hi hm0 hm1 => ?_) (fun m => brN rirr rfl) (fun m => rfl) h0 h1 rfl
 have hlt : i < a.length := (List.getElem?_eq_some_iff.1 hi).1
 have hb := h.1
 unfold maxLen at hb
 rcases @szCase m (size y) with ⟨c, e⟩ | ⟨c, e⟩
 ·exact .inl ⟨_, c, brE (rlt hlt) (chkE (Int.natCast_nonneg _) (idxE (i := i) hi ((hF y m hm0 hm1 (h.2 y (List.mem_of_getElem? hi)) _).trans (brE (by rw [e]; decide) rfl)))), rfl⟩
 ·exact .inr ⟨c, brE (rlt hlt) (chkE (Int.natCast_nonneg _) (idxE (i := i) hi ((hF y m hm0 hm1 (h.2 y (List.mem_of_getElem? hi)) _).trans (brN (by rw [e]; omega) (two (fun m j : Int => (some (Sum.inl ([.l (rows ks g a), .i m, .i j] : List Leaf)) : OLf)) e (wrapS (i := i) (by omega)))))))⟩
theorem toS_g (F : cellsT ks → (List V → OLf) → OLf) (hF : ∀ y, size y ≤ 1048576 → ∀ k, F (g y) k = k (cellsEnc ks (g y))) (hC : C ≤ 134217728 ∧ 0 ≤ C) (hz : zero = rowEnc true ks (g z)) (a : List T) (h : a.length + sumL size a ≤ 1048576) (k : List V → Option β) :
  chk (0 ≤ ((rows ks g a).length : Int) ∧ ((rows ks g a).length : Int) ≤ ((rows ks g a).length : Int) ∧ ((rows ks g a).length : Int) * C ≤ 140737488355328 ∧ ((rows ks g a).length : Int) ≤ 140737488355328) (
   whileK (fun s1 =>
   br (decide ((lI s1 2) < ((lL s1 0).length : Int))) (
   chk (0 ≤ (lI s1 2)) <|
   idx true ks (lL s1 0) ((lI s1 2).toNat) fun e2 =>
   F e2 fun new =>
   chk (0 ≤ (lI s1 2) ∧ (lI s1 2).toNat < (lL s1 1).length) <|
   storeO (lL s1 1) ((lI s1 2).toNat) 0 new fun l10 =>
   some (.inl [.l (lL s1 0), .l l10, .i (IntKind.wrap .i64 ((lI s1 2) + 1))])) (
   some (.inr (0, [.l (lL s1 1)])))) [.l (rows ks g a), .l (List.replicate (((rows ks g a).length : Int).toNat) zero), .i 0] fun (r11 : Nat × List Leaf) =>
   k (lL r11.2 0)) = k (rows ks g a) := by
 have hm : (a.length : Int) * C ≤ 140737488355328 := Int.le_trans (Int.mul_le_mul (show (a.length : Int) ≤ 1048576 by omega) hC.1 hC.2 (by omega)) (by decide)
 simp only [rows_len, whileK, Int.toNat_natCast]
 refine chkE ⟨by omega, by omega, hm, by omega⟩ ?_
 rw [while_each (fun i : Nat => ([.l (rows ks g a), .l (rows ks g (copyS a z i)), .i (i : Int)] : List Leaf)) a (0, [.l (rows ks g a)]) ?h1 ?h2 _ ?hs]
 case hs => rw [← rows_copy0 hz]; rfl
 case h1 =>
  intro i y hi
  have hlt : i < a.length := (List.getElem?_eq_some_iff.1 hi).1
  have hl := copyS_len (a := a) (n := z) (i := i) (by omega)
  have hm := sumL_mem (f := size) (List.mem_of_getElem? hi)
  refine brE (rlt hlt) (chkE (Int.natCast_nonneg _) (idxE (i := i) hi ((hF y (by omega) _).trans (chkE ⟨Int.natCast_nonneg _, ?_⟩ (storeE (g := g) (y := y) (i := i) rfl (Nat.lt_of_lt_of_eq hlt hl.symm) ?_)))))
  ·show (Int.toNat (i : Int)) < (rows ks g (copyS a z i)).length
   rw [rows_len]; exact Nat.lt_of_lt_of_eq hlt hl.symm
  ·exact two (fun (c : List T) (j : Int) => (some (Sum.inl ([.l (rows ks g a), .l (rows ks g c), .i j] : List Leaf)) : OLf)) (copyS_set hi) (wrapS (i := i) (by omega))
 case h2 =>
  rw [copyS_end]
  exact brN rirr rfl
 ·rfl
theorem eqS_g [DecidableEq T] (F : cellsT ks → cellsT ks → (Bool → OLf) → OLf) (hF : ∀ x y, ok x → ∀ k, F (g x) (g y) k = k (decide (x = y))) (a b : List T) (h : okL ok a) (k : Bool → Option β) :
  br (((rows ks g a).length : Int) != ((rows ks g b).length : Int)) (
   k false) (
   whileK (fun s1 =>
   br (decide ((lI s1 2) < ((lL s1 0).length : Int))) (
   chk (0 ≤ (lI s1 2)) <|
   idx true ks (lL s1 0) ((lI s1 2).toNat) fun e2 =>
   chk (0 ≤ (lI s1 2)) <|
   idx true ks (lL s1 1) ((lI s1 2).toNat) fun e3 =>
   F e2 e3 fun b4 =>
   br (!b4) (
   some (.inr (0, [.b false]))) (
   some (.inl [.l (lL s1 0), .l (lL s1 1), .i (IntKind.wrap .i64 ((lI s1 2) + 1))]))) (
   some (.inr (1, [])))) [.l (rows ks g a), .l (rows ks g b), .i 0] fun (r5 : Nat × List Leaf) =>
   if r5.1 = 0 then
   k (lB r5.2 0)
   else
   k true) = k (decide (a = b)) := by
 refine eqLen (rows_len ..) (rows_len ..) (fun hl => ?_)
 refine while_eq (fun i : Nat => ([.l (rows ks g a), .l (rows ks g b), .i (i : Int)] : List Leaf)) a b hl (fun i x y hi hx hy => ?_) (brN rirr rfl) rfl rfl rfl
 have hb := h.1
 unfold maxLen at hb
 exact brE (rlt hi) (chkE (Int.natCast_nonneg _) (idxE (i := i) hx (chkE (Int.natCast_nonneg _) (idxE (i := i) hy ((hF x y (h.2 x (List.mem_of_getElem? hx)) _).trans (brB rfl rfl (congrArg (fun j : Int => (some (Sum.inl ([.l (rows ks g a), .l (rows ks g b), .i j] : List Leaf)) : OLf)) (wrapS (i := i) (by omega)))))))))
end
section
variable {P : Program} {fl : Nat → Bool} {n : Nat} {t e c : TypeId} {b : Bool} {vs : List V} {T : Type} {ks : List CK} {g : T → cellsT ks} {ok : T → Prop} {F : T → List V} {fs : Array Field}
theorem fBool (h : Cn P fl n t vs) (hu : P.underlying t = some .bool) : ∃ y : Bool, True ∧ vs = [.bool y] := by
 obtain ⟨y, z⟩ := cn_bool h hu
 exact ⟨y, trivial, z⟩
theorem fInt (h : Cn P fl n t vs) (hu : P.underlying t = some (.int .i64)) : ∃ y : Int, okI y ∧ vs = [.int .i64 y] := by
 obtain ⟨y, z, o⟩ := cn_int h hu
 exact ⟨y, okI_of o, z⟩
theorem fStr (h : Cn P fl n t vs) (hu : P.underlying t = some .string) : ∃ y : List UInt8, okS y ∧ vs = [.str y] := by
 obtain ⟨y, z, o⟩ := cn_str h hu
 exact ⟨y, o, z⟩
theorem fRows (h : Cn P fl n t vs) (hu : P.underlying t = some (.slice e)) (he : P.underlying e = some (.struct fs)) (hc : P.cellsOf e = c) (hb : fl e = b) (ho : ∀ {m : Nat} {us : List V}, Cn P fl m e us → ∃ a : T, ok a ∧ us = F a) (hr : ∀ a, V.agg (F a) = rowEnc true ks (g a)) :
  ∃ y : List T, okL ok y ∧ vs = [.sl c b (rows ks g y)] := by
 obtain ⟨_, r, z, l, w⟩ := cn_rows h hu he
 obtain ⟨y, rfl, v⟩ := rows_of (ks := ks) (g := g) (ok := ok) (fun r hr2 => by
  obtain ⟨us, h1, h2⟩ := w r hr2
  obtain ⟨a, h3, h4⟩ := ho h1
  exact ⟨a, h3, by rw [h2, h4]; exact hr a⟩)
 rw [hc, hb] at z
 exact ⟨y, ⟨by rw [rows_len] at l; exact l, v⟩, z⟩
theorem fStrs (h : Cn P fl n t vs) (hu : P.underlying t = some (.slice e)) (he : P.underlying e = some .string) (hc : P.cellsOf e = c) (hb : fl e = b) : ∃ y : List (List UInt8), okL okS y ∧ vs = [.sl c b (rStr y)] := by
 obtain ⟨_, r, z, l, w⟩ := cn_rows1 h hu (by rw [he]; intro fs hfs; cases hfs)
 obtain ⟨y, rfl, v⟩ := rows1_of (kd := .str) (g := fun e => e) (ok := okS) (fun r hr => by
  obtain ⟨us, h1, h2⟩ := w r hr
  obtain ⟨a, h3, h4⟩ := cn_str h1 he
  exact ⟨a, h4, by rw [h2, h3]; rfl⟩)
 rw [hc, hb] at z
 exact ⟨y, ⟨by rw [rows1_len] at l; exact l, v⟩, z⟩
theorem fInts (h : Cn P fl n t vs) (hu : P.underlying t = some (.slice e)) (he : P.underlying e = some (.int .i64)) (hc : P.cellsOf e = c) (hb : fl e = b) : ∃ y : List Int, okL okI y ∧ vs = [.sl c b (rInt y)] := by
 obtain ⟨_, r, z, l, w⟩ := cn_rows1 h hu (by rw [he]; intro fs hfs; cases hfs)
 obtain ⟨y, rfl, v⟩ := rows1_of (kd := .int .i64) (g := fun e => e) (ok := okI) (fun r hr => by
  obtain ⟨us, h1, h2⟩ := w r hr
  obtain ⟨a, h3, h4⟩ := cn_int h1 he
  exact ⟨a, okI_of h4, by rw [h2, h3]; rfl⟩)
 rw [hc, hb] at z
 exact ⟨y, ⟨by rw [rows1_len] at l; exact l, v⟩, z⟩
theorem glue {us vs ws : List V} {o m c : Nat} (hc : m = c) (h : (us.drop o).take m = vs) (h2 : us.drop (o + c) = ws) : us.drop o = vs ++ ws := by
 subst hc
 rw [← h, ← h2, ← List.drop_drop, List.take_append_drop]
end
end Go.Am
end

/-
  Typed forms of functions of the program, written by program (eform.py): each over structures and lists, and that, where it answers, the extracted function hands on that answer.
-/
import Derived.Test.YthncjpkjmgmdlaaqnAmTyped
import Derived.Test.YthncjpkjmgmdlaaqnAmPure
import Derived.Test.YthncjpkjmgmdlaaqnFg
import Derived.Test.YthncjpkjmgmdlaaqnAmCfg
section
set_option linter.unusedVariables false
set_option linter.unusedSimpArgs false
namespace Go.Am
open Go
section
variable {P : Program} {fl : Nat → Bool} {n t e : Nat} {vs : List V}
theorem cn_bool (h : Cn P fl n t vs) (hu : P.underlying t = some .bool) : ∃ b, vs = [.bool b] := by
 cases n with
 | zero => cases h
 | succ n => unfold Cn at h; rw [hu] at h; exact h
theorem cn_int {k : IntKind} (h : Cn P fl n t vs) (hu : P.underlying t = some (.int k)) : ∃ m, vs = [.int k m] ∧ (Lit.int k m).wf = true := by
 cases n with
 | zero => cases h
 | succ n => unfold Cn at h; rw [hu] at h; exact h
theorem cn_str (h : Cn P fl n t vs) (hu : P.underlying t = some .string) : ∃ s, vs = [.str s] ∧ s.length ≤ maxLen := by
 cases n with
 | zero => cases h
 | succ n => unfold Cn at h; rw [hu] at h; exact h
def fieldsC (P : Program) (fl : Nat → Bool) (n : Nat) (vs : List V) : List Field → Prop
 | [] => True
 | f :: fs => Cn P fl n f.type ((vs.drop f.offset).take (P.cellsOf f.type)) ∧ fieldsC P fl n vs fs
theorem cn_struct {fs : Array Field} (h : Cn P fl n t vs) (hu : P.underlying t = some (.struct fs)) : ∃ m, vs.length = P.cellsOf t ∧ fieldsC P fl m vs fs.toList := by
 cases n with
 | zero => cases h
 | succ n =>
  unfold Cn at h
  rw [hu] at h
  refine ⟨n, h.1, ?_⟩
  have : ∀ l : List Field, (∀ f ∈ l, Cn P fl n f.type ((vs.drop f.offset).take (P.cellsOf f.type))) → fieldsC P fl n vs l := by
   intro l
   induction l with
   | nil => intro _; trivial
   | cons f l ih => intro g; exact ⟨g f (by simp), ih (fun f hf => g f (by simp [hf]))⟩
  exact this _ h.2
theorem cn_rows {fs : Array Field} (h : Cn P fl n t vs) (hu : P.underlying t = some (.slice e)) (he : P.underlying e = some (.struct fs)) : ∃ m rows, vs = [.sl (P.cellsOf e) (fl e) rows] ∧ rows.length ≤ maxLen ∧ ∀ r ∈ rows, ∃ us, Cn P fl m e us ∧ r = .agg us := by
 cases n with
 | zero => cases h
 | succ n =>
  unfold Cn at h
  rw [hu] at h
  obtain ⟨rows, h1, h2, h3⟩ := h
  refine ⟨n, rows, h1, h2, fun r hr => ?_⟩
  obtain ⟨us, _, g2, g3⟩ := h3 r hr
  rw [he] at g3
  exact ⟨us, g2, g3⟩
theorem pack_one (hu : ∀ fs, P.underlying t ≠ some (.struct fs)) : packT P t vs = vs.headD .undef := by
 unfold packT
 cases hd : P.underlying t with
 | none => rfl
 | some d => cases d <;> first | rfl | exact absurd hd (hu _)
theorem rows_of {T : Type} {ks : List CK} {g : T → cellsT ks} {ok : T → Prop} {l : List V} (h : ∀ r ∈ l, ∃ y, ok y ∧ r = rowEnc true ks (g y)) : ∃ ys, l = rows ks g ys ∧ ∀ y ∈ ys, ok y := by
 induction l with
 | nil => exact ⟨[], rfl, fun y hy => by cases hy⟩
 | cons r l ih =>
  obtain ⟨ys, h1, h2⟩ := ih (fun r hr => h r (by simp [hr]))
  obtain ⟨y, g1, g2⟩ := h r (by simp)
  exact ⟨y :: ys, by rw [g2, h1]; rfl, fun z hz => (List.mem_cons.1 hz).elim (fun e => e ▸ g1) (fun hz => h2 z hz)⟩
end
end Go.Am
end
section
set_option linter.unusedVariables false
set_option linter.unusedSimpArgs false
namespace Go.Am
open Go
section
variable {β T : Type} {ks : List CK} {g : T → cellsT ks} {size : T → Nat} {ok : T → Prop} {z : T} {zero : V} {C : Int}
abbrev OLf := Option (List Leaf ⊕ (Nat × List Leaf))
theorem szS_g (F : cellsT ks → Int → (Int → OLf) → OLf) (hF : ∀ y m, 0 ≤ m → m ≤ 1048576 → ok y → ∀ k, F (g y) m k = k (szL m (size y))) (a : List T) (l : Int) (h0 : 0 ≤ l) (h1 : l ≤ 1048576) (h : okL ok a) (k : Int → Option β) :
  br (decide (IntKind.wrap .i64 (l - ((rows ks g a).length : Int)) < 0)) (
   k (-1)) (
   whileK (fun s1 =>
   br (decide ((lI s1 2) < ((lL s1 0).length : Int))) (
   chk (0 ≤ (lI s1 2)) <|
   idx true ks (lL s1 0) ((lI s1 2).toNat) fun e2 =>
   F e2 (lI s1 1) fun n3 =>
   br (decide (n3 < 0)) (
   some (.inr (0, [.i n3, .i (-1)]))) (
   some (.inl [.l (lL s1 0), .i n3, .i (IntKind.wrap .i64 ((lI s1 2) + 1))]))) (
   some (.inr (1, [.i (lI s1 1)])))) [.l (rows ks g a), .i (IntKind.wrap .i64 (l - ((rows ks g a).length : Int))), .i 0] fun (r4 : Nat × List Leaf) =>
   if r4.1 = 0 then
   k (lI r4.2 1)
   else
   k (lI r4.2 0)) = k (szL l (a.length + sumL size a)) := by
 simp only [rows_len]
 refine szCut h0 h1 h.1 (fun m e h0 h1 => ?_)
 rw [e]
 refine while_sz (fun (i : Nat) (m : Int) => ([.l (rows ks g a), .i m, .i (i : Int)] : List Leaf)) a size (fun m => (1, [.i m])) (fun i y m hi hm0 hm1 => ?_) (fun m => brN rirr rfl) (fun m => rfl) h0 h1 rfl
 have hlt : i < a.length := (List.getElem?_eq_some_iff.1 hi).1
 have hb := h.1
 unfold maxLen at hb
 rcases @szCase m (size y) with ⟨c, e⟩ | ⟨c, e⟩
 ·exact .inl ⟨_, c, brE (rlt hlt) (chkE (Int.natCast_nonneg _) (idxE (i := i) hi ((hF y m hm0 hm1 (h.2 y (List.mem_of_getElem? hi)) _).trans (brE (by rw [e]; decide) rfl)))), rfl⟩
 ·exact .inr ⟨c, brE (rlt hlt) (chkE (Int.natCast_nonneg _) (idxE (i := i) hi ((hF y m hm0 hm1 (h.2 y (List.mem_of_getElem? hi)) _).trans (brN (by rw [e]; omega) (two (fun m j : Int => (some (Sum.inl ([.l (rows ks g a), .i m, .i j] : List Leaf)) : OLf)) e (wrapS (i := i) (by omega)))))))⟩
theorem toS_g (F : cellsT ks → (List V → OLf) → OLf) (hF : ∀ y, size y ≤ 1048576 → ∀ k, F (g y) k = k (cellsEnc ks (g y))) (hC : C ≤ 134217728 ∧ 0 ≤ C) (hz : zero = rowEnc true ks (g z)) (a : List T) (h : a.length + sumL size a ≤ 1048576) (k : List V → Option β) :
  chk (0 ≤ ((rows ks g a).length : Int) ∧ ((rows ks g a).length : Int) ≤ ((rows ks g a).length : Int) ∧ ((rows ks g a).length : Int) * C ≤ 140737488355328 ∧ ((rows ks g a).length : Int) ≤ 140737488355328) (
   whileK (fun s1 =>
   br (decide ((lI s1 2) < ((lL s1 0).length : Int))) (
   chk (0 ≤ (lI s1 2)) <|
   idx true ks (lL s1 0) ((lI s1 2).toNat) fun e2 =>
   F e2 fun new =>
   chk (0 ≤ (lI s1 2) ∧ (lI s1 2).toNat < (lL s1 1).length) <|
   storeO (lL s1 1) ((lI s1 2).toNat) 0 new fun l10 =>
   some (.inl [.l (lL s1 0), .l l10, .i (IntKind.wrap .i64 ((lI s1 2) + 1))])) (
   some (.inr (0, [.l (lL s1 1)])))) [.l (rows ks g a), .l (List.replicate (((rows ks g a).length : Int).toNat) zero), .i 0] fun (r11 : Nat × List Leaf) =>
   k (lL r11.2 0)) = k (rows ks g a) := by
 have hm : (a.length : Int) * C ≤ 140737488355328 := Int.le_trans (Int.mul_le_mul (show (a.length : Int) ≤ 1048576 by omega) hC.1 hC.2 (by omega)) (by decide)
 simp only [rows_len, whileK, Int.toNat_natCast]
 refine chkE ⟨by omega, by omega, hm, by omega⟩ ?_
 rw [while_each (fun i : Nat => ([.l (rows ks g a), .l (rows ks g (copyS a z i)), .i (i : Int)] : List Leaf)) a (0, [.l (rows ks g a)]) ?h1 ?h2 _ ?hs]
 case hs => rw [← rows_copy0 hz]; rfl
 case h1 =>
  intro i y hi
  have hlt : i < a.length := (List.getElem?_eq_some_iff.1 hi).1
  have hl := copyS_len (a := a) (n := z) (i := i) (by omega)
  have hm := sumL_mem (f := size) (List.mem_of_getElem? hi)
  refine brE (rlt hlt) (chkE (Int.natCast_nonneg _) (idxE (i := i) hi ((hF y (by omega) _).trans (chkE ⟨Int.natCast_nonneg _, ?_⟩ (storeE (g := g) (y := y) (i := i) rfl (Nat.lt_of_lt_of_eq hlt hl.symm) ?_)))))
  ·show (Int.toNat (i : Int)) < (rows ks g (copyS a z i)).length
   rw [rows_len]; exact Nat.lt_of_lt_of_eq hlt hl.symm
  ·exact two (fun (c : List T) (j : Int) => (some (Sum.inl ([.l (rows ks g a), .l (rows ks g c), .i j] : List Leaf)) : OLf)) (copyS_set hi) (wrapS (i := i) (by omega))
 case h2 =>
  rw [copyS_end]
  exact brN rirr rfl
 ·rfl
theorem eqS_g [DecidableEq T] (F : cellsT ks → cellsT ks → (Bool → OLf) → OLf) (hF : ∀ x y, ok x → ∀ k, F (g x) (g y) k = k (decide (x = y))) (a b : List T) (h : okL ok a) (k : Bool → Option β) :
  br (((rows ks g a).length : Int) != ((rows ks g b).length : Int)) (
   k false) (
   whileK (fun s1 =>
   br (decide ((lI s1 2) < ((lL s1 0).length : Int))) (
   chk (0 ≤ (lI s1 2)) <|
   idx true ks (lL s1 0) ((lI s1 2).toNat) fun e2 =>
   chk (0 ≤ (lI s1 2)) <|
   idx true ks (lL s1 1) ((lI s1 2).toNat) fun e3 =>
   F e2 e3 fun b4 =>
   br (!b4) (
   some (.inr (0, [.b false]))) (
   some (.inl [.l (lL s1 0), .l (lL s1 1), .i (IntKind.wrap .i64 ((lI s1 2) + 1))]))) (
   some (.inr (1, [])))) [.l (rows ks g a), .l (rows ks g b), .i 0] fun (r5 : Nat × List Leaf) =>
   if r5.1 = 0 then
   k (lB r5.2 0)
   else
   k true) = k (decide (a = b)) := by
 refine eqLen (rows_len ..) (rows_len ..) (fun hl => ?_)
 refine while_eq (fun i : Nat => ([.l (rows ks g a), .l (rows ks g b), .i (i : Int)] : List Leaf)) a b hl (fun i x y hi hx hy => ?_) (brN rirr rfl) rfl rfl rfl
 have hb := h.1
 unfold maxLen at hb
 exact brE (rlt hi) (chkE (Int.natCast_nonneg _) (idxE (i := i) hx (chkE (Int.natCast_nonneg _) (idxE (i := i) hy ((hF x y (h.2 x (List.mem_of_getElem? hx)) _).trans (brB rfl rfl (congrArg (fun j : Int => (some (Sum.inl ([.l (rows ks g a), .l (rows ks g b), .i j] : List Leaf)) : OLf)) (wrapS (i := i) (by omega)))))))))
end
section
variable {P : Program} {fl : Nat → Bool} {n : Nat} {t e c : TypeId} {b : Bool} {vs : List V} {T : Type} {ks : List CK} {g : T → cellsT ks} {ok : T → Prop} {F : T → List V} {fs : Array Field}
theorem fBool (h : Cn P fl n t vs) (hu : P.underlying t = some .bool) : ∃ y : Bool, True ∧ vs = [.bool y] := by
 obtain ⟨y, z⟩ := cn_bool h hu
 exact ⟨y, trivial, z⟩
theorem fInt (h : Cn P fl n t vs) (hu : P.underlying t = some (.int .i64)) : ∃ y : Int, okI y ∧ vs = [.int .i64 y] := by
 obtain ⟨y, z, o⟩ := cn_int h hu
 exact ⟨y, okI_of o, z⟩
theorem fStr (h : Cn P fl n t vs) (hu : P.underlying t = some .string) : ∃ y : List UInt8, okS y ∧ vs = [.str y] := by
 obtain ⟨y, z, o⟩ := cn_str h hu
 exact ⟨y, o, z⟩
theorem fRows (h : Cn P fl n t vs) (hu : P.underlying t = some (.slice e)) (he : P.underlying e = some (.struct fs)) (hc : P.cellsOf e = c) (hb : fl e = b) (ho : ∀ {m : Nat} {us : List V}, Cn P fl m e us → ∃ a : T, ok a ∧ us = F a) (hr : ∀ a, V.agg (F a) = rowEnc true ks (g a)) :
  ∃ y : List T, okL ok y ∧ vs = [.sl c b (rows ks g y)] := by
 obtain ⟨_, r, z, l, w⟩ := cn_rows h hu he
 obtain ⟨y, rfl, v⟩ := rows_of (ks := ks) (g := g) (ok := ok) (fun r hr2 => by
  obtain ⟨us, h1, h2⟩ := w r hr2
  obtain ⟨a, h3, h4⟩ := ho h1
  exact ⟨a, h3, by rw [h2, h4]; exact hr a⟩)
 rw [hc, hb] at z
 exact ⟨y, ⟨by rw [rows_len] at l; exact l, v⟩, z⟩
theorem glue {us vs ws : List V} {o m c : Nat} (hc : m = c) (h : (us.drop o).take m = vs) (h2 : us.drop (o + c) = ws) : us.drop o = vs ++ ws := by
 subst hc
 rw [← h, ← h2, ← List.drop_drop, List.take_append_drop]
end
end Go.Am
end
section
namespace Go.Am
open Go Go.Proofs
set_option linter.unusedVariables false
set_option linter.unusedSimpArgs false
variable {β : Type}
theorem eqStringS (a b : List (List UInt8)) (h : okL okS a) (k : Bool → Option β) : F115 β (rStr a) (rStr b) k = k (decide (a = b)) := by
 simp only [F115, P115]
 refine eqLen (rStr_len ..) (rStr_len ..) (fun hl => ?_)
 refine while_eq (fun i : Nat => ([.l (rStr a), .l (rStr b), .i (i : Int)] : List Leaf)) a b hl (fun i x y hi hx hy => ?_) (brN rirr1 rfl) rfl rfl rfl
 have hb := h.1
 unfold maxLen at hb
 exact brE (rlt1 hi) (chkE (Int.natCast_nonneg _) (idxE1 (i := i) hx (chkE (Int.natCast_nonneg _) (idxE1 (i := i) hy (brB (c := !decide (x = y)) (by rw [Bool.eq_iff_iff]; simp) rfl (congrArg (fun j : Int => (some (Sum.inl ([.l (rStr a), .l (rStr b), .i j] : List Leaf)) : Option (List Leaf ⊕ (Nat × List Leaf)))) (wrapS (i := i) (by omega))))))))
theorem eqIntS (a b : List Int) (h : okL okI a) (k : Bool → Option β) : F148 β (rInt a) (rInt b) k = k (decide (a = b)) := by
 simp only [F148, P148]
 refine eqLen (rInt_len ..) (rInt_len ..) (fun hl => ?_)
 refine while_eq (fun i : Nat => ([.l (rInt a), .l (rInt b), .i (i : Int)] : List Leaf)) a b hl (fun i x y hi hx hy => ?_) (brN rirr1 rfl) rfl rfl rfl
 have hb := h.1
 unfold maxLen at hb
 exact brE (rlt1 hi) (chkE (Int.natCast_nonneg _) (idxE1 (i := i) hx (chkE (Int.natCast_nonneg _) (idxE1 (i := i) hy (brB (c := !decide (x = y)) (by rw [Bool.eq_iff_iff]; simp) rfl (congrArg (fun j : Int => (some (Sum.inl ([.l (rInt a), .l (rInt b), .i j] : List Leaf)) : Option (List Leaf ⊕ (Nat × List Leaf)))) (wrapS (i := i) (by omega))))))))
def TAddr.nul : TAddr := ⟨[], []⟩
def TAddr.size (a : TAddr) : Nat := a.xHost.length + (a.xPath.length + (0))
def TAddr.ok (a : TAddr) : Prop := okS a.xHost ∧ okS a.xPath ∧ True
theorem eqAddr_iff (a b : TAddr) : ((a.xHost == b.xHost) && ((a.xPath == b.xPath) && (true))) = decide (a = b) := by
 cases a; cases b
 rw [Bool.eq_iff_iff]
 simp only [TAddr.mk.injEq, Bool.and_true, Bool.and_eq_true, beq_iff_eq, decide_eq_true_eq]
theorem eqAddr (a b : TAddr) (h : a.ok) (k : Bool → Option β) : F101 β a.xHost a.xPath b.xHost b.xPath k = k (decide (a = b)) := by
 obtain ⟨q0, q1, _⟩ := h
 simp only [F101, P101]
 refine Eq.trans ?_ (congrArg k (eqAddr_iff a b))
 refine eqCut ?_
 refine eqCut ?_
 rfl
theorem eqAddrS (a b : List TAddr) (h : okL TAddr.ok a) (k : Bool → Option β) : F114 β (rows kAddr TAddr.row a) (rows kAddr TAddr.row b) k = k (decide (a = b)) :=
 eqS_g (g := TAddr.row) (fun e e2 k => F101 _ e.1 e.2.1 e2.1 e2.2.1 k) (fun x y h k => eqAddr x y h k) a b h k
def TPolicy.nul : TPolicy := ⟨false, [], [], [], []⟩
def TPolicy.size (a : TPolicy) : Nat := (a.xScripts.length + sumL List.length a.xScripts) + ((a.xStyles.length + sumL List.length a.xStyles) + ((a.xImages.length + sumL List.length a.xImages) + (a.xNonce.length + (0))))
def TPolicy.ok (a : TPolicy) : Prop := True ∧ okL okS a.xScripts ∧ okL okS a.xStyles ∧ okL okS a.xImages ∧ okS a.xNonce ∧ True
theorem eqPolicy_iff (a b : TPolicy) : ((a.xSet == b.xSet) && (decide (a.xScripts = b.xScripts) && (decide (a.xStyles = b.xStyles) && (decide (a.xImages = b.xImages) && ((a.xNonce == b.xNonce) && (true)))))) = decide (a = b) := by
 cases a; cases b
 rw [Bool.eq_iff_iff]
 simp only [TPolicy.mk.injEq, Bool.and_true, Bool.and_eq_true, beq_iff_eq, decide_eq_true_eq]
theorem eqPolicy (a b : TPolicy) (h : a.ok) (k : Bool → Option β) : F108 β a.xSet (rStr a.xScripts) (rStr a.xStyles) (rStr a.xImages) a.xNonce b.xSet (rStr b.xScripts) (rStr b.xStyles) (rStr b.xImages) b.xNonce k = k (decide (a = b)) := by
 obtain ⟨q0, q1, q2, q3, q4, _⟩ := h
 simp only [F108, P108]
 refine Eq.trans ?_ (congrArg k (eqPolicy_iff a b))
 refine eqCut ?_
 refine (eqStringS a.xScripts b.xScripts q1 _).trans (eqCut ?_)
 refine (eqStringS a.xStyles b.xStyles q2 _).trans (eqCut ?_)
 refine (eqStringS a.xImages b.xImages q3 _).trans (eqCut ?_)
 refine eqCut ?_
 rfl
def TTokenizer.nul : TTokenizer := ⟨[]⟩
def TTokenizer.size (a : TTokenizer) : Nat := a.xRest.length + (0)
def TTokenizer.ok (a : TTokenizer) : Prop := okS a.xRest ∧ True
theorem eqTokenizer_iff (a b : TTokenizer) : ((a.xRest == b.xRest) && (true)) = decide (a = b) := by
 cases a; cases b
 rw [Bool.eq_iff_iff]
 simp only [TTokenizer.mk.injEq, Bool.and_true, Bool.and_eq_true, beq_iff_eq, decide_eq_true_eq]
theorem eqTokenizer (a b : TTokenizer) (h : a.ok) (k : Bool → Option β) : F109 β a.xRest b.xRest k = k (decide (a = b)) := by
 obtain ⟨q0, _⟩ := h
 simp only [F109, P109]
 refine Eq.trans ?_ (congrArg k (eqTokenizer_iff a b))
 refine eqCut ?_
 rfl
def TAttr.nul : TAttr := ⟨[], []⟩
def TAttr.size (a : TAttr) : Nat := a.xName.length + (a.xValue.length + (0))
def TAttr.ok (a : TAttr) : Prop := okS a.xName ∧ okS a.xValue ∧ True
theorem eqAttr_iff (a b : TAttr) : ((a.xName == b.xName) && ((a.xValue == b.xValue) && (true))) = decide (a = b) := by
 cases a; cases b
 rw [Bool.eq_iff_iff]
 simp only [TAttr.mk.injEq, Bool.and_true, Bool.and_eq_true, beq_iff_eq, decide_eq_true_eq]
theorem eqAttr (a b : TAttr) (h : a.ok) (k : Bool → Option β) : F171 β a.xName a.xValue b.xName b.xValue k = k (decide (a = b)) := by
 obtain ⟨q0, q1, _⟩ := h
 simp only [F171, P171]
 refine Eq.trans ?_ (congrArg k (eqAttr_iff a b))
 refine eqCut ?_
 refine eqCut ?_
 rfl
theorem eqAttrS (a b : List TAttr) (h : okL TAttr.ok a) (k : Bool → Option β) : F163 β (rows kAttr TAttr.row a) (rows kAttr TAttr.row b) k = k (decide (a = b)) :=
 eqS_g (g := TAttr.row) (fun e e2 k => F171 _ e.1 e.2.1 e2.1 e2.2.1 k) (fun x y h k => eqAttr x y h k) a b h k
def TToken.nul : TToken := ⟨0, [], [], []⟩
def TToken.size (a : TToken) : Nat := a.xName.length + ((a.xAttrs.length + sumL TAttr.size a.xAttrs) + (a.xText.length + (0)))
def TToken.ok (a : TToken) : Prop := okI a.xKind ∧ okS a.xName ∧ okL TAttr.ok a.xAttrs ∧ okS a.xText ∧ True
theorem eqToken_iff (a b : TToken) : ((a.xKind == b.xKind) && ((a.xName == b.xName) && (decide (a.xAttrs = b.xAttrs) && ((a.xText == b.xText) && (true))))) = decide (a = b) := by
 cases a; cases b
 rw [Bool.eq_iff_iff]
 simp only [TToken.mk.injEq, Bool.and_true, Bool.and_eq_true, beq_iff_eq, decide_eq_true_eq]
theorem eqToken (a b : TToken) (h : a.ok) (k : Bool → Option β) : F146 β a.xKind a.xName (rows kAttr TAttr.row a.xAttrs) a.xText b.xKind b.xName (rows kAttr TAttr.row b.xAttrs) b.xText k = k (decide (a = b)) := by
 obtain ⟨q0, q1, q2, q3, _⟩ := h
 simp only [F146, P146]
 refine Eq.trans ?_ (congrArg k (eqToken_iff a b))
 refine eqCut ?_
 refine eqCut ?_
 refine (eqAttrS a.xAttrs b.xAttrs q2 _).trans (eqCut ?_)
 refine eqCut ?_
 rfl
theorem eqTokenS (a b : List TToken) (h : okL TToken.ok a) (k : Bool → Option β) : F110 β (rows kToken TToken.row a) (rows kToken TToken.row b) k = k (decide (a = b)) :=
 eqS_g (g := TToken.row) (fun e e2 k => F146 _ e.1 e.2.1 e.2.2.1 e.2.2.2.1 e2.1 e2.2.1 e2.2.2.1 e2.2.2.2.1 k) (fun x y h k => eqToken x y h k) a b h k
def TNode.nul : TNode := ⟨[], [], 0, []⟩
def TNode.size (a : TNode) : Nat := a.xName.length + (a.xText.length + ((a.xAttrs.length + sumL TAttr.size a.xAttrs) + (0)))
def TNode.ok (a : TNode) : Prop := okS a.xName ∧ okS a.xText ∧ okI a.xParent ∧ okL TAttr.ok a.xAttrs ∧ True
theorem eqNode_iff (a b : TNode) : ((a.xName == b.xName) && ((a.xText == b.xText) && ((a.xParent == b.xParent) && (decide (a.xAttrs = b.xAttrs) && (true))))) = decide (a = b) := by
 cases a; cases b
 rw [Bool.eq_iff_iff]
 simp only [TNode.mk.injEq, Bool.and_true, Bool.and_eq_true, beq_iff_eq, decide_eq_true_eq]
theorem eqNode (a b : TNode) (h : a.ok) (k : Bool → Option β) : F164 β a.xName a.xText a.xParent (rows kAttr TAttr.row a.xAttrs) b.xName b.xText b.xParent (rows kAttr TAttr.row b.xAttrs) k = k (decide (a = b)) := by
 obtain ⟨q0, q1, q2, q3, _⟩ := h
 simp only [F164, P164]
 refine Eq.trans ?_ (congrArg k (eqNode_iff a b))
 refine eqCut ?_
 refine eqCut ?_
 refine eqCut ?_
 refine (eqAttrS a.xAttrs b.xAttrs q3 _).trans (eqCut ?_)
 rfl
theorem eqNodeS (a b : List TNode) (h : okL TNode.ok a) (k : Bool → Option β) : F147 β (rows kNode TNode.row a) (rows kNode TNode.row b) k = k (decide (a = b)) :=
 eqS_g (g := TNode.row) (fun e e2 k => F164 _ e.1 e.2.1 e.2.2.1 e.2.2.2.1 e2.1 e2.2.1 e2.2.2.1 e2.2.2.2.1 k) (fun x y h k => eqNode x y h k) a b h k
def TBuilder.nul : TBuilder := ⟨[], []⟩
def TBuilder.size (a : TBuilder) : Nat := (a.xNodes.length + sumL TNode.size a.xNodes) + (a.xOpen.length + (0))
def TBuilder.ok (a : TBuilder) : Prop := okL TNode.ok a.xNodes ∧ okL okI a.xOpen ∧ True
theorem eqBuilder_iff (a b : TBuilder) : (decide (a.xNodes = b.xNodes) && (decide (a.xOpen = b.xOpen) && (true))) = decide (a = b) := by
 cases a; cases b
 rw [Bool.eq_iff_iff]
 simp only [TBuilder.mk.injEq, Bool.and_true, Bool.and_eq_true, beq_iff_eq, decide_eq_true_eq]
theorem eqBuilder (a b : TBuilder) (h : a.ok) (k : Bool → Option β) : F111 β (rows kNode TNode.row a.xNodes) (rInt a.xOpen) (rows kNode TNode.row b.xNodes) (rInt b.xOpen) k = k (decide (a = b)) := by
 obtain ⟨q0, q1, _⟩ := h
 simp only [F111, P111]
 refine Eq.trans ?_ (congrArg k (eqBuilder_iff a b))
 refine (eqNodeS a.xNodes b.xNodes q0 _).trans (eqCut ?_)
 refine (eqIntS a.xOpen b.xOpen q1 _).trans (eqCut ?_)
 rfl
def TSlot.nul : TSlot := ⟨0, TAddr.nul, [], 0, false, 0, []⟩
def TSlot.size (a : TSlot) : Nat := TAddr.size a.xTo + (a.xDigest.length + (a.xBody.length + (0)))
def TSlot.ok (a : TSlot) : Prop := okI a.xMode ∧ TAddr.ok a.xTo ∧ okS a.xDigest ∧ okI a.xNode ∧ True ∧ okI a.xCode ∧ okS a.xBody ∧ True
theorem eqSlot_iff (a b : TSlot) : ((a.xMode == b.xMode) && (decide (a.xTo = b.xTo) && ((a.xDigest == b.xDigest) && ((a.xNode == b.xNode) && ((a.xDone == b.xDone) && ((a.xCode == b.xCode) && ((a.xBody == b.xBody) && (true)))))))) = decide (a = b) := by
 cases a; cases b
 rw [Bool.eq_iff_iff]
 simp only [TSlot.mk.injEq, Bool.and_true, Bool.and_eq_true, beq_iff_eq, decide_eq_true_eq]
theorem eqSlot (a b : TSlot) (h : a.ok) (k : Bool → Option β) : F149 β a.xMode a.xTo.xHost a.xTo.xPath a.xDigest a.xNode a.xDone a.xCode a.xBody b.xMode b.xTo.xHost b.xTo.xPath b.xDigest b.xNode b.xDone b.xCode b.xBody k = k (decide (a = b)) := by
 obtain ⟨q0, q1, q2, q3, q4, q5, q6, _⟩ := h
 simp only [F149, P149]
 refine Eq.trans ?_ (congrArg k (eqSlot_iff a b))
 refine eqCut ?_
 refine (eqAddr a.xTo b.xTo q1 _).trans (eqCut ?_)
 refine eqCut ?_
 refine eqCut ?_
 refine eqCut ?_
 refine eqCut ?_
 refine eqCut ?_
 rfl
theorem eqSlotS (a b : List TSlot) (h : okL TSlot.ok a) (k : Bool → Option β) : F112 β (rows kSlot TSlot.row a) (rows kSlot TSlot.row b) k = k (decide (a = b)) :=
 eqS_g (g := TSlot.row) (fun e e2 k => F149 _ e.1 e.2.1 e.2.2.1 e.2.2.2.1 e.2.2.2.2.1 e.2.2.2.2.2.1 e.2.2.2.2.2.2.1 e.2.2.2.2.2.2.2.1 e2.1 e2.2.1 e2.2.2.1 e2.2.2.2.1 e2.2.2.2.2.1 e2.2.2.2.2.2.1 e2.2.2.2.2.2.2.1 e2.2.2.2.2.2.2.2.1 k) (fun x y h k => eqSlot x y h k) a b h k
def TModule.nul : TModule := ⟨TAddr.nul, false, 0, []⟩
def TModule.size (a : TModule) : Nat := TAddr.size a.xTo + (a.xBody.length + (0))
def TModule.ok (a : TModule) : Prop := TAddr.ok a.xTo ∧ True ∧ okI a.xCode ∧ okS a.xBody ∧ True
theorem eqModule_iff (a b : TModule) : (decide (a.xTo = b.xTo) && ((a.xDone == b.xDone) && ((a.xCode == b.xCode) && ((a.xBody == b.xBody) && (true))))) = decide (a = b) := by
 cases a; cases b
 rw [Bool.eq_iff_iff]
 simp only [TModule.mk.injEq, Bool.and_true, Bool.and_eq_true, beq_iff_eq, decide_eq_true_eq]
theorem eqModule (a b : TModule) (h : a.ok) (k : Bool → Option β) : F150 β a.xTo.xHost a.xTo.xPath a.xDone a.xCode a.xBody b.xTo.xHost b.xTo.xPath b.xDone b.xCode b.xBody k = k (decide (a = b)) := by
 obtain ⟨q0, q1, q2, q3, _⟩ := h
 simp only [F150, P150]
 refine Eq.trans ?_ (congrArg k (eqModule_iff a b))
 refine (eqAddr a.xTo b.xTo q0 _).trans (eqCut ?_)
 refine eqCut ?_
 refine eqCut ?_
 refine eqCut ?_
 rfl
theorem eqModuleS (a b : List TModule) (h : okL TModule.ok a) (k : Bool → Option β) : F113 β (rows kModule TModule.row a) (rows kModule TModule.row b) k = k (decide (a = b)) :=
 eqS_g (g := TModule.row) (fun e e2 k => F150 _ e.1 e.2.1 e.2.2.1 e.2.2.2.1 e.2.2.2.2.1 e2.1 e2.2.1 e2.2.2.1 e2.2.2.2.1 e2.2.2.2.2.1 k) (fun x y h k => eqModule x y h k) a b h k
def TPage.nul : TPage := ⟨TAddr.nul, TPolicy.nul, TTokenizer.nul, [], false, TBuilder.nul, [], [], [], 0, 0, 0, 0, [], [], false⟩
def TPage.size (a : TPage) : Nat := TAddr.size a.xAddr + (TPolicy.size a.xPolicy + (TTokenizer.size a.xTok + ((a.xQueue.length + sumL TToken.size a.xQueue) + (TBuilder.size a.xBuilder + ((a.xSlots.length + sumL TSlot.size a.xSlots) + ((a.xMods.length + sumL TModule.size a.xMods) + ((a.xEntries.length + sumL TAddr.size a.xEntries) + ((a.xRan.length + sumL TAddr.size a.xRan) + ((a.xLog.length + sumL List.length a.xLog) + (0))))))))))
def TPage.ok (a : TPage) : Prop := TAddr.ok a.xAddr ∧ TPolicy.ok a.xPolicy ∧ TTokenizer.ok a.xTok ∧ okL TToken.ok a.xQueue ∧ True ∧ TBuilder.ok a.xBuilder ∧ okL TSlot.ok a.xSlots ∧ okL TModule.ok a.xMods ∧ okL TAddr.ok a.xEntries ∧ okI a.xBlock ∧ okI a.xInline ∧ okI a.xDeferred ∧ okI a.xEntered ∧ okL TAddr.ok a.xRan ∧ okL okS a.xLog ∧ True ∧ True
theorem eqPage_iff (a b : TPage) : (decide (a.xAddr = b.xAddr) && (decide (a.xPolicy = b.xPolicy) && (decide (a.xTok = b.xTok) && (decide (a.xQueue = b.xQueue) && ((a.xEnded == b.xEnded) && (decide (a.xBuilder = b.xBuilder) && (decide (a.xSlots = b.xSlots) && (decide (a.xMods = b.xMods) && (decide (a.xEntries = b.xEntries) && ((a.xBlock == b.xBlock) && ((a.xInline == b.xInline) && ((a.xDeferred == b.xDeferred) && ((a.xEntered == b.xEntered) && (decide (a.xRan = b.xRan) && (decide (a.xLog = b.xLog) && ((a.xLoaded == b.xLoaded) && (true))))))))))))))))) = decide (a = b) := by
 cases a; cases b
 rw [Bool.eq_iff_iff]
 simp only [TPage.mk.injEq, Bool.and_true, Bool.and_eq_true, beq_iff_eq, decide_eq_true_eq]
theorem eqPage (a b : TPage) (h : a.ok) (k : Bool → Option β) : F78 β a.xAddr.xHost a.xAddr.xPath a.xPolicy.xSet (rStr a.xPolicy.xScripts) (rStr a.xPolicy.xStyles) (rStr a.xPolicy.xImages) a.xPolicy.xNonce a.xTok.xRest (rows kToken TToken.row a.xQueue) a.xEnded (rows kNode TNode.row a.xBuilder.xNodes) (rInt a.xBuilder.xOpen) (rows kSlot TSlot.row a.xSlots) (rows kModule TModule.row a.xMods) (rows kAddr TAddr.row a.xEntries) a.xBlock a.xInline a.xDeferred a.xEntered (rows kAddr TAddr.row a.xRan) (rStr a.xLog) a.xLoaded b.xAddr.xHost b.xAddr.xPath b.xPolicy.xSet (rStr b.xPolicy.xScripts) (rStr b.xPolicy.xStyles) (rStr b.xPolicy.xImages) b.xPolicy.xNonce b.xTok.xRest (rows kToken TToken.row b.xQueue) b.xEnded (rows kNode TNode.row b.xBuilder.xNodes) (rInt b.xBuilder.xOpen) (rows kSlot TSlot.row b.xSlots) (rows kModule TModule.row b.xMods) (rows kAddr TAddr.row b.xEntries) b.xBlock b.xInline b.xDeferred b.xEntered (rows kAddr TAddr.row b.xRan) (rStr b.xLog) b.xLoaded k = k (decide (a = b)) := by
 obtain ⟨q0, q1, q2, q3, q4, q5, q6, q7, q8, q9, q10, q11, q12, q13, q14, q15, _⟩ := h
 simp only [F78, P78]
 refine Eq.trans ?_ (congrArg k (eqPage_iff a b))
 refine (eqAddr a.xAddr b.xAddr q0 _).trans (eqCut ?_)
 refine (eqPolicy a.xPolicy b.xPolicy q1 _).trans (eqCut ?_)
 refine (eqTokenizer a.xTok b.xTok q2 _).trans (eqCut ?_)
 refine (eqTokenS a.xQueue b.xQueue q3 _).trans (eqCut ?_)
 refine eqCut ?_
 refine (eqBuilder a.xBuilder b.xBuilder q5 _).trans (eqCut ?_)
 refine (eqSlotS a.xSlots b.xSlots q6 _).trans (eqCut ?_)
 refine (eqModuleS a.xMods b.xMods q7 _).trans (eqCut ?_)
 refine (eqAddrS a.xEntries b.xEntries q8 _).trans (eqCut ?_)
 refine eqCut ?_
 refine eqCut ?_
 refine eqCut ?_
 refine eqCut ?_
 refine (eqAddrS a.xRan b.xRan q13 _).trans (eqCut ?_)
 refine (eqStringS a.xLog b.xLog q14 _).trans (eqCut ?_)
 refine eqCut ?_
 rfl
def TVisit.nul : TVisit := ⟨TAddr.nul, TPage.nul, false⟩
def TVisit.size (a : TVisit) : Nat := TAddr.size a.xAddr + (TPage.size a.xPage + (0))
def TVisit.ok (a : TVisit) : Prop := TAddr.ok a.xAddr ∧ TPage.ok a.xPage ∧ True ∧ True
theorem eqVisit_iff (a b : TVisit) : (decide (a.xAddr = b.xAddr) && (decide (a.xPage = b.xPage) && ((a.xKept == b.xKept) && (true)))) = decide (a = b) := by
 cases a; cases b
 rw [Bool.eq_iff_iff]
 simp only [TVisit.mk.injEq, Bool.and_true, Bool.and_eq_true, beq_iff_eq, decide_eq_true_eq]
theorem eqVisit (a b : TVisit) (h : a.ok) (k : Bool → Option β) : F59 β a.xAddr.xHost a.xAddr.xPath a.xPage.xAddr.xHost a.xPage.xAddr.xPath a.xPage.xPolicy.xSet (rStr a.xPage.xPolicy.xScripts) (rStr a.xPage.xPolicy.xStyles) (rStr a.xPage.xPolicy.xImages) a.xPage.xPolicy.xNonce a.xPage.xTok.xRest (rows kToken TToken.row a.xPage.xQueue) a.xPage.xEnded (rows kNode TNode.row a.xPage.xBuilder.xNodes) (rInt a.xPage.xBuilder.xOpen) (rows kSlot TSlot.row a.xPage.xSlots) (rows kModule TModule.row a.xPage.xMods) (rows kAddr TAddr.row a.xPage.xEntries) a.xPage.xBlock a.xPage.xInline a.xPage.xDeferred a.xPage.xEntered (rows kAddr TAddr.row a.xPage.xRan) (rStr a.xPage.xLog) a.xPage.xLoaded a.xKept b.xAddr.xHost b.xAddr.xPath b.xPage.xAddr.xHost b.xPage.xAddr.xPath b.xPage.xPolicy.xSet (rStr b.xPage.xPolicy.xScripts) (rStr b.xPage.xPolicy.xStyles) (rStr b.xPage.xPolicy.xImages) b.xPage.xPolicy.xNonce b.xPage.xTok.xRest (rows kToken TToken.row b.xPage.xQueue) b.xPage.xEnded (rows kNode TNode.row b.xPage.xBuilder.xNodes) (rInt b.xPage.xBuilder.xOpen) (rows kSlot TSlot.row b.xPage.xSlots) (rows kModule TModule.row b.xPage.xMods) (rows kAddr TAddr.row b.xPage.xEntries) b.xPage.xBlock b.xPage.xInline b.xPage.xDeferred b.xPage.xEntered (rows kAddr TAddr.row b.xPage.xRan) (rStr b.xPage.xLog) b.xPage.xLoaded b.xKept k = k (decide (a = b)) := by
 obtain ⟨q0, q1, q2, _⟩ := h
 simp only [F59, P59]
 refine Eq.trans ?_ (congrArg k (eqVisit_iff a b))
 refine (eqAddr a.xAddr b.xAddr q0 _).trans (eqCut ?_)
 refine (eqPage a.xPage b.xPage q1 _).trans (eqCut ?_)
 refine eqCut ?_
 rfl
theorem eqVisitS (a b : List TVisit) (h : okL TVisit.ok a) (k : Bool → Option β) : F36 β (rows kVisit TVisit.row a) (rows kVisit TVisit.row b) k = k (decide (a = b)) :=
 eqS_g (g := TVisit.row) (fun e e2 k => F59 _ e.1 e.2.1 e.2.2.1 e.2.2.2.1 e.2.2.2.2.1 e.2.2.2.2.2.1 e.2.2.2.2.2.2.1 e.2.2.2.2.2.2.2.1 e.2.2.2.2.2.2.2.2.1 e.2.2.2.2.2.2.2.2.2.1 e.2.2.2.2.2.2.2.2.2.2.1 e.2.2.2.2.2.2.2.2.2.2.2.1 e.2.2.2.2.2.2.2.2.2.2.2.2.1 e.2.2.2.2.2.2.2.2.2.2.2.2.2.1 e.2.2.2.2.2.2.2.2.2.2.2.2.2.2.1 e.2.2.2.2.2.2.2.2.2.2.2.2.2.2.2.1 e.2.2.2.2.2.2.2.2.2.2.2.2.2.2.2.2.1 e.2.2.2.2.2.2.2.2.2.2.2.2.2.2.2.2.2.1 e.2.2.2.2.2.2.2.2.2.2.2.2.2.2.2.2.2.2.1 e.2.2.2.2.2.2.2.2.2.2.2.2.2.2.2.2.2.2.2.1 e.2.2.2.2.2.2.2.2.2.2.2.2.2.2.2.2.2.2.2.2.1 e.2.2.2.2.2.2.2.2.2.2.2.2.2.2.2.2.2.2.2.2.2.1 e.2.2.2.2.2.2.2.2.2.2.2.2.2.2.2.2.2.2.2.2.2.2.1 e.2.2.2.2.2.2.2.2.2.2.2.2.2.2.2.2.2.2.2.2.2.2.2.1 e.2.2.2.2.2.2.2.2.2.2.2.2.2.2.2.2.2.2.2.2.2.2.2.2.1 e2.1 e2.2.1 e2.2.2.1 e2.2.2.2.1 e2.2.2.2.2.1 e2.2.2.2.2.2.1 e2.2.2.2.2.2.2.1 e2.2.2.2.2.2.2.2.1 e2.2.2.2.2.2.2.2.2.1 e2.2.2.2.2.2.2.2.2.2.1 e2.2.2.2.2.2.2.2.2.2.2.1 e2.2.2.2.2.2.2.2.2.2.2.2.1 e2.2.2.2.2.2.2.2.2.2.2.2.2.1 e2.2.2.2.2.2.2.2.2.2.2.2.2.2.1 e2.2.2.2.2.2.2.2.2.2.2.2.2.2.2.1 e2.2.2.2.2.2.2.2.2.2.2.2.2.2.2.2.1 e2.2.2.2.2.2.2.2.2.2.2.2.2.2.2.2.2.1 e2.2.2.2.2.2.2.2.2.2.2.2.2.2.2.2.2.2.1 e2.2.2.2.2.2.2.2.2.2.2.2.2.2.2.2.2.2.2.1 e2.2.2.2.2.2.2.2.2.2.2.2.2.2.2.2.2.2.2.2.1 e2.2.2.2.2.2.2.2.2.2.2.2.2.2.2.2.2.2.2.2.2.1 e2.2.2.2.2.2.2.2.2.2.2.2.2.2.2.2.2.2.2.2.2.2.1 e2.2.2.2.2.2.2.2.2.2.2.2.2.2.2.2.2.2.2.2.2.2.2.1 e2.2.2.2.2.2.2.2.2.2.2.2.2.2.2.2.2.2.2.2.2.2.2.2.1 e2.2.2.2.2.2.2.2.2.2.2.2.2.2.2.2.2.2.2.2.2.2.2.2.2.1 k) (fun x y h k => eqVisit x y h k) a b h k
open Classical in noncomputable def lszVisitS (a : List TVisit) (l : Int) : Option Int := if 0 ≤ l ∧ l ≤ 1048576 ∧ okL TVisit.ok a then some (szL l (a.length + sumL TVisit.size a)) else none
open Classical in noncomputable def leqVisitS (a b : List TVisit) : Option Bool := if okL TVisit.ok a then some (decide (a = b)) else none
def TTab.nul : TTab := ⟨[], 0⟩
def TTab.size (a : TTab) : Nat := (a.xVisits.length + sumL TVisit.size a.xVisits) + (0)
def TTab.ok (a : TTab) : Prop := okL TVisit.ok a.xVisits ∧ okI a.xAt ∧ True
theorem eqTab_iff (a b : TTab) : (decide (a.xVisits = b.xVisits) && ((a.xAt == b.xAt) && (true))) = decide (a = b) := by
 cases a; cases b
 rw [Bool.eq_iff_iff]
 simp only [TTab.mk.injEq, Bool.and_true, Bool.and_eq_true, beq_iff_eq, decide_eq_true_eq]
theorem eqTab (a b : TTab) (h : a.ok) (k : Bool → Option β) : F15 β (rows kVisit TVisit.row a.xVisits) a.xAt (rows kVisit TVisit.row b.xVisits) b.xAt k = k (decide (a = b)) := by
 obtain ⟨q0, q1, _⟩ := h
 simp only [F15, P15]
 refine Eq.trans ?_ (congrArg k (eqTab_iff a b))
 refine (eqVisitS a.xVisits b.xVisits q0 _).trans (eqCut ?_)
 refine eqCut ?_
 rfl
open Classical in noncomputable def leqTab (a b : TTab) : Option Bool := if TTab.ok a then some (decide (a = b)) else none
def TResponse.nul : TResponse := ⟨0, 0, [], 0, false, []⟩
def TResponse.size (a : TResponse) : Nat := a.xBody.length + (a.xPolicy.length + (0))
def TResponse.ok (a : TResponse) : Prop := okI a.xStatus ∧ okI a.xKind ∧ okS a.xBody ∧ okI a.xAge ∧ True ∧ okS a.xPolicy ∧ True
theorem szResponse (a : TResponse) (l : Int) (h0 : 0 ≤ l) (h1 : l ≤ 1048576) (h : a.ok) (k : Int → Option β) : F143 β a.xStatus a.xKind a.xBody a.xAge a.xShares a.xPolicy l k = k (szL l a.size) := by
 obtain ⟨q0, q1, q2, q3, q4, q5, _⟩ := h
 unfold TResponse.size
 simp only [F143, P143]
 refine szCut h0 h1 q2 (fun m2 e2 h0 h1 => ?_)
 rw [e2]
 refine szCut h0 h1 q5 (fun m5 e5 h0 h1 => ?_)
 rw [e5]
 exact szEnd h0
theorem toResponse (a : TResponse) (h : a.size ≤ 1048576) (k : Int → Int → List UInt8 → Int → Bool → List UInt8 → Option β) : F144 β a.xStatus a.xKind a.xBody a.xAge a.xShares a.xPolicy k = k a.xStatus a.xKind a.xBody a.xAge a.xShares a.xPolicy := by
 unfold TResponse.size at h
 simp only [F144, P144]
theorem eqResponse_iff (a b : TResponse) : ((a.xStatus == b.xStatus) && ((a.xKind == b.xKind) && ((a.xBody == b.xBody) && ((a.xAge == b.xAge) && ((a.xShares == b.xShares) && ((a.xPolicy == b.xPolicy) && (true))))))) = decide (a = b) := by
 cases a; cases b
 rw [Bool.eq_iff_iff]
 simp only [TResponse.mk.injEq, Bool.and_true, Bool.and_eq_true, beq_iff_eq, decide_eq_true_eq]
theorem eqResponse (a b : TResponse) (h : a.ok) (k : Bool → Option β) : F124 β a.xStatus a.xKind a.xBody a.xAge a.xShares a.xPolicy b.xStatus b.xKind b.xBody b.xAge b.xShares b.xPolicy k = k (decide (a = b)) := by
 obtain ⟨q0, q1, q2, q3, q4, q5, _⟩ := h
 simp only [F124, P124]
 refine Eq.trans ?_ (congrArg k (eqResponse_iff a b))
 refine eqCut ?_
 refine eqCut ?_
 refine eqCut ?_
 refine eqCut ?_
 refine eqCut ?_
 refine eqCut ?_
 rfl
def TFile.nul : TFile := ⟨[], TResponse.nul⟩
def TFile.size (a : TFile) : Nat := a.xPath.length + (TResponse.size a.xResponse + (0))
def TFile.ok (a : TFile) : Prop := okS a.xPath ∧ TResponse.ok a.xResponse ∧ True
theorem szFile (a : TFile) (l : Int) (h0 : 0 ≤ l) (h1 : l ≤ 1048576) (h : a.ok) (k : Int → Option β) : F104 β a.xPath a.xResponse.xStatus a.xResponse.xKind a.xResponse.xBody a.xResponse.xAge a.xResponse.xShares a.xResponse.xPolicy l k = k (szL l a.size) := by
 obtain ⟨q0, q1, _⟩ := h
 unfold TFile.size
 simp only [F104, P104]
 refine szCut h0 h1 q0 (fun m0 e0 h0 h1 => ?_)
 rw [e0]
 refine (szResponse a.xResponse _ h0 h1 q1 _).trans (szSub h0 h1 (fun m1 e1 h0 h1 => ?_))
 rw [e1]
 exact szEnd h0
theorem toFile (a : TFile) (h : a.size ≤ 1048576) (k : List UInt8 → Int → Int → List UInt8 → Int → Bool → List UInt8 → Option β) : F105 β a.xPath a.xResponse.xStatus a.xResponse.xKind a.xResponse.xBody a.xResponse.xAge a.xResponse.xShares a.xResponse.xPolicy k = k a.xPath a.xResponse.xStatus a.xResponse.xKind a.xResponse.xBody a.xResponse.xAge a.xResponse.xShares a.xResponse.xPolicy := by
 unfold TFile.size at h
 simp only [F105, P105]
 exact (toResponse a.xResponse (by omega) _).trans (rfl)
theorem eqFile_iff (a b : TFile) : ((a.xPath == b.xPath) && (decide (a.xResponse = b.xResponse) && (true))) = decide (a = b) := by
 cases a; cases b
 rw [Bool.eq_iff_iff]
 simp only [TFile.mk.injEq, Bool.and_true, Bool.and_eq_true, beq_iff_eq, decide_eq_true_eq]
theorem eqFile (a b : TFile) (h : a.ok) (k : Bool → Option β) : F90 β a.xPath a.xResponse.xStatus a.xResponse.xKind a.xResponse.xBody a.xResponse.xAge a.xResponse.xShares a.xResponse.xPolicy b.xPath b.xResponse.xStatus b.xResponse.xKind b.xResponse.xBody b.xResponse.xAge b.xResponse.xShares b.xResponse.xPolicy k = k (decide (a = b)) := by
 obtain ⟨q0, q1, _⟩ := h
 simp only [F90, P90]
 refine Eq.trans ?_ (congrArg k (eqFile_iff a b))
 refine eqCut ?_
 refine (eqResponse a.xResponse b.xResponse q1 _).trans (eqCut ?_)
 rfl
theorem szFileS (a : List TFile) (l : Int) (h0 : 0 ≤ l) (h1 : l ≤ 1048576) (h : okL TFile.ok a) (k : Int → Option β) : F74 β (rows kFile TFile.row a) l k = k (szL l (a.length + sumL TFile.size a)) :=
 szS_g (g := TFile.row) (fun e m k => F104 _ e.1 e.2.1 e.2.2.1 e.2.2.2.1 e.2.2.2.2.1 e.2.2.2.2.2.1 e.2.2.2.2.2.2.1 m k) (fun y m h0 h1 h k => szFile y m h0 h1 h k) a l h0 h1 h k
theorem toFileS (a : List TFile) (h : a.length + sumL TFile.size a ≤ 1048576) (k : List V → Option β) : F75 β (rows kFile TFile.row a) k = k (rows kFile TFile.row a) :=
 toS_g (g := TFile.row) (z := TFile.nul) (fun e k => F105 _ e.1 e.2.1 e.2.2.1 e.2.2.2.1 e.2.2.2.2.1 e.2.2.2.2.2.1 e.2.2.2.2.2.2.1 fun v0 v1 v2 v3 v4 v5 v6 => k [.str v0, .int .i64 v1, .int .i64 v2, .str v3, .int .i64 v4, .bool v5, .str v6]) (fun y h k => toFile y h _) (by decide) rfl a h k
theorem eqFileS (a b : List TFile) (h : okL TFile.ok a) (k : Bool → Option β) : F54 β (rows kFile TFile.row a) (rows kFile TFile.row b) k = k (decide (a = b)) :=
 eqS_g (g := TFile.row) (fun e e2 k => F90 _ e.1 e.2.1 e.2.2.1 e.2.2.2.1 e.2.2.2.2.1 e.2.2.2.2.2.1 e.2.2.2.2.2.2.1 e2.1 e2.2.1 e2.2.2.1 e2.2.2.2.1 e2.2.2.2.2.1 e2.2.2.2.2.2.1 e2.2.2.2.2.2.2.1 k) (fun x y h k => eqFile x y h k) a b h k
def TServer.nul : TServer := ⟨[], []⟩
def TServer.size (a : TServer) : Nat := a.xHost.length + ((a.xFiles.length + sumL TFile.size a.xFiles) + (0))
def TServer.ok (a : TServer) : Prop := okS a.xHost ∧ okL TFile.ok a.xFiles ∧ True
theorem szServer (a : TServer) (l : Int) (h0 : 0 ≤ l) (h1 : l ≤ 1048576) (h : a.ok) (k : Int → Option β) : F39 β a.xHost (rows kFile TFile.row a.xFiles) l k = k (szL l a.size) := by
 obtain ⟨q0, q1, _⟩ := h
 unfold TServer.size
 simp only [F39, P39]
 refine szCut h0 h1 q0 (fun m0 e0 h0 h1 => ?_)
 rw [e0]
 refine (szFileS a.xFiles _ h0 h1 q1 _).trans (szSub h0 h1 (fun m1 e1 h0 h1 => ?_))
 rw [e1]
 exact szEnd h0
theorem toServer (a : TServer) (h : a.size ≤ 1048576) (k : List UInt8 → List V → Option β) : F42 β a.xHost (rows kFile TFile.row a.xFiles) k = k a.xHost (rows kFile TFile.row a.xFiles) := by
 unfold TServer.size at h
 simp only [F42, P42]
 exact (toFileS a.xFiles (by omega) _).trans (rfl)
theorem eqServer_iff (a b : TServer) : ((a.xHost == b.xHost) && (decide (a.xFiles = b.xFiles) && (true))) = decide (a = b) := by
 cases a; cases b
 rw [Bool.eq_iff_iff]
 simp only [TServer.mk.injEq, Bool.and_true, Bool.and_eq_true, beq_iff_eq, decide_eq_true_eq]
theorem eqServer (a b : TServer) (h : a.ok) (k : Bool → Option β) : F27 β a.xHost (rows kFile TFile.row a.xFiles) b.xHost (rows kFile TFile.row b.xFiles) k = k (decide (a = b)) := by
 obtain ⟨q0, q1, _⟩ := h
 simp only [F27, P27]
 refine Eq.trans ?_ (congrArg k (eqServer_iff a b))
 refine eqCut ?_
 refine (eqFileS a.xFiles b.xFiles q1 _).trans (eqCut ?_)
 rfl
open Classical in noncomputable def lszServer (a : TServer) (l : Int) : Option Int := if 0 ≤ l ∧ l ≤ 1048576 ∧ TServer.ok a then some (szL l (TServer.size a)) else none
open Classical in noncomputable def leqServer (a b : TServer) : Option Bool := if TServer.ok a then some (decide (a = b)) else none
theorem szServerS (a : List TServer) (l : Int) (h0 : 0 ≤ l) (h1 : l ≤ 1048576) (h : okL TServer.ok a) (k : Int → Option β) : F18 β (rows kServer TServer.row a) l k = k (szL l (a.length + sumL TServer.size a)) :=
 szS_g (g := TServer.row) (fun e m k => F39 _ e.1 e.2.1 m k) (fun y m h0 h1 h k => szServer y m h0 h1 h k) a l h0 h1 h k
theorem toServerS (a : List TServer) (h : a.length + sumL TServer.size a ≤ 1048576) (k : List V → Option β) : F20 β (rows kServer TServer.row a) k = k (rows kServer TServer.row a) :=
 toS_g (g := TServer.row) (z := TServer.nul) (fun e k => F42 _ e.1 e.2.1 fun v0 v1 => k [.str v0, .sl 7 true v1]) (fun y h k => toServer y h _) (by decide) rfl a h k
theorem eqServerS (a b : List TServer) (h : okL TServer.ok a) (k : Bool → Option β) : F8 β (rows kServer TServer.row a) (rows kServer TServer.row b) k = k (decide (a = b)) :=
 eqS_g (g := TServer.row) (fun e e2 k => F27 _ e.1 e.2.1 e2.1 e2.2.1 k) (fun x y h k => eqServer x y h k) a b h k
def TEntry.nul : TEntry := ⟨[], TAddr.nul, TResponse.nul, 0⟩
def TEntry.size (a : TEntry) : Nat := a.xTop.length + (TAddr.size a.xTo + (TResponse.size a.xResponse + (0)))
def TEntry.ok (a : TEntry) : Prop := okS a.xTop ∧ TAddr.ok a.xTo ∧ TResponse.ok a.xResponse ∧ okI a.xUntil ∧ True
theorem eqEntry_iff (a b : TEntry) : ((a.xTop == b.xTop) && (decide (a.xTo = b.xTo) && (decide (a.xResponse = b.xResponse) && ((a.xUntil == b.xUntil) && (true))))) = decide (a = b) := by
 cases a; cases b
 rw [Bool.eq_iff_iff]
 simp only [TEntry.mk.injEq, Bool.and_true, Bool.and_eq_true, beq_iff_eq, decide_eq_true_eq]
theorem eqEntry (a b : TEntry) (h : a.ok) (k : Bool → Option β) : F145 β a.xTop a.xTo.xHost a.xTo.xPath a.xResponse.xStatus a.xResponse.xKind a.xResponse.xBody a.xResponse.xAge a.xResponse.xShares a.xResponse.xPolicy a.xUntil b.xTop b.xTo.xHost b.xTo.xPath b.xResponse.xStatus b.xResponse.xKind b.xResponse.xBody b.xResponse.xAge b.xResponse.xShares b.xResponse.xPolicy b.xUntil k = k (decide (a = b)) := by
 obtain ⟨q0, q1, q2, q3, _⟩ := h
 simp only [F145, P145]
 refine Eq.trans ?_ (congrArg k (eqEntry_iff a b))
 refine eqCut ?_
 refine (eqAddr a.xTo b.xTo q1 _).trans (eqCut ?_)
 refine (eqResponse a.xResponse b.xResponse q2 _).trans (eqCut ?_)
 refine eqCut ?_
 rfl
theorem eqEntryS (a b : List TEntry) (h : okL TEntry.ok a) (k : Bool → Option β) : F106 β (rows kEntry TEntry.row a) (rows kEntry TEntry.row b) k = k (decide (a = b)) :=
 eqS_g (g := TEntry.row) (fun e e2 k => F145 _ e.1 e.2.1 e.2.2.1 e.2.2.2.1 e.2.2.2.2.1 e.2.2.2.2.2.1 e.2.2.2.2.2.2.1 e.2.2.2.2.2.2.2.1 e.2.2.2.2.2.2.2.2.1 e.2.2.2.2.2.2.2.2.2.1 e2.1 e2.2.1 e2.2.2.1 e2.2.2.2.1 e2.2.2.2.2.1 e2.2.2.2.2.2.1 e2.2.2.2.2.2.2.1 e2.2.2.2.2.2.2.2.1 e2.2.2.2.2.2.2.2.2.1 e2.2.2.2.2.2.2.2.2.2.1 k) (fun x y h k => eqEntry x y h k) a b h k
def TCache.nul : TCache := ⟨[]⟩
def TCache.size (a : TCache) : Nat := (a.xEntries.length + sumL TEntry.size a.xEntries) + (0)
def TCache.ok (a : TCache) : Prop := okL TEntry.ok a.xEntries ∧ True
theorem eqCache_iff (a b : TCache) : (decide (a.xEntries = b.xEntries) && (true)) = decide (a = b) := by
 cases a; cases b
 rw [Bool.eq_iff_iff]
 simp only [TCache.mk.injEq, Bool.and_true, Bool.and_eq_true, beq_iff_eq, decide_eq_true_eq]
theorem eqCache (a b : TCache) (h : a.ok) (k : Bool → Option β) : F76 β (rows kEntry TEntry.row a.xEntries) (rows kEntry TEntry.row b.xEntries) k = k (decide (a = b)) := by
 obtain ⟨q0, _⟩ := h
 simp only [F76, P76]
 refine Eq.trans ?_ (congrArg k (eqCache_iff a b))
 refine (eqEntryS a.xEntries b.xEntries q0 _).trans (eqCut ?_)
 rfl
def TSent.nul : TSent := ⟨[], TAddr.nul, false⟩
def TSent.size (a : TSent) : Nat := a.xTop.length + (TAddr.size a.xTo + (0))
def TSent.ok (a : TSent) : Prop := okS a.xTop ∧ TAddr.ok a.xTo ∧ True ∧ True
theorem eqSent_iff (a b : TSent) : ((a.xTop == b.xTop) && (decide (a.xTo = b.xTo) && ((a.xGuess == b.xGuess) && (true)))) = decide (a = b) := by
 cases a; cases b
 rw [Bool.eq_iff_iff]
 simp only [TSent.mk.injEq, Bool.and_true, Bool.and_eq_true, beq_iff_eq, decide_eq_true_eq]
theorem eqSent (a b : TSent) (h : a.ok) (k : Bool → Option β) : F107 β a.xTop a.xTo.xHost a.xTo.xPath a.xGuess b.xTop b.xTo.xHost b.xTo.xPath b.xGuess k = k (decide (a = b)) := by
 obtain ⟨q0, q1, q2, _⟩ := h
 simp only [F107, P107]
 refine Eq.trans ?_ (congrArg k (eqSent_iff a b))
 refine eqCut ?_
 refine (eqAddr a.xTo b.xTo q1 _).trans (eqCut ?_)
 refine eqCut ?_
 rfl
theorem eqSentS (a b : List TSent) (h : okL TSent.ok a) (k : Bool → Option β) : F77 β (rows kSent TSent.row a) (rows kSent TSent.row b) k = k (decide (a = b)) :=
 eqS_g (g := TSent.row) (fun e e2 k => F107 _ e.1 e.2.1 e.2.2.1 e.2.2.2.1 e2.1 e2.2.1 e2.2.2.1 e2.2.2.2.1 k) (fun x y h k => eqSent x y h k) a b h k
def TNet.nul : TNet := ⟨[], TCache.nul, [], 0⟩
def TNet.size (a : TNet) : Nat := (a.xServers.length + sumL TServer.size a.xServers) + (TCache.size a.xCache + ((a.xLog.length + sumL TSent.size a.xLog) + (0)))
def TNet.ok (a : TNet) : Prop := okL TServer.ok a.xServers ∧ TCache.ok a.xCache ∧ okL TSent.ok a.xLog ∧ okI a.xNow ∧ True
theorem eqNet_iff (a b : TNet) : (decide (a.xServers = b.xServers) && (decide (a.xCache = b.xCache) && (decide (a.xLog = b.xLog) && ((a.xNow == b.xNow) && (true))))) = decide (a = b) := by
 cases a; cases b
 rw [Bool.eq_iff_iff]
 simp only [TNet.mk.injEq, Bool.and_true, Bool.and_eq_true, beq_iff_eq, decide_eq_true_eq]
theorem eqNet (a b : TNet) (h : a.ok) (k : Bool → Option β) : F45 β (rows kServer TServer.row a.xServers) (rows kEntry TEntry.row a.xCache.xEntries) (rows kSent TSent.row a.xLog) a.xNow (rows kServer TServer.row b.xServers) (rows kEntry TEntry.row b.xCache.xEntries) (rows kSent TSent.row b.xLog) b.xNow k = k (decide (a = b)) := by
 obtain ⟨q0, q1, q2, q3, _⟩ := h
 simp only [F45, P45]
 refine Eq.trans ?_ (congrArg k (eqNet_iff a b))
 refine (eqServerS a.xServers b.xServers q0 _).trans (eqCut ?_)
 refine (eqCache a.xCache b.xCache q1 _).trans (eqCut ?_)
 refine (eqSentS a.xLog b.xLog q2 _).trans (eqCut ?_)
 refine eqCut ?_
 rfl
open Classical in noncomputable def leqNet (a b : TNet) : Option Bool := if TNet.ok a then some (decide (a = b)) else none
def TKept.nul : TKept := ⟨TAddr.nul, TResponse.nul⟩
def TKept.size (a : TKept) : Nat := TAddr.size a.xTo + (TResponse.size a.xResponse + (0))
def TKept.ok (a : TKept) : Prop := TAddr.ok a.xTo ∧ TResponse.ok a.xResponse ∧ True
theorem eqKept_iff (a b : TKept) : (decide (a.xTo = b.xTo) && (decide (a.xResponse = b.xResponse) && (true))) = decide (a = b) := by
 cases a; cases b
 rw [Bool.eq_iff_iff]
 simp only [TKept.mk.injEq, Bool.and_true, Bool.and_eq_true, beq_iff_eq, decide_eq_true_eq]
theorem eqKept (a b : TKept) (h : a.ok) (k : Bool → Option β) : F116 β a.xTo.xHost a.xTo.xPath a.xResponse.xStatus a.xResponse.xKind a.xResponse.xBody a.xResponse.xAge a.xResponse.xShares a.xResponse.xPolicy b.xTo.xHost b.xTo.xPath b.xResponse.xStatus b.xResponse.xKind b.xResponse.xBody b.xResponse.xAge b.xResponse.xShares b.xResponse.xPolicy k = k (decide (a = b)) := by
 obtain ⟨q0, q1, _⟩ := h
 simp only [F116, P116]
 refine Eq.trans ?_ (congrArg k (eqKept_iff a b))
 refine (eqAddr a.xTo b.xTo q0 _).trans (eqCut ?_)
 refine (eqResponse a.xResponse b.xResponse q1 _).trans (eqCut ?_)
 rfl
theorem eqKeptS (a b : List TKept) (h : okL TKept.ok a) (k : Bool → Option β) : F79 β (rows kKept TKept.row a) (rows kKept TKept.row b) k = k (decide (a = b)) :=
 eqS_g (g := TKept.row) (fun e e2 k => F116 _ e.1 e.2.1 e.2.2.1 e.2.2.2.1 e.2.2.2.2.1 e.2.2.2.2.2.1 e.2.2.2.2.2.2.1 e.2.2.2.2.2.2.2.1 e2.1 e2.2.1 e2.2.2.1 e2.2.2.2.1 e2.2.2.2.2.1 e2.2.2.2.2.2.1 e2.2.2.2.2.2.2.1 e2.2.2.2.2.2.2.2.1 k) (fun x y h k => eqKept x y h k) a b h k
def THidden.nul : THidden := ⟨false, TPage.nul, [], [], 0⟩
def THidden.size (a : THidden) : Nat := TPage.size a.xPage + ((a.xTaken.length + sumL TKept.size a.xTaken) + ((a.xServers.length + sumL TServer.size a.xServers) + (0)))
def THidden.ok (a : THidden) : Prop := True ∧ TPage.ok a.xPage ∧ okL TKept.ok a.xTaken ∧ okL TServer.ok a.xServers ∧ okI a.xNow ∧ True
theorem eqHidden_iff (a b : THidden) : ((a.xReady == b.xReady) && (decide (a.xPage = b.xPage) && (decide (a.xTaken = b.xTaken) && (decide (a.xServers = b.xServers) && ((a.xNow == b.xNow) && (true)))))) = decide (a = b) := by
 cases a; cases b
 rw [Bool.eq_iff_iff]
 simp only [THidden.mk.injEq, Bool.and_true, Bool.and_eq_true, beq_iff_eq, decide_eq_true_eq]
theorem eqHidden (a b : THidden) (h : a.ok) (k : Bool → Option β) : F46 β a.xReady a.xPage.xAddr.xHost a.xPage.xAddr.xPath a.xPage.xPolicy.xSet (rStr a.xPage.xPolicy.xScripts) (rStr a.xPage.xPolicy.xStyles) (rStr a.xPage.xPolicy.xImages) a.xPage.xPolicy.xNonce a.xPage.xTok.xRest (rows kToken TToken.row a.xPage.xQueue) a.xPage.xEnded (rows kNode TNode.row a.xPage.xBuilder.xNodes) (rInt a.xPage.xBuilder.xOpen) (rows kSlot TSlot.row a.xPage.xSlots) (rows kModule TModule.row a.xPage.xMods) (rows kAddr TAddr.row a.xPage.xEntries) a.xPage.xBlock a.xPage.xInline a.xPage.xDeferred a.xPage.xEntered (rows kAddr TAddr.row a.xPage.xRan) (rStr a.xPage.xLog) a.xPage.xLoaded (rows kKept TKept.row a.xTaken) (rows kServer TServer.row a.xServers) a.xNow b.xReady b.xPage.xAddr.xHost b.xPage.xAddr.xPath b.xPage.xPolicy.xSet (rStr b.xPage.xPolicy.xScripts) (rStr b.xPage.xPolicy.xStyles) (rStr b.xPage.xPolicy.xImages) b.xPage.xPolicy.xNonce b.xPage.xTok.xRest (rows kToken TToken.row b.xPage.xQueue) b.xPage.xEnded (rows kNode TNode.row b.xPage.xBuilder.xNodes) (rInt b.xPage.xBuilder.xOpen) (rows kSlot TSlot.row b.xPage.xSlots) (rows kModule TModule.row b.xPage.xMods) (rows kAddr TAddr.row b.xPage.xEntries) b.xPage.xBlock b.xPage.xInline b.xPage.xDeferred b.xPage.xEntered (rows kAddr TAddr.row b.xPage.xRan) (rStr b.xPage.xLog) b.xPage.xLoaded (rows kKept TKept.row b.xTaken) (rows kServer TServer.row b.xServers) b.xNow k = k (decide (a = b)) := by
 obtain ⟨q0, q1, q2, q3, q4, _⟩ := h
 simp only [F46, P46]
 refine Eq.trans ?_ (congrArg k (eqHidden_iff a b))
 refine eqCut ?_
 refine (eqPage a.xPage b.xPage q1 _).trans (eqCut ?_)
 refine (eqKeptS a.xTaken b.xTaken q2 _).trans (eqCut ?_)
 refine (eqServerS a.xServers b.xServers q3 _).trans (eqCut ?_)
 refine eqCut ?_
 rfl
open Classical in noncomputable def leqHidden (a b : THidden) : Option Bool := if THidden.ok a then some (decide (a = b)) else none
def TWorld.nul : TWorld := ⟨TNet.nul, TTab.nul, THidden.nul, false⟩
def TWorld.size (a : TWorld) : Nat := TNet.size a.xNet + (TTab.size a.xTab + (THidden.size a.xHidden + (0)))
def TWorld.ok (a : TWorld) : Prop := TNet.ok a.xNet ∧ TTab.ok a.xTab ∧ THidden.ok a.xHidden ∧ True ∧ True
theorem eqWorld_iff (a b : TWorld) : (decide (a.xNet = b.xNet) && (decide (a.xTab = b.xTab) && (decide (a.xHidden = b.xHidden) && ((a.xFast == b.xFast) && (true))))) = decide (a = b) := by
 cases a; cases b
 rw [Bool.eq_iff_iff]
 simp only [TWorld.mk.injEq, Bool.and_true, Bool.and_eq_true, beq_iff_eq, decide_eq_true_eq]
theorem eqWorld (a b : TWorld) (h : a.ok) (k : Bool → Option β) : F22 β (rows kServer TServer.row a.xNet.xServers) (rows kEntry TEntry.row a.xNet.xCache.xEntries) (rows kSent TSent.row a.xNet.xLog) a.xNet.xNow (rows kVisit TVisit.row a.xTab.xVisits) a.xTab.xAt a.xHidden.xReady a.xHidden.xPage.xAddr.xHost a.xHidden.xPage.xAddr.xPath a.xHidden.xPage.xPolicy.xSet (rStr a.xHidden.xPage.xPolicy.xScripts) (rStr a.xHidden.xPage.xPolicy.xStyles) (rStr a.xHidden.xPage.xPolicy.xImages) a.xHidden.xPage.xPolicy.xNonce a.xHidden.xPage.xTok.xRest (rows kToken TToken.row a.xHidden.xPage.xQueue) a.xHidden.xPage.xEnded (rows kNode TNode.row a.xHidden.xPage.xBuilder.xNodes) (rInt a.xHidden.xPage.xBuilder.xOpen) (rows kSlot TSlot.row a.xHidden.xPage.xSlots) (rows kModule TModule.row a.xHidden.xPage.xMods) (rows kAddr TAddr.row a.xHidden.xPage.xEntries) a.xHidden.xPage.xBlock a.xHidden.xPage.xInline a.xHidden.xPage.xDeferred a.xHidden.xPage.xEntered (rows kAddr TAddr.row a.xHidden.xPage.xRan) (rStr a.xHidden.xPage.xLog) a.xHidden.xPage.xLoaded (rows kKept TKept.row a.xHidden.xTaken) (rows kServer TServer.row a.xHidden.xServers) a.xHidden.xNow a.xFast (rows kServer TServer.row b.xNet.xServers) (rows kEntry TEntry.row b.xNet.xCache.xEntries) (rows kSent TSent.row b.xNet.xLog) b.xNet.xNow (rows kVisit TVisit.row b.xTab.xVisits) b.xTab.xAt b.xHidden.xReady b.xHidden.xPage.xAddr.xHost b.xHidden.xPage.xAddr.xPath b.xHidden.xPage.xPolicy.xSet (rStr b.xHidden.xPage.xPolicy.xScripts) (rStr b.xHidden.xPage.xPolicy.xStyles) (rStr b.xHidden.xPage.xPolicy.xImages) b.xHidden.xPage.xPolicy.xNonce b.xHidden.xPage.xTok.xRest (rows kToken TToken.row b.xHidden.xPage.xQueue) b.xHidden.xPage.xEnded (rows kNode TNode.row b.xHidden.xPage.xBuilder.xNodes) (rInt b.xHidden.xPage.xBuilder.xOpen) (rows kSlot TSlot.row b.xHidden.xPage.xSlots) (rows kModule TModule.row b.xHidden.xPage.xMods) (rows kAddr TAddr.row b.xHidden.xPage.xEntries) b.xHidden.xPage.xBlock b.xHidden.xPage.xInline b.xHidden.xPage.xDeferred b.xHidden.xPage.xEntered (rows kAddr TAddr.row b.xHidden.xPage.xRan) (rStr b.xHidden.xPage.xLog) b.xHidden.xPage.xLoaded (rows kKept TKept.row b.xHidden.xTaken) (rows kServer TServer.row b.xHidden.xServers) b.xHidden.xNow b.xFast k = k (decide (a = b)) := by
 obtain ⟨q0, q1, q2, q3, _⟩ := h
 simp only [F22, P22]
 refine Eq.trans ?_ (congrArg k (eqWorld_iff a b))
 refine (eqNet a.xNet b.xNet q0 _).trans (eqCut ?_)
 refine (eqTab a.xTab b.xTab q1 _).trans (eqCut ?_)
 refine (eqHidden a.xHidden b.xHidden q2 _).trans (eqCut ?_)
 refine eqCut ?_
 rfl
def fl : Nat → Bool := fun t => t != 29 && t != 27 && t != 125 && t != 123 && t != 113 && t != 49 && t != 115 && t != 227 && t != 225 && t != 118 && t != 116 && t != 247 && t != 56 && t != 119 && t != 120 && t != 121 && t != 39 && t != 98 && t != 96
def L : List Nat := [29, 27, 125, 112, 9, 123, 113, 4, 49, 114, 115, 227, 3, 225, 253, 118, 116, 247, 56, 119, 231, 120, 234, 121, 39, 98, 96, 170, 168]
theorem kids : kidsOk Try.prog L = true := by kernel_rfl
theorem flArgs : flOk Try.prog L fl = true := by kernel_rfl
theorem cells9 : Try.prog.cellsOf 9 = 1 := by kernel_rfl
theorem cells4 : Try.prog.cellsOf 4 = 1 := by kernel_rfl
theorem cells3 : Try.prog.cellsOf 3 = 1 := by kernel_rfl
theorem cells98 : Try.prog.cellsOf 98 = 2 := by kernel_rfl
theorem cells96 : Try.prog.cellsOf 96 = 1 := by kernel_rfl
theorem cells170 : Try.prog.cellsOf 170 = 7 := by kernel_rfl
theorem cells168 : Try.prog.cellsOf 168 = 6 := by kernel_rfl
theorem Response_open {n : Nat} {us : List V} (h : Cn Try.prog fl n 168 us) : ∃ a : TResponse, a.ok ∧ us = [.int .i64 a.xStatus, .int .i64 a.xKind, .str a.xBody, .int .i64 a.xAge, .bool a.xShares, .str a.xPolicy] := by
 obtain ⟨m, hl, g0, g1, g2, g3, g4, g5, _⟩ := cn_struct h Try.underlying168
 rw [cells168] at hl
 obtain ⟨y0, o0, z0⟩ := fInt g0 Try.underlying3
 obtain ⟨y1, o1, z1⟩ := fInt g1 Try.underlying3
 obtain ⟨y2, o2, z2⟩ := fStr g2 Try.underlying9
 obtain ⟨y3, o3, z3⟩ := fInt g3 Try.underlying3
 obtain ⟨y4, o4, z4⟩ := fBool g4 Try.underlying4
 obtain ⟨y5, o5, z5⟩ := fStr g5 Try.underlying9
 have z := glue cells3 z0 (glue cells3 z1 (glue cells9 z2 (glue cells3 z3 (glue cells4 z4 (glue cells9 z5 (List.drop_eq_nil_of_le (Nat.le_of_eq hl)))))))
 exact ⟨⟨y0, y1, y2, y3, y4, y5⟩, ⟨o0, o1, o2, o3, o4, o5, trivial⟩, z⟩
theorem File_open {n : Nat} {us : List V} (h : Cn Try.prog fl n 170 us) : ∃ a : TFile, a.ok ∧ us = [.str a.xPath, .int .i64 a.xResponse.xStatus, .int .i64 a.xResponse.xKind, .str a.xResponse.xBody, .int .i64 a.xResponse.xAge, .bool a.xResponse.xShares, .str a.xResponse.xPolicy] := by
 obtain ⟨m, hl, g0, g1, _⟩ := cn_struct h Try.underlying170
 rw [cells170] at hl
 obtain ⟨y0, o0, z0⟩ := fStr g0 Try.underlying9
 obtain ⟨y1, o1, z1⟩ := Response_open g1
 have z := glue cells9 z0 (glue cells168 z1 (List.drop_eq_nil_of_le (Nat.le_of_eq hl)))
 exact ⟨⟨y0, y1⟩, ⟨o0, o1, trivial⟩, z⟩
theorem Server_open {n : Nat} {us : List V} (h : Cn Try.prog fl n 98 us) : ∃ a : TServer, a.ok ∧ us = [.str a.xHost, .sl 7 true (rows kFile TFile.row a.xFiles)] := by
 obtain ⟨m, hl, g0, g1, _⟩ := cn_struct h Try.underlying98
 rw [cells98] at hl
 obtain ⟨y0, o0, z0⟩ := fStr g0 Try.underlying9
 obtain ⟨y1, o1, z1⟩ := fRows (g := TFile.row) (ok := TFile.ok) g1 Try.underlying96 Try.underlying170 cells170 rfl File_open (fun _ => rfl)
 have z := glue cells9 z0 (glue cells96 z1 (List.drop_eq_nil_of_le (Nat.le_of_eq hl)))
 exact ⟨⟨y0, y1⟩, ⟨o0, o1, trivial⟩, z⟩
theorem answers : Answers Try.prog D := sound_den agree (fun den hD => drawOk agree (by kernel_rfl) hD) ext_nil
end Go.Am
end
section
set_option maxRecDepth 10000
set_option linter.unusedVariables false
namespace Go.Am
open Go Go.Proofs
variable {β : Type}
noncomputable def sl12Copy (l : List TServer) : Option (List TServer) :=
 (forE l (fun (i_1 : Nat) (x_1 : TServer) (s1 : List TServer) => (
  chk ((0 + x_1.xFiles.length) * 80 ≤ 140737488355328 ∧ 0 + x_1.xFiles.length ≤ 140737488355328) <|
  chk ((s1.length + 1) * 40 ≤ 140737488355328 ∧ s1.length + 1 ≤ 140737488355328) <|
  some (.inl (s1 ++ [{ x_1 with xFiles := ([] ++ x_1.xFiles) }]))
 : Option ((List TServer) ⊕ (List TServer)))) (fun (s1 : List TServer) => (s1 : List TServer)) ([] : List TServer)).bind <|
 fun (r4 : List TServer) =>
 some r4
theorem ei_sl12Copy (l : List TServer) (k : List V → Option β) : Imp (F40 β (rows kServer TServer.row l) k) (sl12Copy l) (fun r => k (rows kServer TServer.row r)) := by
 delta F40 P40 sl12Copy
 refine Imp.for (enc := fun (i_1 : Nat) (s1 : List TServer) => [.l (rows kServer TServer.row l), .l (rows kServer TServer.row s1), .i (i_1 : Int)]) (encR := fun (u : List TServer) => (((0, [.l (rows kServer TServer.row u)]) : Nat × List Leaf))) rfl (fun i_1 x_1 s1 hx1 hl1 hm1 => Imp.brT (T_lt (ks := kServer) (g := TServer.row) hl1) ?_) (fun s1 => brN (T_irr (ks := kServer) (g := TServer.row) l) rfl) (fun r4 => ?_)
 ·refine Imp.idxFor (ks := kServer) (g := TServer.row) hx1 ?_
  refine Imp.idxFor (ks := kServer) (g := TServer.row) hx1 ?_
  refine Imp.chk (c2 (fun z0 z1 : Nat => (0 + z0) * 80 ≤ 140737488355328 ∧ 0 + z1 ≤ 140737488355328) (T_len (ks := kFile) (g := TFile.row) x_1.xFiles) (T_len (ks := kFile) (g := TFile.row) x_1.xFiles)) (fun _ => ?_)
  refine Imp.chk (c2 (fun z0 z1 : Nat => (z0 + 1) * 40 ≤ 140737488355328 ∧ z1 + 1 ≤ 140737488355328) (T_len (ks := kServer) (g := TServer.row) s1) (T_len (ks := kServer) (g := TServer.row) s1)) (fun _ => ?_)
  exact Imp.ret (c2 (fun (h1 : List V) (h2 : Int) => (some (Sum.inl [.l (rows kServer TServer.row l), .l h1, .i h2]) : Option (List Leaf ⊕ (Nat × List Leaf)))) ((c2 (fun u v : List V => u ++ v) rfl (c1 (fun (u0 : List V) => ([V.agg [V.str x_1.xHost, V.sl 7 true u0]] : List V)) (T_app (ks := kFile) (g := TFile.row) [] x_1.xFiles))).trans (T_app (ks := kServer) (g := TServer.row) s1 [{ x_1 with xFiles := ([] ++ x_1.xFiles) }])) (wrapJ hl1))
 ·exact Imp.ret rfl
noncomputable def sNewTab : Option TTab :=
 some (⟨[], (-1)⟩ : TTab)
theorem ei_sNewTab (k : List V → Int → Option β) : Imp (F41 β  k) (sNewTab ) (fun r => k (rows kVisit TVisit.row r.xVisits) r.xAt) := by
 delta F41 P41 sNewTab
 exact Imp.ret rfl
noncomputable def sNewWorld (l : List TServer) (fast : Bool) : Option TWorld :=
 (sl12Copy l).bind fun (r1 : List TServer) =>
 (sNewTab).bind fun (r2 : TTab) =>
 some (⟨⟨r1, ⟨[]⟩, [], 0⟩, r2, ⟨false, ⟨⟨[], []⟩, ⟨false, [], [], [], []⟩, ⟨[]⟩, [], false, ⟨[], []⟩, [], [], [], 0, 0, 0, 0, [], [], false⟩, [], [], 0⟩, fast⟩ : TWorld)
theorem ei_sNewWorld (l : List TServer) (fast : Bool) (k : List V → List V → List V → Int → List V → Int → Bool → List UInt8 → List UInt8 → Bool → List V → List V → List V → List UInt8 → List UInt8 → List V → Bool → List V → List V → List V → List V → List V → Int → Int → Int → Int → List V → List V → Bool → List V → List V → Int → Bool → Option β) : Imp (F19 β (rows kServer TServer.row l) fast k) (sNewWorld l fast) (fun r => k (rows kServer TServer.row r.xNet.xServers) (rows kEntry TEntry.row r.xNet.xCache.xEntries) (rows kSent TSent.row r.xNet.xLog) r.xNet.xNow (rows kVisit TVisit.row r.xTab.xVisits) r.xTab.xAt r.xHidden.xReady r.xHidden.xPage.xAddr.xHost r.xHidden.xPage.xAddr.xPath r.xHidden.xPage.xPolicy.xSet (rStr r.xHidden.xPage.xPolicy.xScripts) (rStr r.xHidden.xPage.xPolicy.xStyles) (rStr r.xHidden.xPage.xPolicy.xImages) r.xHidden.xPage.xPolicy.xNonce r.xHidden.xPage.xTok.xRest (rows kToken TToken.row r.xHidden.xPage.xQueue) r.xHidden.xPage.xEnded (rows kNode TNode.row r.xHidden.xPage.xBuilder.xNodes) (rInt r.xHidden.xPage.xBuilder.xOpen) (rows kSlot TSlot.row r.xHidden.xPage.xSlots) (rows kModule TModule.row r.xHidden.xPage.xMods) (rows kAddr TAddr.row r.xHidden.xPage.xEntries) r.xHidden.xPage.xBlock r.xHidden.xPage.xInline r.xHidden.xPage.xDeferred r.xHidden.xPage.xEntered (rows kAddr TAddr.row r.xHidden.xPage.xRan) (rStr r.xHidden.xPage.xLog) r.xHidden.xPage.xLoaded (rows kKept TKept.row r.xHidden.xTaken) (rows kServer TServer.row r.xHidden.xServers) r.xHidden.xNow r.xFast) := by
 delta F19 P19 sNewWorld
 refine Imp.call rfl (ei_sl12Copy l _) (fun r1 _ => ?_)
 refine Imp.call rfl (ei_sNewTab  _) (fun r2 _ => ?_)
 exact Imp.ret rfl
noncomputable def icopyServers (l : List TServer) : Option (List TServer) :=
 (forE l (fun (i_1 : Nat) (x_1 : TServer) (s1 : List TServer) => (
  chk ((0 + x_1.xFiles.length) * 80 ≤ 140737488355328 ∧ 0 + x_1.xFiles.length ≤ 140737488355328) <|
  chk ((s1.length + 1) * 40 ≤ 140737488355328 ∧ s1.length + 1 ≤ 140737488355328) <|
  some (.inl (s1 ++ [{ x_1 with xFiles := ([] ++ x_1.xFiles) }]))
 : Option ((List TServer) ⊕ (List TServer)))) (fun (s1 : List TServer) => (s1 : List TServer)) ([] : List TServer)).bind <|
 fun (r3 : List TServer) =>
 some r3
theorem ei_icopyServers (l : List TServer) (k : List V → Option β) : Imp (F43 β (rows kServer TServer.row l) k) (icopyServers l) (fun r => k (rows kServer TServer.row r)) := by
 delta F43 P43 icopyServers
 refine Imp.for (enc := fun (i_1 : Nat) (s1 : List TServer) => [.l (rows kServer TServer.row s1), .l (rows kServer TServer.row l), .i (l.length : Int), .i (i_1 : Int)]) (encR := fun (u : List TServer) => (((0, [.l (rows kServer TServer.row u)]) : Nat × List Leaf))) (c1 (fun (h1 : Int) => ([.l (rows kServer TServer.row []), .l (rows kServer TServer.row l), .i h1, .i 0] : List Leaf)) (c1 (fun z0 : Nat => (z0 : Int)) (T_len (ks := kServer) (g := TServer.row) l))) (fun i_1 x_1 s1 hx1 hl1 hm1 => Imp.brT (Int.ofNat_lt.2 hl1) ?_) (fun s1 => brN (Int.lt_irrefl _) rfl) (fun r3 => ?_)
 ·refine Imp.idxFor (ks := kServer) (g := TServer.row) hx1 ?_
  refine Imp.chk (c2 (fun z0 z1 : Nat => (0 + z0) * 80 ≤ 140737488355328 ∧ 0 + z1 ≤ 140737488355328) (T_len (ks := kFile) (g := TFile.row) x_1.xFiles) (T_len (ks := kFile) (g := TFile.row) x_1.xFiles)) (fun _ => ?_)
  refine Imp.chk (c2 (fun z0 z1 : Nat => (z0 + 1) * 40 ≤ 140737488355328 ∧ z1 + 1 ≤ 140737488355328) (T_len (ks := kServer) (g := TServer.row) s1) (T_len (ks := kServer) (g := TServer.row) s1)) (fun _ => ?_)
  exact Imp.ret (c2 (fun (h1 : List V) (h2 : Int) => (some (Sum.inl [.l h1, .l (rows kServer TServer.row l), .i (l.length : Int), .i h2]) : Option (List Leaf ⊕ (Nat × List Leaf)))) ((c2 (fun u v : List V => u ++ v) rfl (c1 (fun (u0 : List V) => ([V.agg [V.str x_1.xHost, V.sl 7 true u0]] : List V)) (T_app (ks := kFile) (g := TFile.row) [] x_1.xFiles))).trans (T_app (ks := kServer) (g := TServer.row) s1 [{ x_1 with xFiles := ([] ++ x_1.xFiles) }])) (wrapJ hl1))
 ·exact Imp.ret rfl
noncomputable def iNewTab : Option TTab :=
 some (⟨[], (-1)⟩ : TTab)
theorem ei_iNewTab (k : List V → Int → Option β) : Imp (F44 β  k) (iNewTab ) (fun r => k (rows kVisit TVisit.row r.xVisits) r.xAt) := by
 delta F44 P44 iNewTab
 exact Imp.ret rfl
noncomputable def iNewWorld (l : List TServer) (fast : Bool) : Option TWorld :=
 (icopyServers l).bind fun (r1 : List TServer) =>
 (iNewTab).bind fun (r2 : TTab) =>
 some (⟨⟨r1, ⟨[]⟩, [], 0⟩, r2, ⟨false, ⟨⟨[], []⟩, ⟨false, [], [], [], []⟩, ⟨[]⟩, [], false, ⟨[], []⟩, [], [], [], 0, 0, 0, 0, [], [], false⟩, [], [], 0⟩, fast⟩ : TWorld)
theorem ei_iNewWorld (l : List TServer) (fast : Bool) (k : List V → List V → List V → Int → List V → Int → Bool → List UInt8 → List UInt8 → Bool → List V → List V → List V → List UInt8 → List UInt8 → List V → Bool → List V → List V → List V → List V → List V → Int → Int → Int → Int → List V → List V → Bool → List V → List V → Int → Bool → Option β) : Imp (F21 β (rows kServer TServer.row l) fast k) (iNewWorld l fast) (fun r => k (rows kServer TServer.row r.xNet.xServers) (rows kEntry TEntry.row r.xNet.xCache.xEntries) (rows kSent TSent.row r.xNet.xLog) r.xNet.xNow (rows kVisit TVisit.row r.xTab.xVisits) r.xTab.xAt r.xHidden.xReady r.xHidden.xPage.xAddr.xHost r.xHidden.xPage.xAddr.xPath r.xHidden.xPage.xPolicy.xSet (rStr r.xHidden.xPage.xPolicy.xScripts) (rStr r.xHidden.xPage.xPolicy.xStyles) (rStr r.xHidden.xPage.xPolicy.xImages) r.xHidden.xPage.xPolicy.xNonce r.xHidden.xPage.xTok.xRest (rows kToken TToken.row r.xHidden.xPage.xQueue) r.xHidden.xPage.xEnded (rows kNode TNode.row r.xHidden.xPage.xBuilder.xNodes) (rInt r.xHidden.xPage.xBuilder.xOpen) (rows kSlot TSlot.row r.xHidden.xPage.xSlots) (rows kModule TModule.row r.xHidden.xPage.xMods) (rows kAddr TAddr.row r.xHidden.xPage.xEntries) r.xHidden.xPage.xBlock r.xHidden.xPage.xInline r.xHidden.xPage.xDeferred r.xHidden.xPage.xEntered (rows kAddr TAddr.row r.xHidden.xPage.xRan) (rStr r.xHidden.xPage.xLog) r.xHidden.xPage.xLoaded (rows kKept TKept.row r.xHidden.xTaken) (rows kServer TServer.row r.xHidden.xServers) r.xHidden.xNow r.xFast) := by
 delta F21 P21 iNewWorld
 refine Imp.call rfl (ei_icopyServers l _) (fun r1 _ => ?_)
 refine Imp.call rfl (ei_iNewTab  _) (fun r2 _ => ?_)
 exact Imp.ret rfl
noncomputable def lmarkText (xk : Int) : Option (List UInt8) :=
 br (decide (xk ≤ 0)) (
 some [109, 48]
 ) (
 (whileE (fun (s1 : Int × (List UInt8)) => (
 br (decide (s1.1 > 0)) (
 chk ((strI [(IntKind.wrap .u8 (IntKind.wrap .i64 (48 + (Int.tmod s1.1 10))))]).length + s1.2.length ≤ 9223372036854775807) <|
 some (.inl ((IntKind.wrap .i64 (Int.tdiv s1.1 10)), ((strI [(IntKind.wrap .u8 (IntKind.wrap .i64 (48 + (Int.tmod s1.1 10))))]) ++ s1.2)))
 ) (
 some (.inr s1.2)
 )
 : Option ((Int × (List UInt8)) ⊕ (List UInt8)))) ((xk, []) : Int × (List UInt8))).bind <|
 fun (r3 : List UInt8) =>
 chk (1 + r3.length ≤ 9223372036854775807) <|
 some ([109] ++ r3)
 )
theorem ei_lmarkText (xk : Int) (k : List UInt8 → Option β) : Imp (F28 β xk k) (lmarkText xk) (fun r => k r) := by
 delta F28 P28 lmarkText
 refine Imp.br rfl ?_ ?_
 ·exact Imp.ret rfl
 ·refine Imp.while (enc := fun (s1 : Int × (List UInt8)) => [.i s1.1, .s s1.2]) (encR := fun (u : List UInt8) => (((0, [.s u]) : Nat × List Leaf))) rfl (fun s1 => ?_) (fun r3 => ?_)
  ·refine Imp.br rfl ?_ ?_
   ·refine Imp.strO (l := [(IntKind.wrap .u8 (IntKind.wrap .i64 (48 + (Int.tmod s1.1 10))))]) rfl ?_
    refine Imp.chk rfl (fun _ => ?_)
    exact Imp.ret rfl
   ·exact Imp.ret rfl
  ·refine Imp.chk rfl (fun _ => ?_)
   exact Imp.ret rfl
end Go.Am
end

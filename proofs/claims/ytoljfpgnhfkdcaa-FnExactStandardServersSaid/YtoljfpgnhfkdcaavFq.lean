/-
  Functions of the program, extracted by program (sym.py) out of their code: what each computes, and, by the kernel's reckoning, that the machine's looking form computes just that; so what the machine answers.
-/
import Derived.Test.YtoljfpgnhfkdcaavAmPut2
import Derived.Test.YtoljfpgnhfkdcaavAmDraw
import Derived.Test.YtoljfpgnhfkdcaavTy
import Derived.Test.YtoljfpgnhfkdcaaProg
import Derived.Test.YtoljfpgnhfkdcaavAmEvOk2
import Derived.KernelRfl
section
set_option linter.unusedVariables false
set_option linter.unusedSimpArgs false
namespace Go.Am
open Go Go.RowKit
section
variable {P : Program} {c : Cfg}
def svsOf : List V → Option (List Sv)
 | [] => some []
 | .agg [.str h, .sl 7 true fs] :: vs => (svsOf vs).map ((h, fs) :: ·)
 | _ :: _ => none
theorem svsOf_inv : ∀ {xs : List V} {l : List Sv}, svsOf xs = some l → xs = l.map (svV 7) := by
 intro xs
 induction xs with
 | nil => intro l h; simp only [svsOf, Option.some.injEq] at h; subst h; rfl
 | cons x xs ih =>
  intro l h
  unfold svsOf at h
  split at h
  ·rename_i h0; cases h0
  ·rename_i a b vs h0
   injection h0 with h1 h2
   subst h1 h2
   obtain ⟨m, hm, e⟩ := Option.map_eq_some_iff.1 h
   rw [← e, List.map_cons, ← ih hm]
   rfl
  ·cases h
theorem svsOf_map (l : List Sv) : svsOf (l.map (svV 7)) = some l := by
 induction l with
 | nil => rfl
 | cons p l ih =>
  show (svsOf (l.map (svV 7))).map ((p.1, p.2) :: ·) = _
  rw [ih]
  rfl
def svsOk (ys : List Sv) : Bool := decide (ys.length ≤ 1099511627776) && ys.all fun y => decide (y.2.length ≤ 1099511627776)
def putSel (ys : List Sv) (k : Int) (h : List UInt8) : Option (List Sv × Nat × Sv) := if k < 0 then some (ys ++ [(h, [])], ys.length, h, []) else (ys[k.toNat]?).map fun y => (ys, k.toNat, y)
def putRes (ys : List Sv) (s : List Sv × Nat × Sv) (f : V) (b : Bool) : List Sv × Bool := if s.1.length ≤ 4 ∧ b = true then (s.1.set s.2.1 (s.2.2.1, s.2.2.2 ++ [f]), true) else (ys, false)
def putW (dS dF dI : List V → Option V) (xs : List V) (h p : List UInt8) (fl : V) : Option V := match svsOf xs with
 | some ys => if svsOk ys = true then match dS [.sl 2 false xs, .str h] with
  | some (.int .i64 k) => match putSel ys k h with
   | some s => match dF [svV 7 s.2.2, .str p] with
    | some (.int .i64 i) => if i < 0 then match dI [svV 7 (s.2.2.1, s.2.2.2 ++ [fl])] with
     | some (.bool b) => some (.tup [.own 0 2 .clean ((putRes ys s fl b).1.map (svV 7)), .bool (putRes ys s fl b).2])
     | _ => none else none
    | _ => none
   | none => none
  | _ => none else none
 | none => none
def putV (dS dF dI : List V → Option V) : List V → Option V
 | [.sl 2 false xs, .agg [.str h, .str p], .agg [.int .i64 st, .int .i64 kd, .str bd, .int .i64 ag, .bool sh, .str po]] => putW dS dF dI xs h p (.agg [.str p, .int .i64 st, .int .i64 kd, .str bd, .int .i64 ag, .bool sh, .str po])
 | _ => none
abbrev TS0 : Type 1 := (β : Type) → List V → List UInt8 → (Int → Option β) → Option β
abbrev TF0 : Type 1 := (β : Type) → List UInt8 → List V → List UInt8 → (Int → Option β) → Option β
abbrev TI0 : Type 1 := (β : Type) → List UInt8 → List V → (Bool → Option β) → Option β
def putK (Fsv : TS0) (FF : TF0) (FI : TI0) : (β : Type) → List V → List UInt8 → List UInt8 → Int → Int → List UInt8 → Int → Bool → List UInt8 → (List V → Bool → Option β) → Option β := fun β xs h p st kd bd ag sh po k =>
 match svsOf xs with
 | some ys => chk (svsOk ys = true) (Fsv β xs h (fun kk => match putSel ys kk h with
  | some s => FF β s.2.2.1 s.2.2.2 p (fun i => chk (i < 0) (FI β s.2.2.1 (s.2.2.2 ++ [.agg [.str p, .int .i64 st, .int .i64 kd, .str bd, .int .i64 ag, .bool sh, .str po]]) (fun b =>
    k ((putRes ys s (.agg [.str p, .int .i64 st, .int .i64 kd, .str bd, .int .i64 ag, .bool sh, .str po]) b).1.map (svV 7)) (putRes ys s (.agg [.str p, .int .i64 st, .int .i64 kd, .str bd, .int .i64 ag, .bool sh, .str po]) b).2)))
  | none => none))
 | none => none
theorem ok_put {ext d1 : Nat → List V → Option V} {f gS gF gI : Nat} {Fsv : TS0} {FF : TF0} {FI : TI0} (hE : ∀ args, ext f args = putV (d1 gS) (d1 gF) (d1 gI) args)
  (hS : FnOk d1 gS (wrap [(false, [.sl 2 false]), (false, [.str])] (fun β e k => Fsv β e.1.1 e.2.1.1 (fun y => k (.int .i64 y)))))
  (hF : FnOk d1 gF (wrap [(true, [.str, .sl 7 true]), (false, [.str])] (fun β e k => FF β e.1.1 e.1.2.1 e.2.1.1 (fun y => k (.int .i64 y)))))
  (hI : FnOk d1 gI (wrap [(true, [.str, .sl 7 true])] (fun β e k => FI β e.1.1 e.1.2.1 (fun y => k (.bool y))))) :
  FnOk (den P c ext) f (wrap [(false, [.sl 2 false]), (true, [.str, .str]), (true, [.int .i64, .int .i64, .str, .int .i64, .bool, .str])] (fun β e k => putK Fsv FF FI β e.1.1 e.2.1.1 e.2.1.2.1 e.2.2.1.1 e.2.2.1.2.1 e.2.2.1.2.2.1 e.2.2.1.2.2.2.1 e.2.2.1.2.2.2.2.1 e.2.2.1.2.2.2.2.2.1 (fun y1 y2 => k (.tup [.own 0 2 .clean y1, .bool y2])))) := by
 refine ext_okW hE (fun β x k r hr => ?_)
 obtain ⟨⟨xs, _⟩, ⟨h, p, _⟩, ⟨st, kd, bd, ag, sh, po, _⟩, _⟩ := x
 replace hr : putK Fsv FF FI β xs h p st kd bd ag sh po (fun y1 y2 => k (.tup [.own 0 2 .clean y1, .bool y2])) = some r := hr
 show ∃ v, putW (d1 gS) (d1 gF) (d1 gI) xs h p (.agg [.str p, .int .i64 st, .int .i64 kd, .str bd, .int .i64 ag, .bool sh, .str po]) = some v ∧ k v = some r
 unfold putK at hr
 generalize V.agg [.str p, .int .i64 st, .int .i64 kd, .str bd, .int .i64 ag, .bool sh, .str po] = fl at hr ⊢
 unfold putW
 split at hr
 ·rename_i ys hys
  obtain ⟨hok, hr⟩ := chk_some hr
  obtain ⟨v1, e1, hr⟩ := hS β [.sl 2 false xs, .str h] (fun v => match v with
   | .int .i64 kk => (match putSel ys kk h with
    | some s => FF β s.2.2.1 s.2.2.2 p (fun i => chk (i < 0) (FI β s.2.2.1 (s.2.2.2 ++ [fl]) (fun b => k (.tup [.own 0 2 .clean ((putRes ys s fl b).1.map (svV 7)), .bool (putRes ys s fl b).2]))))
    | none => none)
   | _ => none) r hr
  split at hr
  ·rename_i kk
   split at hr
   ·rename_i s hs
    obtain ⟨v2, e2, hr⟩ := hF β [svV 7 s.2.2, .str p] (fun v => match v with
     | .int .i64 i => chk (i < 0) (FI β s.2.2.1 (s.2.2.2 ++ [fl]) (fun b => k (.tup [.own 0 2 .clean ((putRes ys s fl b).1.map (svV 7)), .bool (putRes ys s fl b).2])))
     | _ => none) r hr
    split at hr
    ·rename_i i
     obtain ⟨hi, hr⟩ := chk_some hr
     obtain ⟨v3, e3, hr⟩ := hI β [svV 7 (s.2.2.1, s.2.2.2 ++ [fl])] (fun v => match v with
      | .bool b => k (.tup [.own 0 2 .clean ((putRes ys s fl b).1.map (svV 7)), .bool (putRes ys s fl b).2])
      | _ => none) r hr
     split at hr
     ·rename_i b
      refine ⟨_, ?_, hr⟩
      simp only [hok, if_true, e1, hs, e2, hi, e3]
     ·cases hr
    ·cases hr
   ·cases hr
  ·cases hr
 ·cases hr
def svsOkE {α φ : Type} (fi : α → List φ) (l : List α) : Bool := decide (l.length ≤ 1099511627776) && l.all fun y => decide ((fi y).length ≤ 1099511627776)
def putSelE {α φ : Type} (mk : List UInt8 → List φ → α) (l : List α) (k : Int) (h : List UInt8) : Option (List α × Nat × α) := if k < 0 then some (l ++ [mk h []], l.length, mk h []) else (l[k.toNat]?).map fun y => (l, k.toNat, y)
def putResE {α φ : Type} (mk : List UInt8 → List φ → α) (ho : α → List UInt8) (fi : α → List φ) (l : List α) (s : List α × Nat × α) (f : φ) (b : Bool) : List α × Bool := if s.1.length ≤ 4 ∧ b = true then (s.1.set s.2.1 (mk (ho s.2.2) (fi s.2.2 ++ [f])), true) else (l, false)
def putE {α φ : Type} (mk : List UInt8 → List φ → α) (ho : α → List UInt8) (fi : α → List φ) (eS : List α → List UInt8 → Option Int) (eF : α → List UInt8 → Option Int) (eI : α → Option Bool) (l : List α) (h p : List UInt8) (f : φ) : Option (List α × Bool) :=
 chk (svsOkE fi l = true) ((eS l h).bind fun k => (putSelE mk l k h).bind fun s => (eF s.2.2 p).bind fun i => chk (i < 0) ((eI (mk (ho s.2.2) (fi s.2.2 ++ [f]))).bind fun b => some (putResE mk ho fi l s f b)))
theorem ei_putE {α φ : Type} {mk : List UInt8 → List φ → α} {ho : α → List UInt8} {fi : α → List φ} {RF : φ → V} {R : α → V} (hm1 : ∀ h fs, ho (mk h fs) = h) (hm2 : ∀ h fs, fi (mk h fs) = fs) (hR : ∀ s, R s = svV 7 (ho s, (fi s).map RF))
  {Fsv : TS0} {FF : TF0} {FI : TI0} {eS : List α → List UInt8 → Option Int} {eF : α → List UInt8 → Option Int} {eI : α → Option Bool}
  (hS : ∀ (β : Type) l h (k : Int → Option β), Imp (Fsv β (l.map R) h k) (eS l h) (fun r => k r)) (hF : ∀ (β : Type) s p (k : Int → Option β), Imp (FF β (ho s) ((fi s).map RF) p k) (eF s p) (fun r => k r)) (hI : ∀ (β : Type) s (k : Bool → Option β), Imp (FI β (ho s) ((fi s).map RF) k) (eI s) (fun r => k r))
  {β : Type} (l : List α) (h p : List UInt8) (st kd : Int) (bd : List UInt8) (ag : Int) (sh : Bool) (po : List UInt8) (f : φ) (hf : RF f = .agg [.str p, .int .i64 st, .int .i64 kd, .str bd, .int .i64 ag, .bool sh, .str po]) (k : List V → Bool → Option β) :
  Imp (putK Fsv FF FI β (l.map R) h p st kd bd ag sh po k) (putE mk ho fi eS eF eI l h p f) (fun r => k (r.1.map R) r.2) := by
 intro r hr
 unfold putE at hr
 obtain ⟨hok, hr⟩ := chk_some hr
 obtain ⟨kk, e1, hr⟩ := bind_inv hr
 obtain ⟨s, e2, hr⟩ := bind_inv hr
 obtain ⟨i, e3, hr⟩ := bind_inv hr
 obtain ⟨hi, hr⟩ := chk_some hr
 obtain ⟨b, e4, hr⟩ := bind_inv hr
 injection hr with hr
 subst hr
 let g : α → Sv := fun s => (ho s, (fi s).map RF)
 have hRg : ∀ l : List α, l.map R = (l.map g).map (svV 7) := fun l => by
  rw [List.map_map]
  exact List.map_congr_left (fun s _ => hR s)
 have hgm : ∀ h fs, g (mk h fs) = (h, fs.map RF) := fun h fs => by
  show (ho (mk h fs), (fi (mk h fs)).map RF) = _
  rw [hm1, hm2]
 have hsv : svsOf (l.map R) = some (l.map g) := by rw [hRg, svsOf_map]
 have hok2 : svsOk (l.map g) = true := by
  unfold svsOkE at hok
  unfold svsOk
  rw [List.length_map, List.all_map]
  rw [show ((fun y : Sv => decide (y.2.length ≤ 1099511627776)) ∘ g) = fun y => decide ((fi y).length ≤ 1099511627776) from funext fun y => by show decide (((fi y).map RF).length ≤ _) = _; rw [List.length_map]]
  exact hok
 have hsel : putSel (l.map g) kk h = some (s.1.map g, s.2.1, g s.2.2) := by
  unfold putSelE at e2
  unfold putSel
  split at e2
  ·rename_i hk
   injection e2 with e2
   subst e2
   rw [if_pos hk, List.map_append, List.length_map]
   show some (l.map g ++ [(h, [])], l.length, h, []) = some (l.map g ++ [g (mk h [])], l.length, g (mk h []))
   rw [hgm]
   rfl
  ·rename_i hk
   rw [if_neg hk]
   cases hl : l[kk.toNat]? with
   | none => rw [hl] at e2; cases e2
   | some y =>
    rw [hl] at e2
    injection e2 with e2
    subst e2
    rw [List.getElem?_map, hl]
    rfl
 have hres : putRes (l.map g) (s.1.map g, s.2.1, g s.2.2) (RF f) b = ((putResE mk ho fi l s f b).1.map g, (putResE mk ho fi l s f b).2) := by
  unfold putRes putResE
  rw [List.length_map]
  split
  ·show ((s.1.map g).set s.2.1 (ho s.2.2, (fi s.2.2).map RF ++ [RF f]), true) = ((s.1.set s.2.1 (mk (ho s.2.2) (fi s.2.2 ++ [f]))).map g, true)
   rw [List.map_set, hgm, List.map_append]
   rfl
  ·rfl
 unfold putK
 simp only [hsv]
 refine (if_pos hok2).trans ?_
 rw [hS β l h _ kk e1]
 simp only [hsel]
 rw [show FF β (g s.2.2).1 (g s.2.2).2 p _ = _ from hF β s.2.2 p _ i e3]
 refine (if_pos hi).trans ?_
 rw [← hf]
 have hIe := hI β (mk (ho s.2.2) (fi s.2.2 ++ [f])) (fun b => k ((putRes (l.map g) (s.1.map g, s.2.1, g s.2.2) (RF f) b).1.map (svV 7)) (putRes (l.map g) (s.1.map g, s.2.1, g s.2.2) (RF f) b).2) b e4
 rw [hm1, hm2, List.map_append] at hIe
 refine Eq.trans hIe ?_
 show k _ _ = _
 rw [hres, ← hRg]
end
end Go.Am
end
section
set_option linter.unusedVariables false
namespace Go.Am
open Go
def lookN {α : Type} (k : Nat) (d : α) : List (Nat × α) → α
 | [] => d
 | (i, a) :: r => if i = k then a else lookN k d r
def tys : List (Option TyInfo) := [
 none,
 none,
 some ⟨.int .i64, 1, 8, .int .i64 0, false, [], .flat⟩,
 some ⟨.int .i64, 1, 8, .int .i64 0, false, [], .flat⟩,
 some ⟨.bool, 1, 1, .bool false, false, [], .flat⟩,
 some ⟨.int .u8, 1, 1, .int .u8 0, false, [], .flat⟩,
 some ⟨.int .u8, 1, 1, .int .u8 0, false, [], .flat⟩,
 some ⟨.struct [(0, 2), (1, 3), (2, 4), (3, 6)], 4, 24, .agg [.int .i64 0, .int .i64 0, .bool false, .int .u8 0], false, [], .flat⟩,
 some ⟨.struct [(0, 2), (1, 3), (2, 4), (3, 6)], 4, 24, .agg [.int .i64 0, .int .i64 0, .bool false, .int .u8 0], false, [], .flat⟩,
 some ⟨.str, 1, 16, .str [], false, [], .flat⟩,
 some ⟨.str, 1, 16, .str [], false, [], .flat⟩,
 some ⟨.str, 1, 16, .str [], false, [], .flat⟩,
 some ⟨.int .u64, 1, 8, .int .u64 0, false, [], .flat⟩,
 some ⟨.struct [(0, 9), (1, 12)], 2, 24, .agg [.str [], .int .u64 0], false, [], .flat⟩,
 some ⟨.struct [(0, 9), (1, 12)], 2, 24, .agg [.str [], .int .u64 0], false, [], .flat⟩,
 some ⟨.ptr 67, 1, 8, .undef, false, [], .flat⟩,
 some ⟨.ptr 70, 1, 8, .undef, false, [], .flat⟩,
 some ⟨.ptr 80, 1, 8, .undef, false, [], .flat⟩,
 some ⟨.struct [(0, 17)], 1, 8, .agg [.undef], false, [], .flat⟩,
 some ⟨.struct [(0, 17)], 1, 8, .agg [.undef], false, [], .flat⟩,
 none,
 some ⟨.int .i32, 1, 4, .int .i32 0, false, [], .flat⟩,
 some ⟨.slice 41, 1, 24, .nil, false, [.view 999 2 .clean []], .clean⟩,
 none,
 none,
 none,
 none,
 some ⟨.struct [(0, 9), (1, 9)], 2, 32, .agg [.str [], .str []], false, [], .flat⟩,
 some ⟨.struct [(0, 9), (1, 9)], 2, 32, .agg [.str [], .str []], true, [], .flat⟩,
 some ⟨.slice 28, 1, 24, .nil, false, [.view 999 2 .flat []], .clean⟩,
 some ⟨.slice 3, 1, 24, .nil, false, [.view 999 1 .flat []], .clean⟩,
 some ⟨.slice 9, 1, 24, .nil, false, [.view 999 1 .flat []], .clean⟩,
 some ⟨.struct [(0, 3), (1, 3), (2, 9), (3, 3), (4, 4), (5, 9)], 6, 64, .agg [.int .i64 0, .int .i64 0, .str [], .int .i64 0, .bool false, .str []], false, [], .flat⟩,
 some ⟨.struct [(0, 3), (1, 3), (2, 9), (3, 3), (4, 4), (5, 9)], 6, 64, .agg [.int .i64 0, .int .i64 0, .str [], .int .i64 0, .bool false, .str []], true, [], .flat⟩,
 none,
 none,
 some ⟨.struct [(0, 9), (1, 33)], 7, 80, .agg [.str [], .int .i64 0, .int .i64 0, .str [], .int .i64 0, .bool false, .str []], false, [], .flat⟩,
 some ⟨.struct [(0, 9), (1, 33)], 7, 80, .agg [.str [], .int .i64 0, .int .i64 0, .str [], .int .i64 0, .bool false, .str []], true, [], .flat⟩,
 none,
 some ⟨.slice 37, 1, 24, .nil, false, [.view 999 7 .flat []], .clean⟩,
 some ⟨.struct [(0, 9), (1, 39)], 2, 40, .agg [.str [], .nil], false, [.undef, .view 999 7 .flat []], .clean⟩,
 some ⟨.struct [(0, 9), (1, 39)], 2, 40, .agg [.str [], .nil], false, [.undef, .view 999 7 .flat []], .clean⟩,
 none,
 none,
 none,
 none,
 none,
 none,
 none,
 none,
 some ⟨.slice 5, 1, 24, .nil, false, [.view 999 1 .flat []], .clean⟩,
 none,
 none,
 none,
 none,
 some ⟨.struct [(0, 4), (1, 31), (2, 31), (3, 31), (4, 9)], 5, 96, .agg [.bool false, .nil, .nil, .nil, .str []], false, [.undef, .view 999 1 .flat [], .view 999 1 .flat [], .view 999 1 .flat []], .clean⟩,
 some ⟨.struct [(0, 4), (1, 31), (2, 31), (3, 31), (4, 9)], 5, 96, .agg [.bool false, .nil, .nil, .nil, .str []], false, [.undef, .view 999 1 .flat [], .view 999 1 .flat [], .view 999 1 .flat []], .clean⟩,
 none,
 none,
 none,
 none,
 none,
 none,
 none,
 none,
 none,
 some ⟨.struct [(0, 17), (1, 17), (2, 17), (3, 9)], 4, 40, .agg [.undef, .undef, .undef, .str []], false, [], .flat⟩,
 some ⟨.struct [(0, 17), (1, 17), (2, 17), (3, 9)], 4, 40, .agg [.undef, .undef, .undef, .str []], false, [], .flat⟩,
 some ⟨.array 0 16, 0, 0, .agg [], false, [], .flat⟩,
 some ⟨.struct [(0, 68)], 0, 0, .agg [], false, [], .flat⟩,
 some ⟨.struct [(0, 68)], 0, 0, .agg [], false, [], .flat⟩,
 none,
 some ⟨.int .u32, 1, 4, .int .u32 0, false, [], .flat⟩,
 some ⟨.int .u8, 1, 1, .int .u8 0, false, [], .flat⟩,
 some ⟨.int .u8, 1, 1, .int .u8 0, false, [], .flat⟩,
 none,
 some ⟨.ptr 5, 1, 8, .undef, false, [], .flat⟩,
 some ⟨.int .i32, 1, 4, .int .i32 0, false, [], .flat⟩,
 some ⟨.int .i32, 1, 4, .int .i32 0, false, [], .flat⟩]
def pzL : List (Nat × List (List V)) := [(6, [[.view 999 2 .clean []], [.view 999 2 .clean []]]),
 (9, [[.view 999 2 .clean []], [], []]),
 (11, [[.undef, .view 999 7 .flat []], [.undef, .view 999 7 .flat []]]),
 (16, [[.view 999 2 .clean []], []]),
 (17, [[.undef, .view 999 7 .flat []], []]),
 (18, [[.undef, .view 999 7 .flat []]]),
 (19, [[.view 999 7 .flat []], [.view 999 7 .flat []]]),
 (27, [[.undef, .view 999 1 .flat [], .view 999 1 .flat [], .view 999 1 .flat []]]),
 (28, [[.undef, .view 999 1 .flat [], .view 999 1 .flat [], .view 999 1 .flat []]]),
 (29, [[], [.view 999 1 .flat []]]),
 (30, [[.view 999 1 .flat []]])]
def rzL : List (Nat × List V) := [(4, [.own 0 2 .clean []]),
 (5, [.own 0 2 .clean []]),
 (9, [.own 0 2 .clean []]),
 (24, [.undef, .view 0 1 .flat [], .view 0 1 .flat [], .view 0 1 .flat []]),
 (26, [.own 0 1 .flat []])]
def fgL : List (Nat × List (Nat × List Nat × List Nat × List Nat)) := [(4, [(6, [0, 6, 7, 8, 9, 10, 11, 12, 13, 14, 15, 16, 17, 18, 19, 20, 21, 22, 23, 24, 25, 26, 27, 28, 29, 30, 31, 32, 33, 34, 35, 36, 37, 38, 39, 40, 41, 42, 43, 44, 45, 46, 47, 48, 49, 50], [6], []), (1006, [0, 2, 3, 4, 5, 6, 7, 8, 9, 10, 11, 12, 13, 14, 15, 16, 17, 18, 19, 20, 21, 22, 23, 24, 25, 26, 27, 28, 29, 30, 31, 32, 33, 34, 35, 36, 37, 38, 39, 40, 41, 42, 43, 44, 45, 46, 47, 48, 49, 50], [6], [])]),
 (6, [(4, [2, 3, 4, 6, 7, 8, 9, 10, 11, 12, 13, 14, 15, 16, 17, 18, 19, 20, 21, 22, 23, 24, 25, 26], [], []), (1004, [0, 1, 2, 3, 5, 6, 7, 8, 9, 10, 11, 12, 13, 14, 15, 16, 17, 18, 19, 20, 21, 22, 23, 24, 25, 26], [], [])]),
 (9, [(9, [], [], [7])]),
 (12, [(4, [1, 2, 4, 5, 6, 7, 8, 9, 10, 11, 12, 13, 14, 15, 16, 17, 18, 19], [], []), (1004, [0, 1, 2, 4, 5, 6, 7, 8, 9, 10, 11, 12, 13, 14, 15, 16, 17, 18, 19], [], [])]),
 (16, [(2, [2, 3, 4, 6, 7, 8, 9, 10, 11, 12, 13, 14, 15, 16, 17, 18, 19], [], []), (1002, [0, 1, 2, 3, 5, 6, 7, 8, 9, 10, 11, 12, 13, 14, 15, 16, 17, 18, 19], [], [])]),
 (17, [(2, [0, 3, 4, 6, 7, 8, 9, 10, 11, 12, 13, 14, 15, 16, 17, 18, 19, 20, 21], [], []), (1002, [0, 1, 2, 3, 5, 6, 7, 8, 9, 10, 11, 12, 13, 14, 15, 16, 17, 18, 19, 20, 21], [2], [])]),
 (18, [(2, [0, 2, 4, 5, 6, 7, 8, 9, 10, 11, 12, 13, 14, 15, 16, 17, 18, 19, 20, 21, 22, 23, 24, 25, 26, 27, 28, 29, 30, 31, 32, 33, 34, 35, 36, 37, 38, 39, 40, 41, 42, 43, 44, 45, 46, 47, 48, 49, 50, 51, 52, 53, 54, 55, 56], [], []), (7, [0, 2, 5, 6, 7, 8, 9, 10, 11, 12, 13, 14, 15, 16, 17, 18, 19, 20, 21, 22, 23, 24, 25, 26, 27, 28, 29, 30, 31, 32, 33, 34, 35, 36, 37, 38, 39, 40, 41, 42, 43, 44, 45, 46, 47, 48, 49, 50, 51, 52, 53, 54, 55, 56], [], []), (1002, [0, 3, 4, 5, 6, 7, 8, 9, 10, 11, 12, 13, 14, 15, 16, 17, 18, 19, 20, 21, 22, 23, 24, 25, 26, 27, 28, 29, 30, 31, 32, 33, 34, 35, 36, 37, 38, 39, 40, 41, 42, 43, 44, 45, 46, 47, 48, 49, 50, 51, 52, 53, 54, 55, 56], [], []), (1007, [0, 4, 5, 6, 7, 8, 9, 10, 11, 12, 13, 14, 15, 16, 17, 18, 19, 20, 21, 22, 23, 24, 25, 26, 27, 28, 29, 30, 31, 32, 33, 34, 35, 36, 37, 38, 39, 40, 41, 42, 43, 44, 45, 46, 47, 48, 49, 50, 51, 52, 53, 54, 55, 56], [], [])]),
 (19, [(4, [2, 3, 4, 6, 7, 8, 9, 10, 11, 12, 13, 14, 15, 16, 17, 18, 19, 20, 21, 22, 23, 24, 25, 26], [], []), (1004, [0, 1, 2, 3, 5, 6, 7, 8, 9, 10, 11, 12, 13, 14, 15, 16, 17, 18, 19, 20, 21, 22, 23, 24, 25, 26], [], [])]),
 (20, [(2, [1, 2, 4, 5, 6, 7, 8, 9, 10, 11, 12, 13, 14, 15, 16, 17, 18, 19, 20, 21, 22], [], []), (1002, [1, 3, 4, 5, 6, 7, 8, 9, 10, 11, 12, 13, 14, 15, 16, 17, 18, 19, 20, 21, 22], [], [])]),
 (26, [(4, [2, 3, 4, 8, 9, 10, 11, 12, 13, 14, 15, 16, 17, 18, 19, 20, 21, 22, 23, 24, 25, 26, 27, 28, 29, 30, 31, 32, 33, 34, 35], [], []), (1004, [0, 1, 2, 3, 4, 6, 7, 8, 9, 10, 11, 12, 13, 14, 15, 16, 17, 18, 19, 20, 21, 22, 23, 24, 25, 26, 27, 28, 29, 30, 31, 32, 33, 34, 35], [], [])]),
 (29, [(2, [2, 3, 4, 6, 7, 8, 9, 10, 11, 12, 13, 14, 15, 16, 17, 18, 19], [], []), (1002, [1, 2, 3, 4, 5, 6, 7, 8, 9, 10, 11, 12, 13, 14, 15, 16, 17, 18, 19], [], [])]),
 (30, [(2, [1, 2, 4, 5, 6, 7, 8, 9, 10, 11, 12, 13, 14, 15, 16, 17, 18], [], []), (1002, [1, 3, 4, 5, 6, 7, 8, 9, 10, 11, 12, 13, 14, 15, 16, 17, 18], [], [])]),
 (31, [(2, [1, 2, 4, 5, 6, 7, 8, 9, 10, 11, 12, 13, 14, 15, 16, 17, 18, 19, 20, 21, 22, 23, 24, 25, 26, 27, 28, 29, 30, 31, 32, 33, 34, 35, 36, 37, 38, 39, 40], [], []), (1002, [1, 3, 4, 5, 6, 7, 8, 9, 10, 11, 12, 13, 14, 15, 16, 17, 18, 19, 20, 21, 22, 23, 24, 25, 26, 27, 28, 29, 30, 31, 32, 33, 34, 35, 36, 37, 38, 39, 40], [], [])])]
def wrL : List (Nat × Option Wr) := []
def cfg : Cfg := ⟨fun t => tys.getD t none, fun f i => lookN i ([], [], []) (lookN f [] fgL), fun f => lookN f [] pzL, fun f => lookN f [] rzL, fun f => lookN f none wrL⟩
theorem agree : Agree Go.Proofs.Try.prog cfg := agree_of tys (fun _ => rfl) (by kernel_rfl)
theorem wrOk : WrOk Go.Proofs.Try.prog cfg := wrOk_none fun _ => rfl
def ext1 : Nat → List V → Option V := extL []
noncomputable def D1 : Nat → List V → Option V := den Go.Proofs.Try.prog cfg ext1
noncomputable def ext0 : Nat → List V → Option V := extL [(9, putV (D1 16) (D1 17) (D1 18))]
noncomputable abbrev D : Nat → List V → Option V := den Go.Proofs.Try.prog cfg ext0
end Go.Am
end
section
set_option maxRecDepth 10000
set_option linter.unusedVariables false
namespace Go.Am
open Go Go.Proofs
noncomputable section
abbrev WT : Type 1 := (β : Type) → List V → (V → Option β) → Option β
abbrev T25 : Type 1 := (β : Type) → Int → Int → List UInt8 → Int → Bool → List UInt8 → Int → Int → List UInt8 → Int → Bool → List UInt8 → (Bool → Option β) → Option β
def P25 : T25 := fun β a_Status a_Kind a_Body a_Age a_Shares a_Policy b_Status b_Kind b_Body b_Age b_Shares b_Policy k =>
 br (a_Status != b_Status) (
 k false) (
 br (a_Kind != b_Kind) (
 k false) (
 br (!(a_Body == b_Body)) (
 k false) (
 br (a_Age != b_Age) (
 k false) (
 br (!(a_Shares == b_Shares)) (
 k false) (
 br (!(a_Policy == b_Policy)) (
 k false) (
 k true))))))
def F25 : T25 := P25
abbrev s25 : List (Bool × List CK) := [(true, [.int .i64, .int .i64, .str, .int .i64, .bool, .str]), (true, [.int .i64, .int .i64, .str, .int .i64, .bool, .str])]
def G25 (F : T25) (β : Type) (e : (Int × Int × List UInt8 × Int × Bool × List UInt8 × Unit) × (Int × Int × List UInt8 × Int × Bool × List UInt8 × Unit) × Unit) (k : V → Option β) : Option β := let a0_0 := e.1; let a0_1 := a0_0.2; let a0_2 := a0_1.2; let a0_3 := a0_2.2; let a0_4 := a0_3.2; let a0_5 := a0_4.2; let a1_0 := e.2.1; let a1_1 := a1_0.2; let a1_2 := a1_1.2; let a1_3 := a1_2.2; let a1_4 := a1_3.2; let a1_5 := a1_4.2; F β a0_0.1 a0_1.1 a0_2.1 a0_3.1 a0_4.1 a0_5.1 a1_0.1 a1_1.1 a1_2.1 a1_3.1 a1_4.1 a1_5.1 (fun y1 => k (.bool y1))
abbrev W25 (F : T25) : WT := wrap s25 (G25 F)
theorem k25 (β : Type) (e : argsT s25) (k : V → Option β) : fnK cfg (tabL []) noX 25 Try.f25 β (argsEnc s25 e) k = G25 (P25 ) β e k := by kernel_rfl
theorem ok25 : FnOk D 25 (W25 F25) := fn_okW [] noX (fun _ => rfl) Try.func25 rfl (tabL_nil) (k25 )
abbrev T22 : Type 1 := (β : Type) → List UInt8 → Int → Int → List UInt8 → Int → Bool → List UInt8 → List UInt8 → Int → Int → List UInt8 → Int → Bool → List UInt8 → (Bool → Option β) → Option β
def P22 (F25 : T25) : T22 := fun β a_Path a_Response_Status a_Response_Kind a_Response_Body a_Response_Age a_Response_Shares a_Response_Policy b_Path b_Response_Status b_Response_Kind b_Response_Body b_Response_Age b_Response_Shares b_Response_Policy k =>
 br (!(a_Path == b_Path)) (
 k false) (
 F25 _ a_Response_Status a_Response_Kind a_Response_Body a_Response_Age a_Response_Shares a_Response_Policy b_Response_Status b_Response_Kind b_Response_Body b_Response_Age b_Response_Shares b_Response_Policy fun b1 =>
 br (!b1) (
 k false) (
 k true))
def F22 : T22 := P22 F25
abbrev s22 : List (Bool × List CK) := [(true, [.str, .int .i64, .int .i64, .str, .int .i64, .bool, .str]), (true, [.str, .int .i64, .int .i64, .str, .int .i64, .bool, .str])]
def G22 (F : T22) (β : Type) (e : (List UInt8 × Int × Int × List UInt8 × Int × Bool × List UInt8 × Unit) × (List UInt8 × Int × Int × List UInt8 × Int × Bool × List UInt8 × Unit) × Unit) (k : V → Option β) : Option β := let a0_0 := e.1; let a0_1 := a0_0.2; let a0_2 := a0_1.2; let a0_3 := a0_2.2; let a0_4 := a0_3.2; let a0_5 := a0_4.2; let a0_6 := a0_5.2; let a1_0 := e.2.1; let a1_1 := a1_0.2; let a1_2 := a1_1.2; let a1_3 := a1_2.2; let a1_4 := a1_3.2; let a1_5 := a1_4.2; let a1_6 := a1_5.2; F β a0_0.1 a0_1.1 a0_2.1 a0_3.1 a0_4.1 a0_5.1 a0_6.1 a1_0.1 a1_1.1 a1_2.1 a1_3.1 a1_4.1 a1_5.1 a1_6.1 (fun y1 => k (.bool y1))
abbrev W22 (F : T22) : WT := wrap s22 (G22 F)
theorem k22 (F25 : T25) (β : Type) (e : argsT s22) (k : V → Option β) : fnK cfg (tabL [(25, W25 F25)]) noX 22 Try.f22 β (argsEnc s22 e) k = G22 (P22 F25 ) β e k := by kernel_rfl
theorem ok22 : FnOk D 22 (W22 F22) := fn_okW [(25, W25 F25)] noX (fun _ => rfl) Try.func22 rfl (tabL_cons ok25 tabL_nil) (k22 F25 )
abbrev T19 : Type 1 := (β : Type) → List V → List V → (Bool → Option β) → Option β
def P19 (F22 : T22) : T19 := fun β a b k =>
 br ((a.length : Int) != (b.length : Int)) (
 k false) (
 whileK (fun s1 =>
 br (decide ((lI s1 2) < ((lL s1 0).length : Int))) (
 chk (0 ≤ (lI s1 2)) <|
 idx true [.str, .int .i64, .int .i64, .str, .int .i64, .bool, .str] (lL s1 0) ((lI s1 2).toNat) fun (e2 : List UInt8 × Int × Int × List UInt8 × Int × Bool × List UInt8 × Unit) =>
 chk (0 ≤ (lI s1 2)) <|
 idx true [.str, .int .i64, .int .i64, .str, .int .i64, .bool, .str] (lL s1 1) ((lI s1 2).toNat) fun (e3 : List UInt8 × Int × Int × List UInt8 × Int × Bool × List UInt8 × Unit) =>
 F22 _ e2.1 e2.2.1 e2.2.2.1 e2.2.2.2.1 e2.2.2.2.2.1 e2.2.2.2.2.2.1 e2.2.2.2.2.2.2.1 e3.1 e3.2.1 e3.2.2.1 e3.2.2.2.1 e3.2.2.2.2.1 e3.2.2.2.2.2.1 e3.2.2.2.2.2.2.1 fun b4 =>
 br (!b4) (
 some (.inr (0, [.b false]))) (
 some (.inl [.l (lL s1 0), .l (lL s1 1), .i (IntKind.wrap .i64 ((lI s1 2) + 1))]))) (
 some (.inr (1, [])))) [.l a, .l b, .i 0] fun (r5 : Nat × List Leaf) =>
 if r5.1 = 0 then
 k (lB r5.2 0)
 else
 k true)
def F19 : T19 := P19 F22
def X19 : Exits := fun i => lookN i [] [(4, [(.ret, xk 27 [(4, .bool false)] []), (.exit 0, xk 27 [] [])])]
abbrev s19 : List (Bool × List CK) := [(false, [.sl 7 true]), (false, [.sl 7 true])]
def G19 (F : T19) (β : Type) (e : (List V × Unit) × (List V × Unit) × Unit) (k : V → Option β) : Option β := F β e.1.1 e.2.1.1 (fun y1 => k (.bool y1))
abbrev W19 (F : T19) : WT := wrap s19 (G19 F)
theorem k19 (F22 : T22) (β : Type) (e : argsT s19) (k : V → Option β) : fnK cfg (tabL [(22, W22 F22)]) X19 19 Try.f19 β (argsEnc s19 e) k = G19 (P19 F22 ) β e k := by kernel_rfl
theorem ok19 : FnOk D 19 (W19 F19) := fn_okW [(22, W22 F22)] X19 (fun _ => rfl) Try.func19 rfl (tabL_cons ok22 tabL_nil) (k19 F22 )
abbrev T11 : Type 1 := (β : Type) → List UInt8 → List V → List UInt8 → List V → (Bool → Option β) → Option β
def P11 (F19 : T19) : T11 := fun β a_Host a_Files b_Host b_Files k =>
 br (!(a_Host == b_Host)) (
 k false) (
 F19 _ a_Files b_Files fun b1 =>
 br (!b1) (
 k false) (
 k true))
def F11 : T11 := P11 F19
abbrev s11 : List (Bool × List CK) := [(true, [.str, .sl 7 true]), (true, [.str, .sl 7 true])]
def G11 (F : T11) (β : Type) (e : (List UInt8 × List V × Unit) × (List UInt8 × List V × Unit) × Unit) (k : V → Option β) : Option β := F β e.1.1 e.1.2.1 e.2.1.1 e.2.1.2.1 (fun y1 => k (.bool y1))
abbrev W11 (F : T11) : WT := wrap s11 (G11 F)
theorem k11 (F19 : T19) (β : Type) (e : argsT s11) (k : V → Option β) : fnK cfg (tabL [(19, W19 F19)]) noX 11 Try.f11 β (argsEnc s11 e) k = G11 (P11 F19 ) β e k := by kernel_rfl
theorem ok11 : FnOk D 11 (W11 F11) := fn_okW [(19, W19 F19)] noX (fun _ => rfl) Try.func11 rfl (tabL_cons ok19 tabL_nil) (k11 F19 )
abbrev T6 : Type 1 := (β : Type) → List V → List V → (Bool → Option β) → Option β
def P6 (F11 : T11) : T6 := fun β a b k =>
 br ((a.length : Int) != (b.length : Int)) (
 k false) (
 whileK (fun s1 =>
 br (decide ((lI s1 2) < ((lL s1 0).length : Int))) (
 chk (0 ≤ (lI s1 2)) <|
 idx true [.str, .sl 7 true] (lL s1 0) ((lI s1 2).toNat) fun (e2 : List UInt8 × List V × Unit) =>
 chk (0 ≤ (lI s1 2)) <|
 idx true [.str, .sl 7 true] (lL s1 1) ((lI s1 2).toNat) fun (e3 : List UInt8 × List V × Unit) =>
 F11 _ e2.1 e2.2.1 e3.1 e3.2.1 fun b4 =>
 br (!b4) (
 some (.inr (0, [.b false]))) (
 some (.inl [.l (lL s1 0), .l (lL s1 1), .i (IntKind.wrap .i64 ((lI s1 2) + 1))]))) (
 some (.inr (1, [])))) [.l a, .l b, .i 0] fun (r5 : Nat × List Leaf) =>
 if r5.1 = 0 then
 k (lB r5.2 0)
 else
 k true)
def F6 : T6 := P6 F11
def X6 : Exits := fun i => lookN i [] [(4, [(.ret, xk 27 [(4, .bool false)] []), (.exit 0, xk 27 [] [])])]
abbrev s6 : List (Bool × List CK) := [(false, [.sl 2 false]), (false, [.sl 2 false])]
def G6 (F : T6) (β : Type) (e : (List V × Unit) × (List V × Unit) × Unit) (k : V → Option β) : Option β := F β e.1.1 e.2.1.1 (fun y1 => k (.bool y1))
abbrev W6 (F : T6) : WT := wrap s6 (G6 F)
theorem k6 (F11 : T11) (β : Type) (e : argsT s6) (k : V → Option β) : fnK cfg (tabL [(11, W11 F11)]) X6 6 Try.f6 β (argsEnc s6 e) k = G6 (P6 F11 ) β e k := by kernel_rfl
theorem ok6 : FnOk D 6 (W6 F6) := fn_okW [(11, W11 F11)] X6 (fun _ => rfl) Try.func6 rfl (tabL_cons ok11 tabL_nil) (k6 F11 )
abbrev T16 : Type 1 := (β : Type) → List V → List UInt8 → (Int → Option β) → Option β
def P16 : T16 := fun β l host k =>
 whileK (fun s1 =>
 br (decide ((lI s1 2) < ((lL s1 0).length : Int))) (
 chk (0 ≤ (lI s1 2)) <|
 idx true [.str, .sl 7 true] (lL s1 0) ((lI s1 2).toNat) fun (e2 : List UInt8 × List V × Unit) =>
 br (e2.1 == (lS s1 1)) (
 some (.inr (0, [.i (lI s1 2)]))) (
 some (.inl [.l (lL s1 0), .s (lS s1 1), .i (IntKind.wrap .i64 ((lI s1 2) + 1))]))) (
 some (.inr (1, [])))) [.l l, .s host, .i 0] fun (r3 : Nat × List Leaf) =>
 if r3.1 = 0 then
 k (lI r3.2 0)
 else
 k (-1)
def F16 : T16 := P16
def X16 : Exits := fun i => lookN i [] [(2, [(.ret, xk 20 [(4, .int .i64 0)] []), (.exit 0, xk 20 [] [])])]
abbrev s16 : List (Bool × List CK) := [(false, [.sl 2 false]), (false, [.str])]
def G16 (F : T16) (β : Type) (e : (List V × Unit) × (List UInt8 × Unit) × Unit) (k : V → Option β) : Option β := F β e.1.1 e.2.1.1 (fun y1 => k (.int .i64 y1))
abbrev W16 (F : T16) : WT := wrap s16 (G16 F)
theorem k16 (β : Type) (e : argsT s16) (k : V → Option β) : fnK cfg (tabL []) X16 16 Try.f16 β (argsEnc s16 e) k = G16 (P16 ) β e k := by kernel_rfl
theorem okd16 : FnOk D1 16 (W16 F16) := fn_okW [] X16 (fun _ => rfl) Try.func16 rfl (tabL_nil) (k16 )
abbrev T17 : Type 1 := (β : Type) → List UInt8 → List V → List UInt8 → (Int → Option β) → Option β
def P17 : T17 := fun β s_Host s_Files path k =>
 whileK (fun s1 =>
 br (decide ((lI s1 1) < ((lL s1 3).length : Int))) (
 chk (0 ≤ (lI s1 1)) <|
 idx true [.str, .int .i64, .int .i64, .str, .int .i64, .bool, .str] (lL s1 3) ((lI s1 1).toNat) fun (e2 : List UInt8 × Int × Int × List UInt8 × Int × Bool × List UInt8 × Unit) =>
 br (e2.1 == (lS s1 0)) (
 some (.inr (0, [.i (lI s1 1)]))) (
 some (.inl [.s (lS s1 0), .i (IntKind.wrap .i64 ((lI s1 1) + 1)), .s (lS s1 2), .l (lL s1 3)]))) (
 some (.inr (1, [])))) [.s path, .i 0, .s s_Host, .l s_Files] fun (r3 : Nat × List Leaf) =>
 if r3.1 = 0 then
 k (lI r3.2 0)
 else
 k (-1)
def F17 : T17 := P17
def X17 : Exits := fun i => lookN i [] [(2, [(.ret, xk 22 [(4, .int .i64 0)] []), (.exit 0, xk 22 [] [])])]
abbrev s17 : List (Bool × List CK) := [(true, [.str, .sl 7 true]), (false, [.str])]
def G17 (F : T17) (β : Type) (e : (List UInt8 × List V × Unit) × (List UInt8 × Unit) × Unit) (k : V → Option β) : Option β := F β e.1.1 e.1.2.1 e.2.1.1 (fun y1 => k (.int .i64 y1))
abbrev W17 (F : T17) : WT := wrap s17 (G17 F)
theorem k17 (β : Type) (e : argsT s17) (k : V → Option β) : fnK cfg (tabL []) X17 17 Try.f17 β (argsEnc s17 e) k = G17 (P17 ) β e k := by kernel_rfl
theorem okd17 : FnOk D1 17 (W17 F17) := fn_okW [] X17 (fun _ => rfl) Try.func17 rfl (tabL_nil) (k17 )
abbrev T23 : Type 1 := (β : Type) → Int → Int → Int → (Bool → Option β) → Option β
def P23 : T23 := fun β x least most k =>
 br (decide (x ≥ least)) (
 k (decide (x ≤ most))) (
 k false)
def F23 : T23 := P23
abbrev s23 : List (Bool × List CK) := [(false, [.int .i64]), (false, [.int .i64]), (false, [.int .i64])]
def G23 (F : T23) (β : Type) (e : (Int × Unit) × (Int × Unit) × (Int × Unit) × Unit) (k : V → Option β) : Option β := F β e.1.1 e.2.1.1 e.2.2.1.1 (fun y1 => k (.bool y1))
abbrev W23 (F : T23) : WT := wrap s23 (G23 F)
theorem k23 (β : Type) (e : argsT s23) (k : V → Option β) : fnK cfg (tabL []) noX 23 Try.f23 β (argsEnc s23 e) k = G23 (P23 ) β e k := by kernel_rfl
theorem okd23 : FnOk D1 23 (W23 F23) := fn_okW [] noX (fun _ => rfl) Try.func23 rfl (tabL_nil) (k23 )
abbrev T20 : Type 1 := (β : Type) → List UInt8 → (Bool → Option β) → Option β
def P20 (F23 : T23) : T20 := fun β s k =>
 whileK (fun s1 =>
 br (decide ((lI s1 1) < ((lS s1 0).length : Int))) (
 idxS (lS s1 0) (lI s1 1) fun b2 =>
 br (decide (b2 < 97)) (
 some (.inr (0, [.s (lS s1 0), .b false]))) (
 idxS (lS s1 0) (lI s1 1) fun b3 =>
 br (decide (b3 > 122)) (
 some (.inr (0, [.s (lS s1 0), .b false]))) (
 some (.inl [.s (lS s1 0), .i (IntKind.wrap .i64 ((lI s1 1) + 1))])))) (
 some (.inr (1, [.s (lS s1 0)])))) [.s s, .i 0] fun (r4 : Nat × List Leaf) =>
 if r4.1 = 0 then
 k (lB r4.2 1)
 else
 F23 _ ((lS r4.2 0).length : Int) 1 8 fun b5 =>
 k b5
def F20 : T20 := P20 F23
def X20 : Exits := fun i => lookN i [] [(2, [(.ret, xk 23 [(0, .str []), (2, .bool false)] []), (.exit 0, xk 23 [(0, .str [])] [])])]
abbrev s20 : List (Bool × List CK) := [(false, [.str])]
def G20 (F : T20) (β : Type) (e : (List UInt8 × Unit) × Unit) (k : V → Option β) : Option β := F β e.1.1 (fun y1 => k (.bool y1))
abbrev W20 (F : T20) : WT := wrap s20 (G20 F)
theorem k20 (F23 : T23) (β : Type) (e : argsT s20) (k : V → Option β) : fnK cfg (tabL [(23, W23 F23)]) X20 20 Try.f20 β (argsEnc s20 e) k = G20 (P20 F23 ) β e k := by kernel_rfl
theorem okd20 : FnOk D1 20 (W20 F20) := fn_okW [(23, W23 F23)] X20 (fun _ => rfl) Try.func20 rfl (tabL_cons okd23 tabL_nil) (k20 F23 )
abbrev T26 : Type 1 := (β : Type) → List UInt8 → Int → (List V → Option β) → Option β
def P26 : T26 := fun β s xby k =>
 whileK (fun s1 =>
 br (decide ((lI s1 4) ≤ ((lS s1 0).length : Int))) (
 br ((lI s1 4) == ((lS s1 0).length : Int)) (
 chk (0 ≤ (lI s1 3) ∧ (lI s1 3) ≤ (lI s1 4) ∧ (lI s1 4) ≤ ((lS s1 0).length : Int)) <|
 chk (((lL s1 2).length + ([.str (((lS s1 0).take ((lI s1 4).toNat)).drop ((lI s1 3).toNat))] : List V).length) * 16 ≤ 140737488355328 ∧ (lL s1 2).length + ([.str (((lS s1 0).take ((lI s1 4).toNat)).drop ((lI s1 3).toNat))] : List V).length ≤ 140737488355328) <|
 some (.inl [.s (lS s1 0), .i (lI s1 1), .l ((lL s1 2) ++ ([.str (((lS s1 0).take ((lI s1 4).toNat)).drop ((lI s1 3).toNat))] : List V)), .i (IntKind.wrap .i64 ((lI s1 4) + 1)), .i (IntKind.wrap .i64 ((lI s1 4) + 1))])) (
 idxS (lS s1 0) (lI s1 4) fun b2 =>
 br (b2 == (lI s1 1)) (
 chk (0 ≤ (lI s1 3) ∧ (lI s1 3) ≤ (lI s1 4) ∧ (lI s1 4) ≤ ((lS s1 0).length : Int)) <|
 chk (((lL s1 2).length + ([.str (((lS s1 0).take ((lI s1 4).toNat)).drop ((lI s1 3).toNat))] : List V).length) * 16 ≤ 140737488355328 ∧ (lL s1 2).length + ([.str (((lS s1 0).take ((lI s1 4).toNat)).drop ((lI s1 3).toNat))] : List V).length ≤ 140737488355328) <|
 some (.inl [.s (lS s1 0), .i (lI s1 1), .l ((lL s1 2) ++ ([.str (((lS s1 0).take ((lI s1 4).toNat)).drop ((lI s1 3).toNat))] : List V)), .i (IntKind.wrap .i64 ((lI s1 4) + 1)), .i (IntKind.wrap .i64 ((lI s1 4) + 1))])) (
 some (.inl [.s (lS s1 0), .i (lI s1 1), .l (lL s1 2), .i (lI s1 3), .i (IntKind.wrap .i64 ((lI s1 4) + 1))])))) (
 some (.inr (0, [.l (lL s1 2)])))) [.s s, .i xby, .l [], .i 0, .i 0] fun (r3 : Nat × List Leaf) =>
 k (lL r3.2 0)
def F26 : T26 := P26
def X26 : Exits := fun i => lookN i [] [(4, [(.exit 0, xk 36 [(5, .own 1000000 1 .flat [])] [])])]
abbrev s26 : List (Bool × List CK) := [(false, [.str]), (false, [.int .u8])]
def G26 (F : T26) (β : Type) (e : (List UInt8 × Unit) × (Int × Unit) × Unit) (k : V → Option β) : Option β := F β e.1.1 e.2.1.1 (fun y1 => k (.own 0 1 .flat y1))
abbrev W26 (F : T26) : WT := wrap s26 (G26 F)
theorem k26 (β : Type) (e : argsT s26) (k : V → Option β) : fnK cfg (tabL []) X26 26 Try.f26 β (argsEnc s26 e) k = G26 (P26 ) β e k := by kernel_rfl
theorem okd26 : FnOk D1 26 (W26 F26) := fn_okW [] X26 (fun _ => rfl) Try.func26 rfl (tabL_nil) (k26 )
abbrev T30 : Type 1 := (β : Type) → List V → (Bool → Option β) → Option β
def P30 (F20 : T20) : T30 := fun β l k =>
 whileK (fun s1 =>
 br (decide ((lI s1 1) < ((lL s1 0).length : Int))) (
 chk (0 ≤ (lI s1 1)) <|
 idx false [.str] (lL s1 0) ((lI s1 1).toNat) fun (e2 : List UInt8 × Unit) =>
 F20 _ e2.1 fun b3 =>
 br (!b3) (
 some (.inr (0, [.l (lL s1 0), .b false]))) (
 some (.inl [.l (lL s1 0), .i (IntKind.wrap .i64 ((lI s1 1) + 1))]))) (
 some (.inr (1, [.l (lL s1 0)])))) [.l l, .i 0] fun (r4 : Nat × List Leaf) =>
 if r4.1 = 0 then
 k (lB r4.2 1)
 else
 k (decide (((lL r4.2 0).length : Int) ≤ 4))
def F30 : T30 := P30 F20
def X30 : Exits := fun i => lookN i [] [(2, [(.ret, xk 19 [(0, .sl 1 true []), (2, .bool false)] []), (.exit 0, xk 19 [(0, .sl 1 true [])] [])])]
abbrev s30 : List (Bool × List CK) := [(false, [.sl 1 true])]
def G30 (F : T30) (β : Type) (e : (List V × Unit) × Unit) (k : V → Option β) : Option β := F β e.1.1 (fun y1 => k (.bool y1))
abbrev W30 (F : T30) : WT := wrap s30 (G30 F)
theorem k30 (F20 : T20) (β : Type) (e : argsT s30) (k : V → Option β) : fnK cfg (tabL [(20, W20 F20)]) X30 30 Try.f30 β (argsEnc s30 e) k = G30 (P30 F20 ) β e k := by kernel_rfl
theorem okd30 : FnOk D1 30 (W30 F30) := fn_okW [(20, W20 F20)] X30 (fun _ => rfl) Try.func30 rfl (tabL_cons okd20 tabL_nil) (k30 F20 )
abbrev T31 : Type 1 := (β : Type) → List UInt8 → (Bool → Option β) → Option β
def P31 (F23 : T23) : T31 := fun β s k =>
 whileK (fun s1 =>
 br (decide ((lI s1 1) < ((lS s1 0).length : Int))) (
 idxS (lS s1 0) (lI s1 1) fun b2 =>
 br (decide (b2 < 97)) (
 idxS (lS s1 0) (lI s1 1) fun b3 =>
 br (decide (b3 < 48)) (
 idxS (lS s1 0) (lI s1 1) fun b4 =>
 br (b4 != 47) (
 some (.inr (0, [.s (lS s1 0), .b false]))) (
 some (.inl [.s (lS s1 0), .i (IntKind.wrap .i64 ((lI s1 1) + 1))]))) (
 idxS (lS s1 0) (lI s1 1) fun b5 =>
 br (decide (b5 > 57)) (
 idxS (lS s1 0) (lI s1 1) fun b6 =>
 br (b6 != 47) (
 some (.inr (0, [.s (lS s1 0), .b false]))) (
 some (.inl [.s (lS s1 0), .i (IntKind.wrap .i64 ((lI s1 1) + 1))]))) (
 some (.inl [.s (lS s1 0), .i (IntKind.wrap .i64 ((lI s1 1) + 1))])))) (
 idxS (lS s1 0) (lI s1 1) fun b7 =>
 br (decide (b7 > 122)) (
 idxS (lS s1 0) (lI s1 1) fun b8 =>
 br (decide (b8 < 48)) (
 idxS (lS s1 0) (lI s1 1) fun b9 =>
 br (b9 != 47) (
 some (.inr (0, [.s (lS s1 0), .b false]))) (
 some (.inl [.s (lS s1 0), .i (IntKind.wrap .i64 ((lI s1 1) + 1))]))) (
 idxS (lS s1 0) (lI s1 1) fun b10 =>
 br (decide (b10 > 57)) (
 idxS (lS s1 0) (lI s1 1) fun b11 =>
 br (b11 != 47) (
 some (.inr (0, [.s (lS s1 0), .b false]))) (
 some (.inl [.s (lS s1 0), .i (IntKind.wrap .i64 ((lI s1 1) + 1))]))) (
 some (.inl [.s (lS s1 0), .i (IntKind.wrap .i64 ((lI s1 1) + 1))])))) (
 some (.inl [.s (lS s1 0), .i (IntKind.wrap .i64 ((lI s1 1) + 1))])))) (
 some (.inr (1, [.s (lS s1 0)])))) [.s s, .i 0] fun (r12 : Nat × List Leaf) =>
 if r12.1 = 0 then
 k (lB r12.2 1)
 else
 F23 _ ((lS r12.2 0).length : Int) 1 20 fun b13 =>
 k b13
def F31 : T31 := P31 F23
def X31 : Exits := fun i => lookN i [] [(2, [(.ret, xk 41 [(0, .str []), (2, .bool false)] []), (.exit 0, xk 41 [(0, .str [])] [])])]
abbrev s31 : List (Bool × List CK) := [(false, [.str])]
def G31 (F : T31) (β : Type) (e : (List UInt8 × Unit) × Unit) (k : V → Option β) : Option β := F β e.1.1 (fun y1 => k (.bool y1))
abbrev W31 (F : T31) : WT := wrap s31 (G31 F)
theorem k31 (F23 : T23) (β : Type) (e : argsT s31) (k : V → Option β) : fnK cfg (tabL [(23, W23 F23)]) X31 31 Try.f31 β (argsEnc s31 e) k = G31 (P31 F23 ) β e k := by kernel_rfl
theorem okd31 : FnOk D1 31 (W31 F31) := fn_okW [(23, W23 F23)] X31 (fun _ => rfl) Try.func31 rfl (tabL_cons okd23 tabL_nil) (k31 F23 )
abbrev T28 : Type 1 := (β : Type) → Bool → List V → List V → List V → List UInt8 → (Bool → Option β) → Option β
def P28 (F30 : T30) (F31 : T31) : T28 := fun β p_Set p_Scripts p_Styles p_Images p_Nonce k =>
 br (!p_Set) (
 br ((p_Scripts.length : Int) == 0) (
 br ((p_Styles.length : Int) == 0) (
 br ((p_Images.length : Int) == 0) (
 k (p_Nonce == [])) (
 k false)) (
 k false)) (
 k false)) (
 F30 _ p_Scripts fun b1 =>
 br b1 (
 F30 _ p_Styles fun b2 =>
 br b2 (
 F30 _ p_Images fun b3 =>
 br b3 (
 br (p_Nonce == []) (
 k true) (
 F31 _ p_Nonce fun b4 =>
 k b4)) (
 k false)) (
 k false)) (
 k false))
def F28 : T28 := P28 F30 F31
abbrev s28 : List (Bool × List CK) := [(true, [.bool, .sl 1 true, .sl 1 true, .sl 1 true, .str])]
def G28 (F : T28) (β : Type) (e : (Bool × List V × List V × List V × List UInt8 × Unit) × Unit) (k : V → Option β) : Option β := let a0_0 := e.1; let a0_1 := a0_0.2; let a0_2 := a0_1.2; let a0_3 := a0_2.2; let a0_4 := a0_3.2; F β a0_0.1 a0_1.1 a0_2.1 a0_3.1 a0_4.1 (fun y1 => k (.bool y1))
abbrev W28 (F : T28) : WT := wrap s28 (G28 F)
theorem k28 (F30 : T30) (F31 : T31) (β : Type) (e : argsT s28) (k : V → Option β) : fnK cfg (tabL [(30, W30 F30), (31, W31 F31)]) noX 28 Try.f28 β (argsEnc s28 e) k = G28 (P28 F30 F31 ) β e k := by kernel_rfl
theorem okd28 : FnOk D1 28 (W28 F28) := fn_okW [(30, W30 F30), (31, W31 F31)] noX (fun _ => rfl) Try.func28 rfl (tabL_cons okd30 (tabL_cons okd31 tabL_nil)) (k28 F30 F31 )
abbrev T29 : Type 1 := (β : Type) → List UInt8 → List V → (List UInt8 → Option β) → Option β
def P29 : T29 := fun β word l k =>
 whileK (fun s1 =>
 br (decide ((lI s1 2) < ((lL s1 1).length : Int))) (
 chk ((lS s1 0).length + ([32] : List UInt8).length ≤ 9223372036854775807) <|
 chk (0 ≤ (lI s1 2)) <|
 idx false [.str] (lL s1 1) ((lI s1 2).toNat) fun (e2 : List UInt8 × Unit) =>
 chk (((lS s1 0) ++ [32]).length + e2.1.length ≤ 9223372036854775807) <|
 some (.inl [.s (((lS s1 0) ++ [32]) ++ e2.1), .l (lL s1 1), .i (IntKind.wrap .i64 ((lI s1 2) + 1))])) (
 some (.inr (0, [.s (lS s1 0)])))) [.s word, .l l, .i 0] fun (r3 : Nat × List Leaf) =>
 k (lS r3.2 0)
def F29 : T29 := P29
def X29 : Exits := fun i => lookN i [] [(2, [(.exit 0, xk 20 [(0, .str [])] [])])]
abbrev s29 : List (Bool × List CK) := [(false, [.str]), (false, [.sl 1 true])]
def G29 (F : T29) (β : Type) (e : (List UInt8 × Unit) × (List V × Unit) × Unit) (k : V → Option β) : Option β := F β e.1.1 e.2.1.1 (fun y1 => k (.str y1))
abbrev W29 (F : T29) : WT := wrap s29 (G29 F)
theorem k29 (β : Type) (e : argsT s29) (k : V → Option β) : fnK cfg (tabL []) X29 29 Try.f29 β (argsEnc s29 e) k = G29 (P29 ) β e k := by kernel_rfl
theorem okd29 : FnOk D1 29 (W29 F29) := fn_okW [] X29 (fun _ => rfl) Try.func29 rfl (tabL_nil) (k29 )
abbrev T27 : Type 1 := (β : Type) → Bool → List V → List V → List V → List UInt8 → (List UInt8 → Option β) → Option β
def P27 (F28 : T28) (F29 : T29) : T27 := fun β p_Set p_Scripts p_Styles p_Images p_Nonce k =>
 F28 _ p_Set p_Scripts p_Styles p_Images p_Nonce fun b1 =>
 br (!b1) (
 k []) (
 br (!p_Set) (
 k []) (
 F29 _ [115, 99, 114, 105, 112, 116] p_Scripts fun t2 =>
 chk (t2.length + ([59] : List UInt8).length ≤ 9223372036854775807) <|
 F29 _ [115, 116, 121, 108, 101] p_Styles fun t3 =>
 chk ((t2 ++ [59]).length + t3.length ≤ 9223372036854775807) <|
 chk (((t2 ++ [59]) ++ t3).length + ([59] : List UInt8).length ≤ 9223372036854775807) <|
 F29 _ [105, 109, 103] p_Images fun t4 =>
 chk ((((t2 ++ [59]) ++ t3) ++ [59]).length + t4.length ≤ 9223372036854775807) <|
 br (!(p_Nonce == [])) (
 chk (((((t2 ++ [59]) ++ t3) ++ [59]) ++ t4).length + ([59, 110, 111, 110, 99, 101, 32] : List UInt8).length ≤ 9223372036854775807) <|
 chk ((((((t2 ++ [59]) ++ t3) ++ [59]) ++ t4) ++ [59, 110, 111, 110, 99, 101, 32]).length + p_Nonce.length ≤ 9223372036854775807) <|
 k ((((((t2 ++ [59]) ++ t3) ++ [59]) ++ t4) ++ [59, 110, 111, 110, 99, 101, 32]) ++ p_Nonce)) (
 k ((((t2 ++ [59]) ++ t3) ++ [59]) ++ t4))))
def F27 : T27 := P27 F28 F29
abbrev s27 : List (Bool × List CK) := [(true, [.bool, .sl 1 true, .sl 1 true, .sl 1 true, .str])]
def G27 (F : T27) (β : Type) (e : (Bool × List V × List V × List V × List UInt8 × Unit) × Unit) (k : V → Option β) : Option β := let a0_0 := e.1; let a0_1 := a0_0.2; let a0_2 := a0_1.2; let a0_3 := a0_2.2; let a0_4 := a0_3.2; F β a0_0.1 a0_1.1 a0_2.1 a0_3.1 a0_4.1 (fun y1 => k (.str y1))
abbrev W27 (F : T27) : WT := wrap s27 (G27 F)
theorem k27 (F28 : T28) (F29 : T29) (β : Type) (e : argsT s27) (k : V → Option β) : fnK cfg (tabL [(28, W28 F28), (29, W29 F29)]) noX 27 Try.f27 β (argsEnc s27 e) k = G27 (P27 F28 F29 ) β e k := by kernel_rfl
theorem okd27 : FnOk D1 27 (W27 F27) := fn_okW [(28, W28 F28), (29, W29 F29)] noX (fun _ => rfl) Try.func27 rfl (tabL_cons okd28 (tabL_cons okd29 tabL_nil)) (k27 F28 F29 )
abbrev T24 : Type 1 := (β : Type) → List UInt8 → (Bool → List V → List V → List V → List UInt8 → Bool → Option β) → Option β
def P24 (F26 : T26) (F27 : T27) : T24 := fun β s k =>
 br (s == []) (
 k false [] [] [] [] true) (
 F26 _ s 59 fun l1 =>
 br (decide ((l1.length : Int) < 3)) (
 k false [] [] [] [] false) (
 chk (0 ≤ (0 : Int) ∧ 0 < l1.length) <|
 idxAt [.str] l1 0 0 fun (e2 : List UInt8 × Unit) =>
 F26 _ e2.1 32 fun l3 =>
 chk (0 ≤ (1 : Int) ∧ (1 : Int) ≤ (l3.length : Int) ∧ (l3.length : Int) ≤ (l3.length : Int)) <|
 chk (0 ≤ (1 : Int) ∧ 1 < l1.length) <|
 idxAt [.str] l1 1 0 fun (e4 : List UInt8 × Unit) =>
 F26 _ e4.1 32 fun l5 =>
 chk (0 ≤ (1 : Int) ∧ (1 : Int) ≤ (l5.length : Int) ∧ (l5.length : Int) ≤ (l5.length : Int)) <|
 chk (0 ≤ (2 : Int) ∧ 2 < l1.length) <|
 idxAt [.str] l1 2 0 fun (e6 : List UInt8 × Unit) =>
 F26 _ e6.1 32 fun l7 =>
 chk (0 ≤ (1 : Int) ∧ (1 : Int) ≤ (l7.length : Int) ∧ (l7.length : Int) ≤ (l7.length : Int)) <|
 br (decide ((l1.length : Int) > 3)) (
 chk (0 ≤ (3 : Int) ∧ 3 < l1.length) <|
 idxAt [.str] l1 3 0 fun (e8 : List UInt8 × Unit) =>
 br (decide ((e8.1.length : Int) > 6)) (
 chk (0 ≤ (3 : Int) ∧ 3 < l1.length) <|
 idxAt [.str] l1 3 0 fun (e9 : List UInt8 × Unit) =>
 chk (0 ≤ (6 : Int) ∧ (6 : Int) ≤ (e9.1.length : Int) ∧ (e9.1.length : Int) ≤ (e9.1.length : Int)) <|
 F27 _ true ((l3.take ((l3.length : Int).toNat)).drop 1) ((l5.take ((l5.length : Int).toNat)).drop 1) ((l7.take ((l7.length : Int).toNat)).drop 1) ((e9.1.take ((e9.1.length : Int).toNat)).drop 6) fun t10 =>
 br (!(t10 == s)) (
 k false [] [] [] [] false) (
 k true ((l3.take ((l3.length : Int).toNat)).drop 1) ((l5.take ((l5.length : Int).toNat)).drop 1) ((l7.take ((l7.length : Int).toNat)).drop 1) ((e9.1.take ((e9.1.length : Int).toNat)).drop 6) true)) (
 F27 _ true ((l3.take ((l3.length : Int).toNat)).drop 1) ((l5.take ((l5.length : Int).toNat)).drop 1) ((l7.take ((l7.length : Int).toNat)).drop 1) [] fun t11 =>
 br (!(t11 == s)) (
 k false [] [] [] [] false) (
 k true ((l3.take ((l3.length : Int).toNat)).drop 1) ((l5.take ((l5.length : Int).toNat)).drop 1) ((l7.take ((l7.length : Int).toNat)).drop 1) [] true))) (
 F27 _ true ((l3.take ((l3.length : Int).toNat)).drop 1) ((l5.take ((l5.length : Int).toNat)).drop 1) ((l7.take ((l7.length : Int).toNat)).drop 1) [] fun t12 =>
 br (!(t12 == s)) (
 k false [] [] [] [] false) (
 k true ((l3.take ((l3.length : Int).toNat)).drop 1) ((l5.take ((l5.length : Int).toNat)).drop 1) ((l7.take ((l7.length : Int).toNat)).drop 1) [] true))))
def F24 : T24 := P24 F26 F27
abbrev s24 : List (Bool × List CK) := [(false, [.str])]
def G24 (F : T24) (β : Type) (e : (List UInt8 × Unit) × Unit) (k : V → Option β) : Option β := F β e.1.1 (fun y1 y2 y3 y4 y5 y6 => k (.tup [.agg [.bool y1, .view 1 1 .flat y2, .view 2 1 .flat y3, .view 3 1 .flat y4, .str y5], .bool y6]))
abbrev W24 (F : T24) : WT := wrap s24 (G24 F)
theorem k24 (F26 : T26) (F27 : T27) (β : Type) (e : argsT s24) (k : V → Option β) : fnK cfg (tabL [(26, W26 F26), (27, W27 F27)]) noX 24 Try.f24 β (argsEnc s24 e) k = G24 (P24 F26 F27 ) β e k := by kernel_rfl
theorem okd24 : FnOk D1 24 (W24 F24) := fn_okW [(26, W26 F26), (27, W27 F27)] noX (fun _ => rfl) Try.func24 rfl (tabL_cons okd26 (tabL_cons okd27 tabL_nil)) (k24 F26 F27 )
abbrev T21 : Type 1 := (β : Type) → Int → Int → List UInt8 → Int → Bool → List UInt8 → (Bool → Option β) → Option β
def P21 (F24 : T24) (F23 : T23) : T21 := fun β x_Status x_Kind x_Body x_Age x_Shares x_Policy k =>
 F24 _ x_Policy fun b1 l2 l3 l4 t5 b6 =>
 F23 _ x_Status 100 599 fun b7 =>
 br b7 (
 F23 _ x_Kind 1 5 fun b8 =>
 br b8 (
 br (decide ((x_Body.length : Int) ≤ 400)) (
 F23 _ x_Age 0 1000 fun b9 =>
 br b9 (
 k b6) (
 k false)) (
 k false)) (
 k false)) (
 k false)
def F21 : T21 := P21 F24 F23
abbrev s21 : List (Bool × List CK) := [(true, [.int .i64, .int .i64, .str, .int .i64, .bool, .str])]
def G21 (F : T21) (β : Type) (e : (Int × Int × List UInt8 × Int × Bool × List UInt8 × Unit) × Unit) (k : V → Option β) : Option β := let a0_0 := e.1; let a0_1 := a0_0.2; let a0_2 := a0_1.2; let a0_3 := a0_2.2; let a0_4 := a0_3.2; let a0_5 := a0_4.2; F β a0_0.1 a0_1.1 a0_2.1 a0_3.1 a0_4.1 a0_5.1 (fun y1 => k (.bool y1))
abbrev W21 (F : T21) : WT := wrap s21 (G21 F)
theorem k21 (F24 : T24) (F23 : T23) (β : Type) (e : argsT s21) (k : V → Option β) : fnK cfg (tabL [(24, W24 F24), (23, W23 F23)]) noX 21 Try.f21 β (argsEnc s21 e) k = G21 (P21 F24 F23 ) β e k := by kernel_rfl
theorem okd21 : FnOk D1 21 (W21 F21) := fn_okW [(24, W24 F24), (23, W23 F23)] noX (fun _ => rfl) Try.func21 rfl (tabL_cons okd24 (tabL_cons okd23 tabL_nil)) (k21 F24 F23 )
abbrev T18 : Type 1 := (β : Type) → List UInt8 → List V → (Bool → Option β) → Option β
def P18 (F20 : T20) (F21 : T21) : T18 := fun β s_Host s_Files k =>
 whileK (fun s1 =>
 br (decide ((lI s1 0) < ((lL s1 2).length : Int))) (
 chk (0 ≤ (lI s1 0)) <|
 idx true [.str, .int .i64, .int .i64, .str, .int .i64, .bool, .str] (lL s1 2) ((lI s1 0).toNat) fun (e2 : List UInt8 × Int × Int × List UInt8 × Int × Bool × List UInt8 × Unit) =>
 F20 _ e2.1 fun b3 =>
 br (!b3) (
 some (.inr (0, [.b false, .s (lS s1 1), .l (lL s1 2)]))) (
 chk (0 ≤ (lI s1 0)) <|
 idx true [.str, .int .i64, .int .i64, .str, .int .i64, .bool, .str] (lL s1 2) ((lI s1 0).toNat) fun (e4 : List UInt8 × Int × Int × List UInt8 × Int × Bool × List UInt8 × Unit) =>
 F21 _ e4.2.1 e4.2.2.1 e4.2.2.2.1 e4.2.2.2.2.1 e4.2.2.2.2.2.1 e4.2.2.2.2.2.2.1 fun b5 =>
 br (!b5) (
 some (.inr (0, [.b false, .s (lS s1 1), .l (lL s1 2)]))) (
 whileK (fun s6 =>
 br (decide ((lI s6 1) < (lI s6 0))) (
 chk (0 ≤ (lI s6 1)) <|
 idx true [.str, .int .i64, .int .i64, .str, .int .i64, .bool, .str] (lL s6 3) ((lI s6 1).toNat) fun (e7 : List UInt8 × Int × Int × List UInt8 × Int × Bool × List UInt8 × Unit) =>
 chk (0 ≤ (lI s6 0)) <|
 idx true [.str, .int .i64, .int .i64, .str, .int .i64, .bool, .str] (lL s6 3) ((lI s6 0).toNat) fun (e8 : List UInt8 × Int × Int × List UInt8 × Int × Bool × List UInt8 × Unit) =>
 br (e7.1 == e8.1) (
 some (.inr (0, [.b false, .i (lI s6 0), .s (lS s6 2), .l (lL s6 3)]))) (
 some (.inl [.i (lI s6 0), .i (IntKind.wrap .i64 ((lI s6 1) + 1)), .s (lS s6 2), .l (lL s6 3)]))) (
 some (.inr (1, [.i (lI s6 0), .s (lS s6 2), .l (lL s6 3)])))) [.i (lI s1 0), .i 0, .s (lS s1 1), .l (lL s1 2)] fun (r9 : Nat × List Leaf) =>
 if r9.1 = 0 then
 some (.inr (0, [.b (lB r9.2 0), .s (lS r9.2 2), .l (lL r9.2 3)]))
 else
 some (.inl [.i (IntKind.wrap .i64 ((lI r9.2 0) + 1)), .s (lS r9.2 1), .l (lL r9.2 2)])))) (
 some (.inr (1, [.s (lS s1 1), .l (lL s1 2)])))) [.i 0, .s s_Host, .l s_Files] fun (r10 : Nat × List Leaf) =>
 if r10.1 = 0 then
 k (lB r10.2 0)
 else
 F20 _ (lS r10.2 0) fun b11 =>
 br b11 (
 k (decide (((lL r10.2 1).length : Int) ≤ 10))) (
 k false)
def F18 : T18 := P18 F20 F21
def X18 : Exits := fun i => lookN i [] [(2, [(.ret, xk 57 [(1, .ptr 1 0), (2, .bool false)] [(1, .agg [.str [], .sl 7 true []])]), (.exit 0, xk 57 [(1, .ptr 1 0)] [(1, .agg [.str [], .sl 7 true []])])]), (7, [(.ret, xk 57 [(1, .ptr 1 0), (2, .bool false), (3, .int .i64 0)] [(1, .agg [.str [], .sl 7 true []])]), (.exit 2, xk 57 [(1, .ptr 1 0), (3, .int .i64 0)] [(1, .agg [.str [], .sl 7 true []])])])]
abbrev s18 : List (Bool × List CK) := [(true, [.str, .sl 7 true])]
def G18 (F : T18) (β : Type) (e : (List UInt8 × List V × Unit) × Unit) (k : V → Option β) : Option β := F β e.1.1 e.1.2.1 (fun y1 => k (.bool y1))
abbrev W18 (F : T18) : WT := wrap s18 (G18 F)
theorem k18 (F20 : T20) (F21 : T21) (β : Type) (e : argsT s18) (k : V → Option β) : fnK cfg (tabL [(20, W20 F20), (21, W21 F21)]) X18 18 Try.f18 β (argsEnc s18 e) k = G18 (P18 F20 F21 ) β e k := by kernel_rfl
theorem okd18 : FnOk D1 18 (W18 F18) := fn_okW [(20, W20 F20), (21, W21 F21)] X18 (fun _ => rfl) Try.func18 rfl (tabL_cons okd20 (tabL_cons okd21 tabL_nil)) (k18 F20 F21 )
abbrev T9 : Type 1 := (β : Type) → List V → List UInt8 → List UInt8 → Int → Int → List UInt8 → Int → Bool → List UInt8 → (List V → Bool → Option β) → Option β
def F9 : T9 := putK F16 F17 F18
abbrev s9 : List (Bool × List CK) := [(false, [.sl 2 false]), (true, [.str, .str]), (true, [.int .i64, .int .i64, .str, .int .i64, .bool, .str])]
def G9 (F : T9) (β : Type) (e : (List V × Unit) × (List UInt8 × List UInt8 × Unit) × (Int × Int × List UInt8 × Int × Bool × List UInt8 × Unit) × Unit) (k : V → Option β) : Option β := let a2_0 := e.2.2.1; let a2_1 := a2_0.2; let a2_2 := a2_1.2; let a2_3 := a2_2.2; let a2_4 := a2_3.2; let a2_5 := a2_4.2; F β e.1.1 e.2.1.1 e.2.1.2.1 a2_0.1 a2_1.1 a2_2.1 a2_3.1 a2_4.1 a2_5.1 (fun y1 y2 => k (.tup [.own 0 2 .clean y1, .bool y2]))
abbrev W9 (F : T9) : WT := wrap s9 (G9 F)
theorem ok9 : FnOk D 9 (W9 F9) := ok_put (fun _ => rfl) okd16 okd17 okd18
abbrev T4 : Type 1 := (β : Type) → (List V → Option β) → Option β
def P4 (F9 : T9) : T4 := fun β  k =>
 whileK (fun s1 =>
 br (decide ((lI s1 4) < ((lL s1 1).length : Int))) (
 chk (0 ≤ (lI s1 4) ∧ (lI s1 4).toNat < (lL s1 2).length) <|
 idxAt [.int .i64] (lL s1 2) ((lI s1 4).toNat) 0 fun (e2 : Int × Unit) =>
 chk (0 ≤ (lI s1 4) ∧ (lI s1 4).toNat < (lL s1 3).length) <|
 idxAt [.str] (lL s1 3) ((lI s1 4).toNat) 0 fun (e3 : List UInt8 × Unit) =>
 br ((lI s1 4) == 1) (
 chk (0 ≤ (lI s1 4) ∧ (lI s1 4).toNat < (lL s1 1).length) <|
 idxAt [.str, .str] (lL s1 1) ((lI s1 4).toNat) 0 fun (e4 : List UInt8 × List UInt8 × Unit) =>
 F9 _ (lL s1 0) e4.1 e4.2.1 200 e2.1 e3.1 10 ((lI s1 4) == 7) [115, 99, 114, 105, 112, 116, 32, 104, 111, 109, 101, 59, 115, 116, 121, 108, 101, 32, 104, 111, 109, 101, 59, 105, 109, 103, 32, 104, 111, 109, 101] fun l5 b6 =>
 some (.inl [.l l5, .l (lL s1 1), .l (lL s1 2), .l (lL s1 3), .i (IntKind.wrap .i64 ((lI s1 4) + 1))])) (
 chk (0 ≤ (lI s1 4) ∧ (lI s1 4).toNat < (lL s1 1).length) <|
 idxAt [.str, .str] (lL s1 1) ((lI s1 4).toNat) 0 fun (e7 : List UInt8 × List UInt8 × Unit) =>
 F9 _ (lL s1 0) e7.1 e7.2.1 200 e2.1 e3.1 10 ((lI s1 4) == 7) [] fun l8 b9 =>
 some (.inl [.l l8, .l (lL s1 1), .l (lL s1 2), .l (lL s1 3), .i (IntKind.wrap .i64 ((lI s1 4) + 1))]))) (
 some (.inr (0, [.l (lL s1 0)])))) [.l [], .l [.agg [.str [104, 111, 109, 101], .str [105, 110, 100, 101, 120]], .agg [.str [104, 111, 109, 101], .str [110, 101, 120, 116]], .agg [.str [104, 111, 109, 101], .str [97, 112, 112]], .agg [.str [104, 111, 109, 101], .str [115, 116, 121, 108, 101]], .agg [.str [104, 111, 109, 101], .str [108, 111, 103, 111]], .agg [.str [104, 111, 109, 101], .str [117, 116, 105, 108]], .agg [.str [99, 100, 110], .str [108, 105, 98]], .agg [.str [99, 100, 110], .str [109, 111, 100]], .agg [.str [101, 118, 105, 108], .str [97, 112, 112]]], .l [.int .i64 1, .int .i64 1, .int .i64 2, .int .i64 3, .int .i64 4, .int .i64 5, .int .i64 2, .int .i64 5, .int .i64 2], .l [.str [60, 108, 105, 110, 107, 32, 104, 114, 101, 102, 61, 115, 116, 121, 108, 101, 62, 60, 112, 62, 97, 60, 47, 112, 62, 60, 115, 99, 114, 105, 112, 116, 32, 115, 114, 99, 61, 97, 112, 112, 62, 60, 47, 115, 99, 114, 105, 112, 116, 62, 60, 105, 109, 103, 32, 115, 114, 99, 61, 108, 111, 103, 111, 62, 60, 115, 99, 114, 105, 112, 116, 32, 115, 114, 99, 61, 99, 100, 110, 47, 108, 105, 98, 32, 107, 105, 110, 100, 61, 100, 101, 102, 101, 114, 62, 60, 47, 115, 99, 114, 105, 112, 116, 62, 60, 115, 99, 114, 105, 112, 116, 32, 115, 114, 99, 61, 117, 116, 105, 108, 32, 107, 105, 110, 100, 61, 109, 111, 100, 117, 108, 101, 62, 60, 47, 115, 99, 114, 105, 112, 116, 62], .str [60, 112, 62, 110, 60, 47, 112, 62, 60, 115, 99, 114, 105, 112, 116, 32, 115, 114, 99, 61, 99, 100, 110, 47, 108, 105, 98, 62, 60, 47, 115, 99, 114, 105, 112, 116, 62, 60, 115, 99, 114, 105, 112, 116, 62, 99, 111, 117, 110, 116, 32, 112, 60, 47, 115, 99, 114, 105, 112, 116, 62], .str [108, 111, 111, 107, 32, 112, 59, 119, 114, 105, 116, 101, 32, 91, 98, 93, 120, 91, 47, 98, 93], .str [112, 58, 55], .str [100, 111, 116, 115], .str [105, 109, 112, 111, 114, 116, 32, 99, 100, 110, 47, 109, 111, 100, 59, 115, 97, 121, 32, 117, 116, 105, 108], .str [115, 97, 121, 32, 108, 105, 98], .str [115, 97, 121, 32, 109, 111, 100], .str [115, 97, 121, 32, 101, 118, 105, 108]], .i 0] fun (r10 : Nat × List Leaf) =>
 k (lL r10.2 0)
def F4 : T4 := P4 F9
def X4 : Exits := fun i => lookN i [] [(6, [(.exit 0, xk 51 [(1, .own 1000000 2 .clean [])] [])])]
abbrev s4 : List (Bool × List CK) := []
def G4 (F : T4) (β : Type) (e : Unit) (k : V → Option β) : Option β := F β  (fun y1 => k (.own 0 2 .clean y1))
abbrev W4 (F : T4) : WT := wrap s4 (G4 F)
theorem k4 (F9 : T9) (β : Type) (e : argsT s4) (k : V → Option β) : fnK cfg (tabL [(9, W9 F9)]) X4 4 Try.f4 β (argsEnc s4 e) k = G4 (P4 F9 ) β e k := by kernel_rfl
theorem ok4 : FnOk D 4 (W4 F4) := fn_okW [(9, W9 F9)] X4 (fun _ => rfl) Try.func4 rfl (tabL_cons ok9 tabL_nil) (k4 F9 )
abbrev T10 : Type 1 := (β : Type) → List UInt8 → Int → List UInt8 → (List UInt8 → Int → Int → List UInt8 → Int → Bool → List UInt8 → Option β) → Option β
def P10 : T10 := fun β path kind body k =>
 k path 200 kind body 10 false []
def F10 : T10 := P10
abbrev s10 : List (Bool × List CK) := [(false, [.str]), (false, [.int .i64]), (false, [.str])]
def G10 (F : T10) (β : Type) (e : (List UInt8 × Unit) × (Int × Unit) × (List UInt8 × Unit) × Unit) (k : V → Option β) : Option β := F β e.1.1 e.2.1.1 e.2.2.1.1 (fun y1 y2 y3 y4 y5 y6 y7 => k (.agg [.str y1, .int .i64 y2, .int .i64 y3, .str y4, .int .i64 y5, .bool y6, .str y7]))
abbrev W10 (F : T10) : WT := wrap s10 (G10 F)
theorem k10 (β : Type) (e : argsT s10) (k : V → Option β) : fnK cfg (tabL []) noX 10 Try.f10 β (argsEnc s10 e) k = G10 (P10 ) β e k := by kernel_rfl
theorem ok10 : FnOk D 10 (W10 F10) := fn_okW [] noX (fun _ => rfl) Try.func10 rfl (tabL_nil) (k10 )
abbrev T5 : Type 1 := (β : Type) → (List V → Option β) → Option β
def P5 (F10 : T10) : T5 := fun β  k =>
 F10 _ [110, 101, 120, 116] 1 [60, 112, 62, 110, 60, 47, 112, 62, 60, 115, 99, 114, 105, 112, 116, 32, 115, 114, 99, 61, 99, 100, 110, 47, 108, 105, 98, 62, 60, 47, 115, 99, 114, 105, 112, 116, 62, 60, 115, 99, 114, 105, 112, 116, 62, 99, 111, 117, 110, 116, 32, 112, 60, 47, 115, 99, 114, 105, 112, 116, 62] fun t1 n2 n3 t4 n5 b6 t7 =>
 F10 _ [109, 111, 100] 5 [115, 97, 121, 32, 109, 111, 100] fun t8 n9 n10 t11 n12 b13 t14 =>
 F10 _ [105, 110, 100, 101, 120] 1 [60, 108, 105, 110, 107, 32, 104, 114, 101, 102, 61, 115, 116, 121, 108, 101, 62, 60, 112, 62, 97, 60, 47, 112, 62, 60, 115, 99, 114, 105, 112, 116, 32, 115, 114, 99, 61, 97, 112, 112, 62, 60, 47, 115, 99, 114, 105, 112, 116, 62, 60, 105, 109, 103, 32, 115, 114, 99, 61, 108, 111, 103, 111, 62, 60, 115, 99, 114, 105, 112, 116, 32, 115, 114, 99, 61, 99, 100, 110, 47, 108, 105, 98, 32, 107, 105, 110, 100, 61, 100, 101, 102, 101, 114, 62, 60, 47, 115, 99, 114, 105, 112, 116, 62, 60, 115, 99, 114, 105, 112, 116, 32, 115, 114, 99, 61, 117, 116, 105, 108, 32, 107, 105, 110, 100, 61, 109, 111, 100, 117, 108, 101, 62, 60, 47, 115, 99, 114, 105, 112, 116, 62] fun t15 n16 n17 t18 n19 b20 t21 =>
 F10 _ [97, 112, 112] 2 [108, 111, 111, 107, 32, 112, 59, 119, 114, 105, 116, 101, 32, 91, 98, 93, 120, 91, 47, 98, 93] fun t22 n23 n24 t25 n26 b27 t28 =>
 F10 _ [115, 116, 121, 108, 101] 3 [112, 58, 55] fun t29 n30 n31 t32 n33 b34 t35 =>
 F10 _ [108, 111, 103, 111] 4 [100, 111, 116, 115] fun t36 n37 n38 t39 n40 b41 t42 =>
 F10 _ [117, 116, 105, 108] 5 [105, 109, 112, 111, 114, 116, 32, 99, 100, 110, 47, 109, 111, 100, 59, 115, 97, 121, 32, 117, 116, 105, 108] fun t43 n44 n45 t46 n47 b48 t49 =>
 F10 _ [108, 105, 98] 2 [115, 97, 121, 32, 108, 105, 98] fun t50 n51 n52 t53 n54 b55 t56 =>
 F10 _ [97, 112, 112] 2 [115, 97, 121, 32, 101, 118, 105, 108] fun t57 n58 n59 t60 n61 b62 t63 =>
 k [.agg [.str [104, 111, 109, 101], .sl 7 true [.agg [.str t15, .int .i64 n16, .int .i64 n17, .str t18, .int .i64 n19, .bool b20, .str t21], .agg [.str t1, .int .i64 n2, .int .i64 n3, .str t4, .int .i64 n5, .bool b6, .str [115, 99, 114, 105, 112, 116, 32, 104, 111, 109, 101, 59, 115, 116, 121, 108, 101, 32, 104, 111, 109, 101, 59, 105, 109, 103, 32, 104, 111, 109, 101]], .agg [.str t22, .int .i64 n23, .int .i64 n24, .str t25, .int .i64 n26, .bool b27, .str t28], .agg [.str t29, .int .i64 n30, .int .i64 n31, .str t32, .int .i64 n33, .bool b34, .str t35], .agg [.str t36, .int .i64 n37, .int .i64 n38, .str t39, .int .i64 n40, .bool b41, .str t42], .agg [.str t43, .int .i64 n44, .int .i64 n45, .str t46, .int .i64 n47, .bool b48, .str t49]]], .agg [.str [99, 100, 110], .sl 7 true [.agg [.str t50, .int .i64 n51, .int .i64 n52, .str t53, .int .i64 n54, .bool b55, .str t56], .agg [.str t8, .int .i64 n9, .int .i64 n10, .str t11, .int .i64 n12, .bool true, .str t14]]], .agg [.str [101, 118, 105, 108], .sl 7 true [.agg [.str t57, .int .i64 n58, .int .i64 n59, .str t60, .int .i64 n61, .bool b62, .str t63]]]]
def F5 : T5 := P5 F10
abbrev s5 : List (Bool × List CK) := []
def G5 (F : T5) (β : Type) (e : Unit) (k : V → Option β) : Option β := F β  (fun y1 => k (.own 0 2 .clean y1))
abbrev W5 (F : T5) : WT := wrap s5 (G5 F)
theorem k5 (F10 : T10) (β : Type) (e : argsT s5) (k : V → Option β) : fnK cfg (tabL [(10, W10 F10)]) noX 5 Try.f5 β (argsEnc s5 e) k = G5 (P5 F10 ) β e k := by kernel_rfl
theorem ok5 : FnOk D 5 (W5 F5) := fn_okW [(10, W10 F10)] noX (fun _ => rfl) Try.func5 rfl (tabL_cons ok10 tabL_nil) (k5 F10 )
abbrev T12 : Type 1 := (β : Type) → Int → (List UInt8 → Option β) → Option β
def P12 : T12 := fun β xk k =>
 br (decide (xk ≤ 0)) (
 k [109, 48]) (
 whileK (fun s1 =>
 br (decide ((lI s1 0) > 0)) (
 strO [.int .u8 (IntKind.wrap .u8 (IntKind.wrap .i64 (48 + (Int.tmod (lI s1 0) 10))))] fun t2 =>
 chk (t2.length + (lS s1 1).length ≤ 9223372036854775807) <|
 some (.inl [.i (IntKind.wrap .i64 (Int.tdiv (lI s1 0) 10)), .s (t2 ++ (lS s1 1))])) (
 some (.inr (0, [.s (lS s1 1)])))) [.i xk, .s []] fun (r3 : Nat × List Leaf) =>
 chk (([109] : List UInt8).length + (lS r3.2 0).length ≤ 9223372036854775807) <|
 k ([109] ++ (lS r3.2 0)))
def F12 : T12 := P12
def X12 : Exits := fun i => lookN i [] [(4, [(.exit 0, xk 20 [(3, .str [])] [])])]
abbrev s12 : List (Bool × List CK) := [(false, [.int .i64])]
def G12 (F : T12) (β : Type) (e : (Int × Unit) × Unit) (k : V → Option β) : Option β := F β e.1.1 (fun y1 => k (.str y1))
abbrev W12 (F : T12) : WT := wrap s12 (G12 F)
theorem k12 (β : Type) (e : argsT s12) (k : V → Option β) : fnK cfg (tabL []) X12 12 Try.f12 β (argsEnc s12 e) k = G12 (P12 ) β e k := by kernel_rfl
theorem ok12 : FnOk D 12 (W12 F12) := fn_okW [] X12 (fun _ => rfl) Try.func12 rfl (tabL_nil) (k12 )
end
end Go.Am
end

/-
  Whether a response is sound, where its policy is cut by strings.Split and written again by another function: what the machine answers for it.
-/
import Derived.Test.YtbpoaadkjjfmgaaGreatDoorAmExt5
import Derived.Lib.Strings
set_option linter.unusedVariables false
set_option linter.unusedSimpArgs false
namespace Go.Am
open Go Go.RowKit
section
variable {P : Program} {c : Cfg}
theorem splitC_le (c : UInt8) : ∀ (s : List UInt8), ∀ p ∈ splitC c s, p.length ≤ s.length := by
 intro s
 induction s with
 | nil => intro p hp; simp [splitC] at hp; subst hp; exact Nat.le_refl _
 | cons b l ih =>
  intro p hp
  unfold splitC at hp
  split at hp
  ·rcases List.mem_cons.1 hp with rfl | hp
   ·simp
   ·exact Nat.le_succ_of_le (ih p hp)
  ·split at hp
   ·rename_i p0 ps hh
    rcases List.mem_cons.1 hp with rfl | hp
    ·have := ih p0 (by rw [hh]; simp)
     simp only [List.length_cons]
     omega
    ·exact Nat.le_succ_of_le (ih p (by rw [hh]; exact List.mem_cons_of_mem _ hp))
   ·simp at hp
    subst hp
    simp
def nonceW : List UInt8 := [110, 111, 110, 99, 101, 32]
def nonceOf : List (List UInt8) → List UInt8
 | [] => []
 | a :: _ => Lib.trimPrefix a nonceW
def polV (a0 a1 a2 : List UInt8) (rest : List (List UInt8)) : V := .agg [.bool true, .sl 1 true (rStr (splitC 32 a0).tail), .sl 1 true (rStr (splitC 32 a1).tail), .sl 1 true (rStr (splitC 32 a2).tail), .str (nonceOf rest)]
def polOk (d d2 : List V → Option V) (s : List UInt8) : Option Bool :=
 if s = [] then some true else match splitC 59 s with
  | a0 :: a1 :: a2 :: rest => match d [polV a0 a1 a2 rest], d2 [polV a0 a1 a2 rest] with
   | some (.str f), some (.agg [.bool _, .own _ _ _ _, .own _ _ _ _, .own _ _ _ _, .str _]) => some (f == s)
   | _, _ => none
  | _ => some false
def respB (ok : Bool) (st kd : Int) (bl : Nat) (age : Int) : Bool := ok && (decide (100 ≤ st) && decide (st ≤ 599)) && (decide (1 ≤ kd) && decide (kd ≤ 5)) && decide ((bl : Int) ≤ 400) && (decide (0 ≤ age) && decide (age ≤ 1000))
def respV (d d2 : List V → Option V) : List V → Option V
 | [.agg [.int .i64 st, .int .i64 kd, .str body, .int .i64 age, .bool sh, .str pol]] => if pol.length < 4294967281 then (polOk d d2 pol).map fun ok => .bool (respB ok st kd body.length age) else none
 | _ => none
def polK (Fp : (β : Type) → Bool → List V → List V → List V → List UInt8 → (List UInt8 → Option β) → Option β) (Cp : (β : Type) → Bool → List V → List V → List V → List UInt8 → (Bool → List V → List V → List V → List UInt8 → Option β) → Option β) : (β : Type) → List UInt8 → (Bool → Option β) → Option β := fun β s k =>
 if s = [] then k true else match splitC 59 s with
  | a0 :: a1 :: a2 :: rest => Fp β true (rStr (splitC 32 a0).tail) (rStr (splitC 32 a1).tail) (rStr (splitC 32 a2).tail) (nonceOf rest) (fun f => Cp β true (rStr (splitC 32 a0).tail) (rStr (splitC 32 a1).tail) (rStr (splitC 32 a2).tail) (nonceOf rest) (fun _ _ _ _ _ => k (f == s)))
  | _ => k false
def respK (Fp : (β : Type) → Bool → List V → List V → List V → List UInt8 → (List UInt8 → Option β) → Option β) (Cp : (β : Type) → Bool → List V → List V → List V → List UInt8 → (Bool → List V → List V → List V → List UInt8 → Option β) → Option β) : (β : Type) → Int → Int → List UInt8 → Int → Bool → List UInt8 → (Bool → Option β) → Option β := fun β st kd body age sh pol k =>
 chk (pol.length < 4294967281) (polK Fp Cp β pol (fun ok => k (respB ok st kd body.length age)))
theorem resp_key {d1 : Nat → List V → Option V} {g g2 : Nat} {Fp : (β : Type) → Bool → List V → List V → List V → List UInt8 → (List UInt8 → Option β) → Option β} {Cp : (β : Type) → Bool → List V → List V → List V → List UInt8 → (Bool → List V → List V → List V → List UInt8 → Option β) → Option β}
  (hd : FnOk d1 g (wrap [(true, [.bool, .sl 1 true, .sl 1 true, .sl 1 true, .str])] (fun β e k => Fp β e.1.1 e.1.2.1 e.1.2.2.1 e.1.2.2.2.1 e.1.2.2.2.2.1 (fun y => k (.str y)))))
  (hd2 : FnOk d1 g2 (wrap [(true, [.bool, .sl 1 true, .sl 1 true, .sl 1 true, .str])] (fun β e k => Cp β e.1.1 e.1.2.1 e.1.2.2.1 e.1.2.2.2.1 e.1.2.2.2.2.1 (fun y1 y2 y3 y4 y5 => k (.agg [.bool y1, .own 1 1 .flat y2, .own 2 1 .flat y3, .own 3 1 .flat y4, .str y5]))))) {β : Type} {K : Bool → Option β} {pol : List UInt8} {r : β} (h2 : polK Fp Cp β pol K = some r) :
  ∃ ok, polOk (d1 g) (d1 g2) pol = some ok ∧ K ok = some r := by
 unfold polK at h2
 unfold polOk
 by_cases h0 : pol = []
 ·rw [if_pos h0] at h2 ⊢
  exact ⟨true, rfl, h2⟩
 ·rw [if_neg h0] at h2 ⊢
  split at h2
  ·rename_i a0 a1 a2 rest hs
   obtain ⟨v, hv, hk⟩ := hd β [polV a0 a1 a2 rest] (fun v => match v with
    | .str f => Cp β true (rStr (splitC 32 a0).tail) (rStr (splitC 32 a1).tail) (rStr (splitC 32 a2).tail) (nonceOf rest) (fun _ _ _ _ _ => K (f == pol))
    | _ => none) r h2
   split at hk
   ·rename_i f
    obtain ⟨v, hv2, hk⟩ := hd2 β [polV a0 a1 a2 rest] (fun v => match v with
     | .agg [.bool _, .own _ _ _ _, .own _ _ _ _, .own _ _ _ _, .str _] => K (f == pol)
     | _ => none) r hk
    split at hk
    ·refine ⟨f == pol, ?_, hk⟩
     rw [hv, hv2]
    ·cases hk
   ·cases hk
  ·rename_i hs
   exact ⟨false, rfl, h2⟩
theorem respK_inv {Fp : (β : Type) → Bool → List V → List V → List V → List UInt8 → (List UInt8 → Option β) → Option β} {Cp : (β : Type) → Bool → List V → List V → List V → List UInt8 → (Bool → List V → List V → List V → List UInt8 → Option β) → Option β} {β : Type} {st kd : Int} {body : List UInt8} {age : Int} {sh : Bool} {pol : List UInt8} {k : Bool → Option β} {r : β} (h : respK Fp Cp β st kd body age sh pol k = some r) :
  pol.length < 4294967281 ∧ polK Fp Cp β pol (fun ok => k (respB ok st kd body.length age)) = some r := chk_some h
theorem respV_of {d d2 : List V → Option V} {st kd age : Int} {body pol : List UInt8} {sh ok : Bool} (h1 : pol.length < 4294967281) (h2 : polOk d d2 pol = some ok) : respV d d2 [.agg [.int .i64 st, .int .i64 kd, .str body, .int .i64 age, .bool sh, .str pol]] = some (.bool (respB ok st kd body.length age)) := by
 simp only [respV]
 rw [if_pos h1, h2]
 rfl
theorem ok_resp {ext d1 : Nat → List V → Option V} {f g g2 : Nat} {Fp : (β : Type) → Bool → List V → List V → List V → List UInt8 → (List UInt8 → Option β) → Option β} {Cp : (β : Type) → Bool → List V → List V → List V → List UInt8 → (Bool → List V → List V → List V → List UInt8 → Option β) → Option β} (hE : ∀ args, ext f args = respV (d1 g) (d1 g2) args)
  (hd : FnOk d1 g (wrap [(true, [.bool, .sl 1 true, .sl 1 true, .sl 1 true, .str])] (fun β e k => Fp β e.1.1 e.1.2.1 e.1.2.2.1 e.1.2.2.2.1 e.1.2.2.2.2.1 (fun y => k (.str y)))))
  (hd2 : FnOk d1 g2 (wrap [(true, [.bool, .sl 1 true, .sl 1 true, .sl 1 true, .str])] (fun β e k => Cp β e.1.1 e.1.2.1 e.1.2.2.1 e.1.2.2.2.1 e.1.2.2.2.2.1 (fun y1 y2 y3 y4 y5 => k (.agg [.bool y1, .own 1 1 .flat y2, .own 2 1 .flat y3, .own 3 1 .flat y4, .str y5]))))) :
  FnOk (den P c ext) f (wrap [(true, [.int .i64, .int .i64, .str, .int .i64, .bool, .str])] (fun β e k => respK Fp Cp β e.1.1 e.1.2.1 e.1.2.2.1 e.1.2.2.2.1 e.1.2.2.2.2.1 e.1.2.2.2.2.2.1 (fun y => k (.bool y)))) := by
 refine ext_okW hE (fun β x k r hr => ?_)
 obtain ⟨⟨st, kd, body, age, sh, pol, _⟩, _⟩ := x
 obtain ⟨h1, h2⟩ := respK_inv hr
 obtain ⟨ok, h3, h4⟩ := resp_key hd hd2 h2
 exact ⟨_, respV_of h1 h3, h4⟩
def polE {γ : Type} (fmt : List (List UInt8) → List (List UInt8) → List (List UInt8) → List UInt8 → Option (List UInt8)) (cpy : List (List UInt8) → List (List UInt8) → List (List UInt8) → List UInt8 → Option γ) (s : List UInt8) : Option Bool :=
 if s = [] then some true else match splitC 59 s with
  | a0 :: a1 :: a2 :: rest => (fmt (splitC 32 a0).tail (splitC 32 a1).tail (splitC 32 a2).tail (nonceOf rest)).bind fun f => (cpy (splitC 32 a0).tail (splitC 32 a1).tail (splitC 32 a2).tail (nonceOf rest)).bind fun _ => some (f == s)
  | _ => some false
def respE {γ : Type} (fmt : List (List UInt8) → List (List UInt8) → List (List UInt8) → List UInt8 → Option (List UInt8)) (cpy : List (List UInt8) → List (List UInt8) → List (List UInt8) → List UInt8 → Option γ) (st kd : Int) (body : List UInt8) (age : Int) (pol : List UInt8) : Option Bool :=
 chk (pol.length < 4294967281) ((polE fmt cpy pol).bind fun ok => some (respB ok st kd body.length age))
theorem ei_respE {Fp : (β : Type) → Bool → List V → List V → List V → List UInt8 → (List UInt8 → Option β) → Option β} {Cp : (β : Type) → Bool → List V → List V → List V → List UInt8 → (Bool → List V → List V → List V → List UInt8 → Option β) → Option β} {γ : Type} {fmt : List (List UInt8) → List (List UInt8) → List (List UInt8) → List UInt8 → Option (List UInt8)} {cpy : List (List UInt8) → List (List UInt8) → List (List UInt8) → List UInt8 → Option γ}
  (hF : ∀ (β : Type) a b e n (k : List UInt8 → Option β), Imp (Fp β true (rStr a) (rStr b) (rStr e) n k) (fmt a b e n) (fun r => k r))
  (hC : ∀ (β : Type) a b e n (k : Option β), Imp (Cp β true (rStr a) (rStr b) (rStr e) n (fun _ _ _ _ _ => k)) (cpy a b e n) (fun _ => k)) {β : Type} (st kd : Int) (body : List UInt8) (age : Int) (sh : Bool) (pol : List UInt8) (k : Bool → Option β) :
  Imp (respK Fp Cp β st kd body age sh pol k) (respE fmt cpy st kd body age pol) (fun r => k r) := by
 unfold respK respE
 refine Imp.chk rfl (fun _ => ?_)
 intro r hr
 obtain ⟨ok, h1, h2⟩ := bind_inv hr
 injection h2 with h2
 subst h2
 unfold polE at h1
 unfold polK
 by_cases h0 : pol = []
 ·rw [if_pos h0] at h1 ⊢
  injection h1 with h1
  rw [← h1]
 ·rw [if_neg h0] at h1 ⊢
  split at h1
  ·rename_i a0 a1 a2 rest hs
   obtain ⟨f, hf, h1⟩ := bind_inv h1
   obtain ⟨g, hg, h1⟩ := bind_inv h1
   injection h1 with h1
   subst h1
   rw [hF β _ _ _ _ _ f hf]
   exact hC β _ _ _ _ _ g hg
  ·rename_i hs
   injection h1 with h1
   subst h1
   rfl
end
end Go.Am

/-
  DERIVED: THE SHELF's CONTRACTS AT THIS DUMP, IN PLAIN WORDS (tools/lay-plain.mjs out of 'YtgfiinkdogbelaaDel.lean', which tools/lay-shelf.mjs wrote): THE SAME DECLARATIONS UNDER THE SAME NAMES: 'import', 'namespace', 'open', 'def', 'theorem' AND NOTHING ELSE: no command of the shelf's: FOR A HAND-IN. Each laying: the table of numbers ('.._ren') and one theorem, a field a fact of the dump's own or the kernel's comparison; each contract: ONE APPLICATION.
-/
import Derived.Test.YtgfiinkdogbelaatAmCfg
import Derived.Test.YtgfiinkdogbelaatFa
import Derived.Test.YtgfiinkdogbelaatTa
import Derived.Test.YtgfiinkdogbelaatAmSize
import Derived.Shelf.SlLaysH
import Derived.Ground.SlgfProg
import Derived.Test.YtgfiinkdogbelaaProg
section
set_option maxRecDepth 10000
set_option linter.unusedVariables false
namespace Go.Am
open Go Go.Proofs
variable {β : Type}
noncomputable def sSentTo (n : TNet) (host : List UInt8) : Option (List TSent) :=
 (forE n.xLog (fun (i_1 : Nat) (x_1 : TSent) (s1 : List TSent) => (
 br (x_1.xTo.xHost == host) (
 chk ((s1.length + 1) * 56 ≤ 140737488355328 ∧ s1.length + 1 ≤ 140737488355328) <|
 some (.inl (s1 ++ [x_1]))
 ) (
 some (.inl s1)
 )
 : Option ((List TSent) ⊕ (List TSent)))) (fun (s1 : List TSent) => (s1 : List TSent)) ([] : List TSent)).bind <|
 fun (r4 : List TSent) =>
 some r4
theorem ei_sSentTo (n : TNet) (host : List UInt8) (k : List V → Option β) : Imp (F33 β (rows kServer TServer.row n.xServers) (rows kEntry TEntry.row n.xCache.xEntries) (rows kSent TSent.row n.xLog) n.xNow host k) (sSentTo n host) (fun r => k (rows kSent TSent.row r)) := by
 delta F33 P33 sSentTo
 refine Imp.for (enc := fun (i_1 : Nat) (s1 : List TSent) => [.s host, .l (rows kSent TSent.row s1), .i (i_1 : Int), .l (rows kServer TServer.row n.xServers), .l (rows kEntry TEntry.row n.xCache.xEntries), .l (rows kSent TSent.row n.xLog), .i n.xNow]) (encR := fun (u : List TSent) => (((0, [.l (rows kSent TSent.row u)]) : Nat × List Leaf))) rfl (fun i_1 x_1 s1 hx1 hl1 hm1 => Imp.brT (T_lt (ks := kSent) (g := TSent.row) hl1) ?_) (fun s1 => brN (T_irr (ks := kSent) (g := TSent.row) n.xLog) rfl) (fun r4 => ?_)
 ·refine Imp.idxFor (ks := kSent) (g := TSent.row) hx1 ?_
  refine Imp.br rfl ?_ ?_
  ·refine Imp.idxFor (ks := kSent) (g := TSent.row) hx1 ?_
   refine Imp.chk (c2 (fun z0 z1 : Nat => (z0 + 1) * 56 ≤ 140737488355328 ∧ z1 + 1 ≤ 140737488355328) (T_len (ks := kSent) (g := TSent.row) s1) (T_len (ks := kSent) (g := TSent.row) s1)) (fun _ => ?_)
   exact Imp.ret (c2 (fun (h1 : List V) (h2 : Int) => (some (Sum.inl [.s host, .l h1, .i h2, .l (rows kServer TServer.row n.xServers), .l (rows kEntry TEntry.row n.xCache.xEntries), .l (rows kSent TSent.row n.xLog), .i n.xNow]) : Option (List Leaf ⊕ (Nat × List Leaf)))) (T_app (ks := kSent) (g := TSent.row) s1 [x_1]) (wrapJ hl1))
  ·exact Imp.ret (c1 (fun (h1 : Int) => (some (Sum.inl [.s host, .l (rows kSent TSent.row s1), .i h1, .l (rows kServer TServer.row n.xServers), .l (rows kEntry TEntry.row n.xCache.xEntries), .l (rows kSent TSent.row n.xLog), .i n.xNow]) : Option (List Leaf ⊕ (Nat × List Leaf)))) (wrapJ hl1))
 ·exact Imp.ret rfl
noncomputable def sl9Has (l : List (List UInt8)) (s : List UInt8) : Option Bool :=
 (forE l (fun (i_1 : Nat) (x_1 : List UInt8) (s1 : Unit) => (
 br (x_1 == s) (
 some (.inr (.inl ()))
 ) (
 some (.inl ())
 )
 : Option (Unit ⊕ (Unit ⊕ Unit)))) (fun (s1 : Unit) => (.inr () : Unit ⊕ Unit)) (() : Unit)).bind <|
 Sum.elim
 (fun (r3 : Unit) =>
 some true
 )
 (fun (r3 : Unit) =>
 some false
 )
theorem ei_sl9Has (l : List (List UInt8)) (s : List UInt8) (k : Bool → Option β) : Imp (F34 β (rStr l) s k) (sl9Has l s) (fun r => k r) := by
 delta F34 P34 sl9Has
 refine Imp.for (enc := fun (i_1 : Nat) (s1 : Unit) => [.l (rStr l), .s s, .i (i_1 : Int)]) (encR := Sum.elim (fun (u : Unit) => (((0, [.b true]) : Nat × List Leaf))) (fun (u : Unit) => (((1, []) : Nat × List Leaf)))) rfl (fun i_1 x_1 s1 hx1 hl1 hm1 => Imp.brT (U_lt (T := List UInt8) (kd := .str) (g1 := fun e => e) hl1) ?_) (fun s1 => brN (U_irr (T := List UInt8) (kd := .str) (g1 := fun e => e) l) rfl) (fun r3 => ?_)
 ·refine Imp.idxFor1 (kd := .str) (g1 := fun e => e) hx1 ?_
  refine Imp.br rfl ?_ ?_
  ·exact Imp.ret rfl
  ·exact Imp.ret (c1 (fun (h1 : Int) => (some (Sum.inl [.l (rStr l), .s s, .i h1]) : Option (List Leaf ⊕ (Nat × List Leaf)))) (wrapJ hl1))
 ·cases r3 with
  | inl r3 =>
   refine Imp.ifT rfl ?_
   exact Imp.ret rfl
  | inr r3 =>
   refine Imp.ifF (show ¬ ((1 : Nat) = 0) by decide) ?_
   exact Imp.ret rfl
noncomputable def sTopsOf (n : TNet) (host : List UInt8) : Option (List (List UInt8)) :=
 (sSentTo n host).bind fun (r1 : List TSent) =>
 (forE r1 (fun (i_2 : Nat) (x_2 : TSent) (s2 : List (List UInt8)) => (
 (sl9Has s2 x_2.xTop).bind fun (r4 : Bool) =>
 br (!r4) (
 chk ((s2.length + 1) * 16 ≤ 140737488355328 ∧ s2.length + 1 ≤ 140737488355328) <|
 some (.inl (s2 ++ [x_2.xTop]))
 ) (
 some (.inl s2)
 )
 : Option ((List (List UInt8)) ⊕ (List (List UInt8))))) (fun (s2 : List (List UInt8)) => (s2 : List (List UInt8))) ([] : List (List UInt8))).bind <|
 fun (r6 : List (List UInt8)) =>
 some r6
theorem ei_sTopsOf (n : TNet) (host : List UInt8) (k : List V → Option β) : Imp (F16 β (rows kServer TServer.row n.xServers) (rows kEntry TEntry.row n.xCache.xEntries) (rows kSent TSent.row n.xLog) n.xNow host k) (sTopsOf n host) (fun r => k (rStr r)) := by
 delta F16 P16 sTopsOf
 refine Imp.call rfl (ei_sSentTo n host _) (fun r1 _ => ?_)
 refine Imp.for (enc := fun (i_2 : Nat) (s2 : List (List UInt8)) => [.l (rStr s2), .l (rows kSent TSent.row r1), .i (i_2 : Int)]) (encR := fun (u : List (List UInt8)) => (((0, [.l (rStr u)]) : Nat × List Leaf))) rfl (fun i_2 x_2 s2 hx2 hl2 hm2 => Imp.brT (T_lt (ks := kSent) (g := TSent.row) hl2) ?_) (fun s2 => brN (T_irr (ks := kSent) (g := TSent.row) r1) rfl) (fun r6 => ?_)
 ·refine Imp.chkE ⟨Int.natCast_nonneg _, Nat.lt_of_lt_of_eq hl2 (T_len (ks := kSent) (g := TSent.row) r1).symm⟩ ?_
  refine Imp.idxAtFor (ks := kSent) (g := TSent.row) hx2 rfl ?_
  refine Imp.call rfl (ei_sl9Has s2 x_2.xTop _) (fun r4 _ => ?_)
  refine Imp.br rfl ?_ ?_
  ·refine Imp.chkE ⟨Int.natCast_nonneg _, Nat.lt_of_lt_of_eq hl2 (T_len (ks := kSent) (g := TSent.row) r1).symm⟩ ?_
   refine Imp.idxAtFor (ks := kSent) (g := TSent.row) hx2 rfl ?_
   refine Imp.chk (c2 (fun z0 z1 : Nat => (z0 + 1) * 16 ≤ 140737488355328 ∧ z1 + 1 ≤ 140737488355328) (U_len (T := List UInt8) (kd := .str) (g1 := fun e => e) s2) (U_len (T := List UInt8) (kd := .str) (g1 := fun e => e) s2)) (fun _ => ?_)
   exact Imp.ret (c2 (fun (h1 : List V) (h2 : Int) => (some (Sum.inl [.l h1, .l (rows kSent TSent.row r1), .i h2]) : Option (List Leaf ⊕ (Nat × List Leaf)))) (U_app (T := List UInt8) (kd := .str) (g1 := fun e => e) s2 [x_2.xTop]) (wrapJ hl2))
  ·exact Imp.ret (c1 (fun (h1 : Int) => (some (Sum.inl [.l (rStr s2), .l (rows kSent TSent.row r1), .i h1]) : Option (List Leaf ⊕ (Nat × List Leaf)))) (wrapJ hl2))
 ·exact Imp.ret rfl
noncomputable def sTopsAround (n : TNet) (host : List UInt8) : Option (List (List UInt8)) :=
 (sTopsOf n host).bind fun (r1 : List (List UInt8)) =>
 (forE r1 (fun (i_2 : Nat) (x_2 : List UInt8) (s2 : List (List UInt8)) => (
 br (x_2 == host) (
 some (.inl s2)
 ) (
 (whileE (fun (s4 : Int) => (
 br (decide (s4 > 0)) (
 chk (0 ≤ IntKind.wrap .i64 (s4 - 1) ∧ (IntKind.wrap .i64 (s4 - 1)).toNat < s2.length) <|
 (getI s2 (IntKind.wrap .i64 (s4 - 1))).bind fun (e6 : List UInt8) =>
 br (less x_2 e6) (
 some (.inl (IntKind.wrap .i64 (s4 - 1)))
 ) (
 some (.inr s4)
 )
 ) (
 some (.inr s4)
 )
 : Option (Int ⊕ Int))) ((s2.length : Int) : Int)).bind <|
 fun (r7 : Int) =>
 chk (0 ≤ (0 : Int) ∧ (0 : Int) ≤ r7 ∧ r7 ≤ (s2.length : Int)) <|
 chk ((0 + ((s2.take (r7.toNat)).drop 0).length) * 16 ≤ 140737488355328 ∧ 0 + ((s2.take (r7.toNat)).drop 0).length ≤ 140737488355328) <|
 chk ((([] ++ ((s2.take (r7.toNat)).drop 0)).length + 1) * 16 ≤ 140737488355328 ∧ ([] ++ ((s2.take (r7.toNat)).drop 0)).length + 1 ≤ 140737488355328) <|
 chk (0 ≤ r7 ∧ r7 ≤ (s2.length : Int) ∧ (s2.length : Int) ≤ (s2.length : Int)) <|
 chk (((([] ++ ((s2.take (r7.toNat)).drop 0)) ++ [x_2]).length + ((s2.take ((s2.length : Int).toNat)).drop (r7.toNat)).length) * 16 ≤ 140737488355328 ∧ (([] ++ ((s2.take (r7.toNat)).drop 0)) ++ [x_2]).length + ((s2.take ((s2.length : Int).toNat)).drop (r7.toNat)).length ≤ 140737488355328) <|
 some (.inl ((([] ++ ((s2.take (r7.toNat)).drop 0)) ++ [x_2]) ++ ((s2.take ((s2.length : Int).toNat)).drop (r7.toNat))))
 )
 : Option ((List (List UInt8)) ⊕ (List (List UInt8))))) (fun (s2 : List (List UInt8)) => (s2 : List (List UInt8))) ([] : List (List UInt8))).bind <|
 fun (r9 : List (List UInt8)) =>
 some r9
theorem ei_sTopsAround (n : TNet) (host : List UInt8) (k : List V → Option β) : Imp (F5 β (rows kServer TServer.row n.xServers) (rows kEntry TEntry.row n.xCache.xEntries) (rows kSent TSent.row n.xLog) n.xNow host k) (sTopsAround n host) (fun r => k (rStr r)) := by
 delta F5 P5 sTopsAround
 refine Imp.call rfl (ei_sTopsOf n host _) (fun r1 _ => ?_)
 refine Imp.for (enc := fun (i_2 : Nat) (s2 : List (List UInt8)) => [.s host, .l (rStr s2), .l (rStr r1), .i (i_2 : Int)]) (encR := fun (u : List (List UInt8)) => (((0, [.l (rStr u)]) : Nat × List Leaf))) rfl (fun i_2 x_2 s2 hx2 hl2 hm2 => Imp.brT (U_lt (T := List UInt8) (kd := .str) (g1 := fun e => e) hl2) ?_) (fun s2 => brN (U_irr (T := List UInt8) (kd := .str) (g1 := fun e => e) r1) rfl) (fun r9 => ?_)
 ·refine Imp.chkE ⟨Int.natCast_nonneg _, Nat.lt_of_lt_of_eq hl2 (U_len (T := List UInt8) (kd := .str) (g1 := fun e => e) r1).symm⟩ ?_
  refine Imp.idxAtFor1 (kd := .str) (g1 := fun e => e) hx2 rfl ?_
  refine Imp.br rfl ?_ ?_
  ·exact Imp.ret (c1 (fun (h1 : Int) => (some (Sum.inl [.s host, .l (rStr s2), .l (rStr r1), .i h1]) : Option (List Leaf ⊕ (Nat × List Leaf)))) (wrapJ hl2))
  ·refine Imp.while (enc := fun (s4 : Int) => [.s host, .l (rStr s2), .l (rStr r1), .i (i_2 : Int), .i s4]) (encR := fun (u : Int) => (((0, [.s host, .l (rStr s2), .l (rStr r1), .i (i_2 : Int), .i u]) : Nat × List Leaf))) (c1 (fun (h1 : Int) => ([.s host, .l (rStr s2), .l (rStr r1), .i (i_2 : Int), .i h1] : List Leaf)) (c1 (fun z0 : Nat => (z0 : Int)) (U_len (T := List UInt8) (kd := .str) (g1 := fun e => e) s2))) (fun s4 => ?_) (fun r7 => ?_)
   ·refine Imp.br rfl ?_ ?_
    ·refine Imp.chkE ⟨Int.natCast_nonneg _, Nat.lt_of_lt_of_eq hl2 (U_len (T := List UInt8) (kd := .str) (g1 := fun e => e) r1).symm⟩ ?_
     refine Imp.idxAtFor1 (kd := .str) (g1 := fun e => e) hx2 rfl ?_
     refine Imp.chk (c1 (fun z0 : Nat => 0 ≤ IntKind.wrap .i64 (s4 - 1) ∧ (IntKind.wrap .i64 (s4 - 1)).toNat < z0) (U_len (T := List UInt8) (kd := .str) (g1 := fun e => e) s2)) (fun _ => ?_)
     refine Imp.idxAt1 (kd := .str) (g1 := fun e => e) rfl rfl (fun e6 => rfl) (fun e6 _ => ?_)
     refine Imp.br rfl ?_ ?_
     ·exact Imp.ret rfl
     ·exact Imp.ret rfl
    ·exact Imp.ret rfl
   ·refine Imp.chk (c1 (fun z0 : Nat => 0 ≤ (0 : Int) ∧ (0 : Int) ≤ r7 ∧ r7 ≤ (z0 : Int)) (U_len (T := List UInt8) (kd := .str) (g1 := fun e => e) s2)) (fun _ => ?_)
    refine Imp.chk (c2 (fun z0 z1 : Nat => (0 + z0) * 16 ≤ 140737488355328 ∧ 0 + z1 ≤ 140737488355328) ((c1 (fun u : List V => u.length) (U_cut (T := List UInt8) (kd := .str) (g1 := fun e => e) s2 (r7.toNat) 0)).trans (U_len (T := List UInt8) (kd := .str) (g1 := fun e => e) ((s2.take (r7.toNat)).drop 0))) ((c1 (fun u : List V => u.length) (U_cut (T := List UInt8) (kd := .str) (g1 := fun e => e) s2 (r7.toNat) 0)).trans (U_len (T := List UInt8) (kd := .str) (g1 := fun e => e) ((s2.take (r7.toNat)).drop 0)))) (fun _ => ?_)
    refine Imp.chkE ⟨Int.natCast_nonneg _, Nat.lt_of_lt_of_eq hl2 (U_len (T := List UInt8) (kd := .str) (g1 := fun e => e) r1).symm⟩ ?_
    refine Imp.idxAtFor1 (kd := .str) (g1 := fun e => e) hx2 rfl ?_
    refine Imp.chk (c2 (fun z0 z1 : Nat => (z0 + 1) * 16 ≤ 140737488355328 ∧ z1 + 1 ≤ 140737488355328) ((c1 (fun u : List V => u.length) ((c2 (fun u v : List V => u ++ v) rfl (U_cut (T := List UInt8) (kd := .str) (g1 := fun e => e) s2 (r7.toNat) 0)).trans (U_app (T := List UInt8) (kd := .str) (g1 := fun e => e) [] ((s2.take (r7.toNat)).drop 0)))).trans (U_len (T := List UInt8) (kd := .str) (g1 := fun e => e) ([] ++ ((s2.take (r7.toNat)).drop 0)))) ((c1 (fun u : List V => u.length) ((c2 (fun u v : List V => u ++ v) rfl (U_cut (T := List UInt8) (kd := .str) (g1 := fun e => e) s2 (r7.toNat) 0)).trans (U_app (T := List UInt8) (kd := .str) (g1 := fun e => e) [] ((s2.take (r7.toNat)).drop 0)))).trans (U_len (T := List UInt8) (kd := .str) (g1 := fun e => e) ([] ++ ((s2.take (r7.toNat)).drop 0))))) (fun _ => ?_)
    refine Imp.chk (c3 (fun z0 z1 z2 : Nat => 0 ≤ r7 ∧ r7 ≤ (z0 : Int) ∧ (z1 : Int) ≤ (z2 : Int)) (U_len (T := List UInt8) (kd := .str) (g1 := fun e => e) s2) (U_len (T := List UInt8) (kd := .str) (g1 := fun e => e) s2) (U_len (T := List UInt8) (kd := .str) (g1 := fun e => e) s2)) (fun _ => ?_)
    refine Imp.chk (c4 (fun z0 z1 z2 z3 : Nat => (z0 + z1) * 16 ≤ 140737488355328 ∧ z2 + z3 ≤ 140737488355328) ((c1 (fun u : List V => u.length) ((c2 (fun u v : List V => u ++ v) ((c2 (fun u v : List V => u ++ v) rfl (U_cut (T := List UInt8) (kd := .str) (g1 := fun e => e) s2 (r7.toNat) 0)).trans (U_app (T := List UInt8) (kd := .str) (g1 := fun e => e) [] ((s2.take (r7.toNat)).drop 0))) rfl).trans (U_app (T := List UInt8) (kd := .str) (g1 := fun e => e) ([] ++ ((s2.take (r7.toNat)).drop 0)) [x_2]))).trans (U_len (T := List UInt8) (kd := .str) (g1 := fun e => e) (([] ++ ((s2.take (r7.toNat)).drop 0)) ++ [x_2]))) ((c1 (fun u : List V => u.length) ((c3 (fun (u : List V) (a b : Nat) => (u.take a).drop b) rfl (c1 (fun z0 : Nat => ((z0 : Int).toNat)) (U_len (T := List UInt8) (kd := .str) (g1 := fun e => e) s2)) rfl).trans (U_cut (T := List UInt8) (kd := .str) (g1 := fun e => e) s2 ((s2.length : Int).toNat) (r7.toNat)))).trans (U_len (T := List UInt8) (kd := .str) (g1 := fun e => e) ((s2.take ((s2.length : Int).toNat)).drop (r7.toNat)))) ((c1 (fun u : List V => u.length) ((c2 (fun u v : List V => u ++ v) ((c2 (fun u v : List V => u ++ v) rfl (U_cut (T := List UInt8) (kd := .str) (g1 := fun e => e) s2 (r7.toNat) 0)).trans (U_app (T := List UInt8) (kd := .str) (g1 := fun e => e) [] ((s2.take (r7.toNat)).drop 0))) rfl).trans (U_app (T := List UInt8) (kd := .str) (g1 := fun e => e) ([] ++ ((s2.take (r7.toNat)).drop 0)) [x_2]))).trans (U_len (T := List UInt8) (kd := .str) (g1 := fun e => e) (([] ++ ((s2.take (r7.toNat)).drop 0)) ++ [x_2]))) ((c1 (fun u : List V => u.length) ((c3 (fun (u : List V) (a b : Nat) => (u.take a).drop b) rfl (c1 (fun z0 : Nat => ((z0 : Int).toNat)) (U_len (T := List UInt8) (kd := .str) (g1 := fun e => e) s2)) rfl).trans (U_cut (T := List UInt8) (kd := .str) (g1 := fun e => e) s2 ((s2.length : Int).toNat) (r7.toNat)))).trans (U_len (T := List UInt8) (kd := .str) (g1 := fun e => e) ((s2.take ((s2.length : Int).toNat)).drop (r7.toNat))))) (fun _ => ?_)
    exact Imp.ret (c2 (fun (h1 : List V) (h2 : Int) => (some (Sum.inl [.s host, .l h1, .l (rStr r1), .i h2]) : Option (List Leaf ⊕ (Nat × List Leaf)))) ((c2 (fun u v : List V => u ++ v) ((c2 (fun u v : List V => u ++ v) ((c2 (fun u v : List V => u ++ v) rfl (U_cut (T := List UInt8) (kd := .str) (g1 := fun e => e) s2 (r7.toNat) 0)).trans (U_app (T := List UInt8) (kd := .str) (g1 := fun e => e) [] ((s2.take (r7.toNat)).drop 0))) rfl).trans (U_app (T := List UInt8) (kd := .str) (g1 := fun e => e) ([] ++ ((s2.take (r7.toNat)).drop 0)) [x_2])) ((c3 (fun (u : List V) (a b : Nat) => (u.take a).drop b) rfl (c1 (fun z0 : Nat => ((z0 : Int).toNat)) (U_len (T := List UInt8) (kd := .str) (g1 := fun e => e) s2)) rfl).trans (U_cut (T := List UInt8) (kd := .str) (g1 := fun e => e) s2 ((s2.length : Int).toNat) (r7.toNat)))).trans (U_app (T := List UInt8) (kd := .str) (g1 := fun e => e) (([] ++ ((s2.take (r7.toNat)).drop 0)) ++ [x_2]) ((s2.take ((s2.length : Int).toNat)).drop (r7.toNat)))) (wrapJ hl2))
 ·exact Imp.ret rfl
noncomputable def iSentTo (n : TNet) (host : List UInt8) : Option (List TSent) :=
 (forE n.xLog (fun (i_1 : Nat) (x_1 : TSent) (s1 : List TSent) => (
 br (x_1.xTo.xHost == host) (
 chk ((s1.length + 1) * 56 ≤ 140737488355328 ∧ s1.length + 1 ≤ 140737488355328) <|
 some (.inl (s1 ++ [x_1]))
 ) (
 some (.inl s1)
 )
 : Option ((List TSent) ⊕ (List TSent)))) (fun (s1 : List TSent) => (s1 : List TSent)) ([] : List TSent)).bind <|
 fun (r3 : List TSent) =>
 some r3
theorem ei_iSentTo (n : TNet) (host : List UInt8) (k : List V → Option β) : Imp (F52 β (rows kServer TServer.row n.xServers) (rows kEntry TEntry.row n.xCache.xEntries) (rows kSent TSent.row n.xLog) n.xNow host k) (iSentTo n host) (fun r => k (rows kSent TSent.row r)) := by
 delta F52 P52 iSentTo
 refine Imp.for (enc := fun (i_1 : Nat) (s1 : List TSent) => [.s host, .l (rows kSent TSent.row s1), .l (rows kSent TSent.row n.xLog), .i (n.xLog.length : Int), .i (i_1 : Int)]) (encR := fun (u : List TSent) => (((0, [.l (rows kSent TSent.row u)]) : Nat × List Leaf))) (c1 (fun (h1 : Int) => ([.s host, .l (rows kSent TSent.row []), .l (rows kSent TSent.row n.xLog), .i h1, .i 0] : List Leaf)) (c1 (fun z0 : Nat => (z0 : Int)) (T_len (ks := kSent) (g := TSent.row) n.xLog))) (fun i_1 x_1 s1 hx1 hl1 hm1 => Imp.brT (Int.ofNat_lt.2 hl1) ?_) (fun s1 => brN (Int.lt_irrefl _) rfl) (fun r3 => ?_)
 ·refine Imp.idxFor (ks := kSent) (g := TSent.row) hx1 ?_
  refine Imp.br rfl ?_ ?_
  ·refine Imp.chk (c2 (fun z0 z1 : Nat => (z0 + 1) * 56 ≤ 140737488355328 ∧ z1 + 1 ≤ 140737488355328) (T_len (ks := kSent) (g := TSent.row) s1) (T_len (ks := kSent) (g := TSent.row) s1)) (fun _ => ?_)
   exact Imp.ret (c2 (fun (h1 : List V) (h2 : Int) => (some (Sum.inl [.s host, .l h1, .l (rows kSent TSent.row n.xLog), .i (n.xLog.length : Int), .i h2]) : Option (List Leaf ⊕ (Nat × List Leaf)))) (T_app (ks := kSent) (g := TSent.row) s1 [x_1]) (wrapJ hl1))
  ·exact Imp.ret (c1 (fun (h1 : Int) => (some (Sum.inl [.s host, .l (rows kSent TSent.row s1), .l (rows kSent TSent.row n.xLog), .i (n.xLog.length : Int), .i h1]) : Option (List Leaf ⊕ (Nat × List Leaf)))) (wrapJ hl1))
 ·exact Imp.ret rfl
noncomputable def g_slices_Index_string_string (s : List (List UInt8)) (v : List UInt8) : Option Int :=
 (forE s (fun (i_1 : Nat) (x_1 : List UInt8) (s1 : Unit) => (
 br (v == x_1) (
 some (.inr (.inl (i_1 : Int)))
 ) (
 some (.inl ())
 )
 : Option (Unit ⊕ (Int ⊕ Unit)))) (fun (s1 : Unit) => (.inr () : Int ⊕ Unit)) (() : Unit)).bind <|
 Sum.elim
 (fun (r3 : Int) =>
 some r3
 )
 (fun (r3 : Unit) =>
 some (-1)
 )
theorem ei_g_slices_Index_string_string (s : List (List UInt8)) (v : List UInt8) (k : Int → Option β) : Imp (F63 β (rStr s) v k) (g_slices_Index_string_string s v) (fun r => k r) := by
 delta F63 P63 g_slices_Index_string_string
 refine Imp.for (enc := fun (i_1 : Nat) (s1 : Unit) => [.l (rStr s), .s v, .i (s.length : Int), .i (i_1 : Int)]) (encR := Sum.elim (fun (u : Int) => (((0, [.i u]) : Nat × List Leaf))) (fun (u : Unit) => (((1, []) : Nat × List Leaf)))) (c1 (fun (h1 : Int) => ([.l (rStr s), .s v, .i h1, .i 0] : List Leaf)) (c1 (fun z0 : Nat => (z0 : Int)) (U_len (T := List UInt8) (kd := .str) (g1 := fun e => e) s))) (fun i_1 x_1 s1 hx1 hl1 hm1 => Imp.brT (Int.ofNat_lt.2 hl1) ?_) (fun s1 => brN (Int.lt_irrefl _) rfl) (fun r3 => ?_)
 ·refine Imp.idxFor1 (kd := .str) (g1 := fun e => e) hx1 ?_
  refine Imp.br rfl ?_ ?_
  ·exact Imp.ret rfl
  ·exact Imp.ret (c1 (fun (h1 : Int) => (some (Sum.inl [.l (rStr s), .s v, .i (s.length : Int), .i h1]) : Option (List Leaf ⊕ (Nat × List Leaf)))) (wrapJ hl1))
 ·cases r3 with
  | inl r3 =>
   refine Imp.ifT rfl ?_
   exact Imp.ret rfl
  | inr r3 =>
   refine Imp.ifF (show ¬ ((1 : Nat) = 0) by decide) ?_
   exact Imp.ret rfl
noncomputable def g_slices_Contains_string_string (s : List (List UInt8)) (v : List UInt8) : Option Bool :=
 (g_slices_Index_string_string s v).bind fun (r1 : Int) =>
 some (decide (r1 ≥ 0))
theorem ei_g_slices_Contains_string_string (s : List (List UInt8)) (v : List UInt8) (k : Bool → Option β) : Imp (F53 β (rStr s) v k) (g_slices_Contains_string_string s v) (fun r => k r) := by
 delta F53 P53 g_slices_Contains_string_string
 refine Imp.call rfl (ei_g_slices_Index_string_string s v _) (fun r1 _ => ?_)
 exact Imp.ret rfl
noncomputable def iTopsOf (n : TNet) (host : List UInt8) : Option (List (List UInt8)) :=
 (iSentTo n host).bind fun (r1 : List TSent) =>
 (forE r1 (fun (i_2 : Nat) (x_2 : TSent) (s2 : List (List UInt8)) => (
 (g_slices_Contains_string_string s2 x_2.xTop).bind fun (r4 : Bool) =>
 br (!r4) (
 chk ((s2.length + 1) * 16 ≤ 140737488355328 ∧ s2.length + 1 ≤ 140737488355328) <|
 some (.inl (s2 ++ [x_2.xTop]))
 ) (
 some (.inl s2)
 )
 : Option ((List (List UInt8)) ⊕ (List (List UInt8))))) (fun (s2 : List (List UInt8)) => (s2 : List (List UInt8))) ([] : List (List UInt8))).bind <|
 fun (r5 : List (List UInt8)) =>
 some r5
theorem ei_iTopsOf (n : TNet) (host : List UInt8) (k : List V → Option β) : Imp (F39 β (rows kServer TServer.row n.xServers) (rows kEntry TEntry.row n.xCache.xEntries) (rows kSent TSent.row n.xLog) n.xNow host k) (iTopsOf n host) (fun r => k (rStr r)) := by
 delta F39 P39 iTopsOf
 refine Imp.call rfl (ei_iSentTo n host _) (fun r1 _ => ?_)
 refine Imp.for (enc := fun (i_2 : Nat) (s2 : List (List UInt8)) => [.l (rStr s2), .l (rows kSent TSent.row r1), .i (r1.length : Int), .i (i_2 : Int)]) (encR := fun (u : List (List UInt8)) => (((0, [.l (rStr u)]) : Nat × List Leaf))) (c1 (fun (h1 : Int) => ([.l (rStr []), .l (rows kSent TSent.row r1), .i h1, .i 0] : List Leaf)) (c1 (fun z0 : Nat => (z0 : Int)) (T_len (ks := kSent) (g := TSent.row) r1))) (fun i_2 x_2 s2 hx2 hl2 hm2 => Imp.brT (Int.ofNat_lt.2 hl2) ?_) (fun s2 => brN (Int.lt_irrefl _) rfl) (fun r5 => ?_)
 ·refine Imp.chkE ⟨Int.natCast_nonneg _, Nat.lt_of_lt_of_eq hl2 (T_len (ks := kSent) (g := TSent.row) r1).symm⟩ ?_
  refine Imp.idxAtFor (ks := kSent) (g := TSent.row) hx2 rfl ?_
  refine Imp.call rfl (ei_g_slices_Contains_string_string s2 x_2.xTop _) (fun r4 _ => ?_)
  refine Imp.br rfl ?_ ?_
  ·refine Imp.chk (c2 (fun z0 z1 : Nat => (z0 + 1) * 16 ≤ 140737488355328 ∧ z1 + 1 ≤ 140737488355328) (U_len (T := List UInt8) (kd := .str) (g1 := fun e => e) s2) (U_len (T := List UInt8) (kd := .str) (g1 := fun e => e) s2)) (fun _ => ?_)
   exact Imp.ret (c2 (fun (h1 : List V) (h2 : Int) => (some (Sum.inl [.l h1, .l (rows kSent TSent.row r1), .i (r1.length : Int), .i h2]) : Option (List Leaf ⊕ (Nat × List Leaf)))) (U_app (T := List UInt8) (kd := .str) (g1 := fun e => e) s2 [x_2.xTop]) (wrapJ hl2))
  ·exact Imp.ret (c1 (fun (h1 : Int) => (some (Sum.inl [.l (rStr s2), .l (rows kSent TSent.row r1), .i (r1.length : Int), .i h1]) : Option (List Leaf ⊕ (Nat × List Leaf)))) (wrapJ hl2))
 ·exact Imp.ret rfl
noncomputable def isortedTops (a0 : TNet) (a1 : List UInt8) : Option (List (List UInt8)) := (iTopsOf a0 a1).bind fun l => sortStrE l
theorem ei_isortedTops (a0 : TNet) (a1 : List UInt8) (k : List V → Option β) : Imp (F21 β (rows kServer TServer.row a0.xServers) (rows kEntry TEntry.row a0.xCache.xEntries) (rows kSent TSent.row a0.xLog) a0.xNow a1 k) (isortedTops a0 a1) (fun r => k (rStr r)) := Imp.call rfl (ei_iTopsOf a0 a1 _) (fun r _ => ei_sortStrE r k)
noncomputable def lmarkText (xk : Int) : Option (List UInt8) :=
 br (decide (xk ≤ 0)) (
 some [109, 48]
 ) (
 (whileE (fun (s1 : Int × (List UInt8)) => (
 br (decide (s1.1 > 0)) (
 chk ((strI [(IntKind.wrap .u8 (IntKind.wrap .i64 (48 + (Int.tmod s1.1 10))))]).length + s1.2.length ≤ 9223372036854775807) <|
 some (.inl ((IntKind.wrap .i64 (Int.tdiv s1.1 10)), ((strI [(IntKind.wrap .u8 (IntKind.wrap .i64 (48 + (Int.tmod s1.1 10))))]) ++ s1.2)))
 ) (
 some (.inr s1.2)
 )
 : Option ((Int × (List UInt8)) ⊕ (List UInt8)))) ((xk, []) : Int × (List UInt8))).bind <|
 fun (r3 : List UInt8) =>
 chk (1 + r3.length ≤ 9223372036854775807) <|
 some ([109] ++ r3)
 )
theorem ei_lmarkText (xk : Int) (k : List UInt8 → Option β) : Imp (F29 β xk k) (lmarkText xk) (fun r => k r) := by
 delta F29 P29 lmarkText
 refine Imp.br rfl ?_ ?_
 ·exact Imp.ret rfl
 ·refine Imp.while (enc := fun (s1 : Int × (List UInt8)) => [.i s1.1, .s s1.2]) (encR := fun (u : List UInt8) => (((0, [.s u]) : Nat × List Leaf))) rfl (fun s1 => ?_) (fun r3 => ?_)
  ·refine Imp.br rfl ?_ ?_
   ·refine Imp.strO (l := [(IntKind.wrap .u8 (IntKind.wrap .i64 (48 + (Int.tmod s1.1 10))))]) rfl ?_
    refine Imp.chk rfl (fun _ => ?_)
    exact Imp.ret rfl
   ·exact Imp.ret rfl
  ·refine Imp.chk rfl (fun _ => ?_)
   exact Imp.ret rfl
end Go.Am
end
section
set_option linter.unusedVariables false
set_option linter.unusedSimpArgs false
namespace Go.Am
open Go
section
variable {α γ T σ ρ : Type}
def Ok (x : Option α) (Q : α → Prop) : Prop := ∃ r, x = some r ∧ Q r
theorem Ok.ret {r : α} {Q : α → Prop} (h : Q r) : Ok (some r) Q := ⟨r, rfl, h⟩
theorem Ok.bind {x : Option α} {f : α → Option γ} {Q1 : α → Prop} {Q : γ → Prop} (h : Ok x Q1) (h2 : ∀ r, x = some r → Q1 r → Ok (f r) Q) : Ok (x.bind f) Q := by
 obtain ⟨r, h1, h3⟩ := h
 subst h1
 exact h2 r rfl h3
theorem Ok.br {b : Bool} {x y : Option α} {Q : α → Prop} (h1 : b = true → Ok x Q) (h2 : b = false → Ok y Q) : Ok (Go.Am.br b x y) Q := by
 cases b
 ·exact h2 rfl
 ·exact h1 rfl
theorem Ok.chk {p : Prop} {d : Decidable p} {x : Option α} {Q : α → Prop} (hp : p) (h : Ok x Q) : Ok (@Go.Am.chk α p d x) Q := by
 obtain ⟨r, h1, h2⟩ := h
 exact ⟨r, (if_pos hp).trans h1, h2⟩
theorem Ok.mono {x : Option α} {Q1 Q : α → Prop} (h : Ok x Q1) (h2 : ∀ r, x = some r → Q1 r → Q r) : Ok x Q := by
 obtain ⟨r, h1, h3⟩ := h
 exact ⟨r, h1, h2 r h1 h3⟩
theorem Ok.of {x : Option α} {r : α} {Q : α → Prop} (h : x = some r) (hq : Q r) : Ok x Q := ⟨r, h, hq⟩
theorem Ok.getI {l : List T} {n : Int} (h0 : 0 ≤ n) (h1 : n.toNat < l.length) : Ok (Go.Am.getI l n) (fun x => l[n.toNat]? = some x ∧ x ∈ l) := by
 refine ⟨l[n.toNat], ?_, ?_, List.getElem_mem h1⟩
 ·unfold Go.Am.getI
  rw [if_pos h0, List.getElem?_eq_getElem h1]
 ·exact List.getElem?_eq_getElem h1
theorem Ok.getS {l : List UInt8} {n : Int} (h0 : 0 ≤ n) (h1 : n.toNat < l.length) : Ok (Go.Am.getS l n) (fun x => ∃ b, l[n.toNat]? = some b ∧ x = (b.toNat : Int)) := by
 refine ⟨(l[n.toNat].toNat : Int), ?_, l[n.toNat], List.getElem?_eq_getElem h1, rfl⟩
 unfold Go.Am.getS
 rw [if_pos h0, List.getElem?_eq_getElem h1]
 rfl
theorem forA_ok {body : Nat → T → σ → Option (σ ⊕ ρ)} {fin : σ → ρ} {l : List T} {Q : ρ → Prop} (Inv : Nat → σ → Prop)
  (hb : ∀ i x s, l[i]? = some x → Inv i s → Ok (body i x s) (fun z => match z with
   | .inl s' => Inv (i + 1) s'
   | .inr r => Q r)) (hf : ∀ s, Inv l.length s → Q (fin s)) : ∀ (zs : List T) (i : Nat) (s : σ), l.drop i = zs → i ≤ l.length → Inv i s → Ok (forA body fin i zs s) Q := by
 intro zs
 induction zs with
 | nil =>
  intro i s hd hi hs
  have : i = l.length := by
   have := List.drop_eq_nil_iff.1 hd
   omega
  subst this
  exact ⟨_, rfl, hf s hs⟩
 | cons x zs ih =>
  intro i s hd hi hs
  have hx : l[i]? = some x := by
   have := congrArg (fun l => l[0]?) hd
   simpa using this
  have hlt := (List.getElem?_eq_some_iff.1 hx).1
  have hd' : l.drop (i + 1) = zs := by rw [← List.tail_drop, hd]; rfl
  obtain ⟨z, h1, h2⟩ := hb i x s hx hs
  rw [forA, h1]
  cases z with
  | inl s' => exact ih (i + 1) s' hd' (by omega) h2
  | inr r => exact ⟨r, rfl, h2⟩
theorem Ok.for {body : Nat → T → σ → Option (σ ⊕ ρ)} {fin : σ → ρ} {l : List T} {s0 : σ} {Q : ρ → Prop} (hl : l.length ≤ maxLen) (Inv : Nat → σ → Prop) (h0 : Inv 0 s0)
  (hb : ∀ i x s, l[i]? = some x → Inv i s → Ok (body i x s) (fun z => match z with
   | .inl s' => Inv (i + 1) s'
   | .inr r => Q r)) (hf : ∀ s, Inv l.length s → Q (fin s)) : Ok (forE l body fin s0) Q := by
 unfold forE
 rw [if_pos hl]
 exact forA_ok Inv hb hf l 0 s0 rfl (Nat.zero_le _) h0
theorem Ok.while {body : σ → Option (σ ⊕ ρ)} {s0 : σ} {Q : ρ → Prop} (Inv : σ → Prop) (m : σ → Nat) (h0 : Inv s0)
  (hb : ∀ s, Inv s → Ok (body s) (fun z => match z with
   | .inl s' => Inv s' ∧ m s' < m s
   | .inr r => Q r)) : Ok (whileE body s0) Q := by
 have key : ∀ (n : Nat) (s : σ), m s < n → Inv s → Ok (whileE body s) Q := by
  intro n
  induction n with
  | zero => intro s h; omega
  | succ n ih =>
   intro s hm hs
   obtain ⟨z, h1, h2⟩ := hb s hs
   unfold whileE
   rw [whileInf_step, h1]
   cases z with
   | inl s' => exact ih s' (by have := h2.2; omega) h2.1
   | inr r => exact ⟨r, rfl, h2⟩
 exact key _ s0 (Nat.lt_succ_self _) h0
end
end Go.Am
end
section
set_option linter.unusedVariables false
set_option linter.unusedSimpArgs false
namespace Go.Am
open Go
section
variable {T ρ : Type}
theorem getI_nat {l : List T} {i : Nat} {x : T} (h : l[i]? = some x) : getI l (i : Int) = some x := by
 unfold getI
 rw [if_pos (Int.natCast_nonneg _)]
 exact h
theorem forA_eqL [DecidableEq T] {body : Nat → T → Unit → Option (Unit ⊕ ρ)} {fin : Unit → ρ} {r : ρ} {a b : List T}
  (h : ∀ i x y, a[i]? = some x → b[i]? = some y → body i x () = some (if x = y then .inl () else .inr r)) : ∀ (zs ys : List T) (i : Nat), a.drop i = zs → b.drop i = ys → zs.length = ys.length → forA body fin i zs () = some (if zs = ys then fin () else r) := by
 intro zs
 induction zs with
 | nil =>
  intro ys i _ _ hl
  obtain rfl : ys = [] := List.length_eq_zero_iff.1 hl.symm
  rfl
 | cons z zs ih =>
  intro ys i h1 h2 hl
  cases ys with
  | nil => simp at hl
  | cons y ys =>
   have hz : a[i]? = some z := by
    have := congrArg (fun l => l[0]?) h1
    simpa using this
   have hy : b[i]? = some y := by
    have := congrArg (fun l => l[0]?) h2
    simpa using this
   rw [forA, h i z y hz hy]
   by_cases c : z = y
   ·rw [if_pos c]
    show forA body fin (i + 1) zs () = _
    rw [ih ys (i + 1) (by rw [← List.tail_drop, h1]; rfl) (by rw [← List.tail_drop, h2]; rfl) (by simpa using hl)]
    subst c
    simp
   ·rw [if_neg c]
    show some r = _
    rw [if_neg (by intro e; exact c (List.cons.inj e).1)]
theorem for_eqL [DecidableEq T] {body : Nat → T → Unit → Option (Unit ⊕ ρ)} {fin : Unit → ρ} (r : ρ) {a b : List T} (hl : a.length = b.length) (hm : a.length ≤ maxLen)
  (h : ∀ i x y, a[i]? = some x → b[i]? = some y → body i x () = some (if x = y then .inl () else .inr r)) : forE a body fin () = some (if a = b then fin () else r) := by
 unfold forE
 rw [if_pos hm]
 exact forA_eqL h a b 0 rfl rfl hl
theorem len_ne {a b : List T} : ((a.length : Int) != (b.length : Int)) = !decide (a.length = b.length) := by
 by_cases h : a.length = b.length
 ·simp [h]
 ·have h2 : (a.length : Int) ≠ (b.length : Int) := by omega
  rw [decide_eq_false h]
  simpa using h2
end
end Go.Am
end
section
set_option linter.unusedVariables false
set_option linter.unusedSimpArgs false
namespace Go.Am
open Go
section
variable {β : Type}
end
end Go.Am
end
section
set_option linter.unusedVariables false
set_option linter.unusedSimpArgs false
namespace Go.Am
open Go
variable {β : Type}
noncomputable def mt (k : Nat) : List UInt8 := (lmarkText (k : Int)).getD []
theorem mt_eq (k : Nat) (h : k < 4611686018427387904) : lmarkText (k : Int) = some (mt k) := by
 have : Ok (lmarkText (k : Int)) (fun _ => True) := by
  unfold lmarkText
  refine Ok.br (fun _ => Ok.ret trivial) (fun _ => Ok.bind (Q1 := fun r : List UInt8 => r.length ≤ k) (Ok.while (fun s : Int × List UInt8 => 0 ≤ s.1 ∧ s.2.length + s.1.toNat ≤ k) (fun s => s.1.toNat) ⟨Int.natCast_nonneg _, by simp⟩ (fun s hs => ?_)) (fun r _ hr => Ok.chk (by omega) (Ok.ret trivial)))
  obtain ⟨s1, s2⟩ := s
  obtain ⟨h0, h1⟩ := hs
  dsimp only at h0 h1 ⊢
  refine Ok.br (fun c => ?_) (fun c => Ok.ret (by omega))
  have c : 0 < s1 := by simpa using c
  have ht : Int.tdiv s1 10 = ((s1.toNat / 10 : Nat) : Int) := by
   conv => lhs; rw [show s1 = ((s1.toNat : Nat) : Int) by omega]
   rfl
  have hw : IntKind.wrap .i64 (Int.tdiv s1 10) = ((s1.toNat / 10 : Nat) : Int) := by
   rw [ht]
   simp [IntKind.wrap, IntKind.bits, IntKind.signed]
   omega
  refine Ok.chk (by simp [strI]; omega) (Ok.ret ?_)
  rw [hw]
  refine ⟨⟨Int.natCast_nonneg _, ?_⟩, ?_⟩
  ·simp [strI]; omega
  ·simp; omega
 obtain ⟨r, e, _⟩ := this
 unfold mt
 rw [e]
 rfl
def Dec (x : Option Bool) (p : Prop) : Prop := ∃ b, x = some b ∧ (b = true ↔ p)
def DecS (x : Option (Unit ⊕ (Unit ⊕ Unit))) (p : Prop) : Prop := (p → x = some (.inl ())) ∧ (¬ p → x = some (.inr (.inl ())))
section
variable {T : Type} {p q : Prop} {X f : Option Bool} {b : Bool}
theorem Dec.iff (h : Dec X p) (e : p ↔ q) : Dec X q := by obtain ⟨b, h1, h2⟩ := h; exact ⟨b, h1, h2.trans e⟩
theorem Dec.lit (h : b = true ↔ p) : Dec (some b) p := ⟨b, rfl, h⟩
theorem Dec.tt : Dec (some true) True := ⟨true, rfl, by simp⟩
theorem Dec.and (hb : b = true ↔ p) (hX : Dec X q) : Dec (br b X (some false)) (p ∧ q) := by
 obtain ⟨c, h1, h2⟩ := hX
 cases b with
 | true => exact ⟨c, h1, by rw [h2]; exact ⟨fun h => ⟨hb.1 rfl, h⟩, fun h => h.2⟩⟩
 | false => exact ⟨false, rfl, ⟨fun h => (by cases h), fun h => by have := hb.2 h.1; cases this⟩⟩
theorem Dec.nand (hb : b = true ↔ p) (hX : Dec X q) : Dec (br (!b) (some false) X) (p ∧ q) := by
 have := Dec.and hb hX
 cases b <;> exact this
theorem Dec.ne {x y : Int} (hX : Dec X q) : Dec (br (x != y) (some false) X) (x = y ∧ q) := Dec.nand (b := x == y) (by simp) hX
theorem Dec.bind (hf : Dec f p) (hX : Dec X q) : Dec (f.bind fun r => br r X (some false)) (p ∧ q) := by
 obtain ⟨c, rfl, h2⟩ := hf
 exact Dec.and h2 hX
theorem Dec.len {a b : List T} (hX : a.length = b.length → Dec X q) : Dec (br ((a.length : Int) != (b.length : Int)) (some false) X) (a.length = b.length ∧ q) := by
 rw [len_ne]
 by_cases c : a.length = b.length
 ·rw [decide_eq_true c]; exact (hX c).iff ⟨fun h => ⟨c, h⟩, fun h => h.2⟩
 ·rw [decide_eq_false c]; exact ⟨false, rfl, ⟨fun h => (by cases h), fun h => absurd h.1 c⟩⟩
theorem Dec.loopK [DecidableEq T] {a b : List T} {body : Nat → T → Unit → Option (Unit ⊕ (Unit ⊕ Unit))} (hl : a.length = b.length) (hm : a.length ≤ maxLen)
  (h : ∀ i x y, a[i]? = some x → b[i]? = some y → DecS (body i x ()) (x = y)) (hX : Dec X q) : Dec ((forE a body (fun _ => (.inr () : Unit ⊕ Unit)) ()).bind (Sum.elim (fun _ => some false) (fun _ => X))) (a = b ∧ q) := by
 rw [for_eqL (.inl ()) hl hm (fun i x y hx hy => by
  obtain ⟨h1, h2⟩ := h i x y hx hy
  by_cases c : x = y
  ·rw [if_pos c]; exact h1 c
  ·rw [if_neg c]; exact h2 c)]
 by_cases c : a = b
 ·rw [if_pos c]; exact hX.iff ⟨fun h => ⟨c, h⟩, fun h => h.2⟩
 ·rw [if_neg c]; exact ⟨false, rfl, ⟨fun h => (by cases h), fun h => absurd h.1 c⟩⟩
theorem Dec.loop [DecidableEq T] {a b : List T} {body : Nat → T → Unit → Option (Unit ⊕ (Unit ⊕ Unit))} (hl : a.length = b.length) (hm : a.length ≤ maxLen)
  (h : ∀ i x y, a[i]? = some x → b[i]? = some y → DecS (body i x ()) (x = y)) : Dec ((forE a body (fun _ => (.inr () : Unit ⊕ Unit)) ()).bind (Sum.elim (fun _ => some false) (fun _ => some true))) (a = b) :=
 (Dec.loopK hl hm h Dec.tt).iff (by simp)
theorem Dec.list [DecidableEq T] {a b : List T} {body : Nat → T → Unit → Option (Unit ⊕ (Unit ⊕ Unit))} (hm : a.length ≤ maxLen)
  (h : ∀ i x y, a[i]? = some x → b[i]? = some y → DecS (body i x ()) (x = y)) : Dec (br ((a.length : Int) != (b.length : Int)) (some false) ((forE a body (fun _ => (.inr () : Unit ⊕ Unit)) ()).bind (Sum.elim (fun _ => some false) (fun _ => some true)))) (a = b) :=
 (Dec.len (fun hl => Dec.loop hl hm h)).iff ⟨fun h => h.2, fun h => ⟨by rw [h], h⟩⟩
theorem DecS.get {l : List T} {i : Nat} {y : T} {X : T → Option (Unit ⊕ (Unit ⊕ Unit))} (h : l[i]? = some y) (hX : DecS (X y) p) : DecS ((getI l (i : Int)).bind X) p := by rw [getI_nat h]; exact hX
theorem DecS.iff {X : Option (Unit ⊕ (Unit ⊕ Unit))} (h : DecS X p) (e : p ↔ q) : DecS X q := ⟨fun h2 => h.1 (e.2 h2), fun h2 => h.2 (fun h3 => h2 (e.1 h3))⟩
theorem DecS.tt : DecS (some (.inl ())) True := ⟨fun _ => rfl, fun h => absurd trivial h⟩
theorem DecS.nand {X : Option (Unit ⊕ (Unit ⊕ Unit))} (hb : b = true ↔ p) (hX : DecS X q) : DecS (br (!b) (some (.inr (.inl ()))) X) (p ∧ q) := by
 cases b with
 | true => exact hX.iff ⟨fun h => ⟨hb.1 rfl, h⟩, fun h => h.2⟩
 | false => exact ⟨fun h => (by have := hb.2 h.1; cases this), fun _ => rfl⟩
theorem DecS.flat (hb : b = true ↔ p) : DecS (br (!b) (some (.inr (.inl ()))) (some (.inl ()))) p := (DecS.nand hb DecS.tt).iff (by simp)
theorem DecS.ne {x y : Int} {X : Option (Unit ⊕ (Unit ⊕ Unit))} (hX : DecS X q) : DecS (br (x != y) (some (.inr (.inl ()))) X) (x = y ∧ q) := DecS.nand (b := x == y) (by simp) hX
theorem DecS.call {X : Option (Unit ⊕ (Unit ⊕ Unit))} (hf : Dec f p) (hX : DecS X q) : DecS (f.bind fun r => br (!r) (some (.inr (.inl ()))) X) (p ∧ q) := by
 obtain ⟨c, rfl, h2⟩ := hf
 exact DecS.nand h2 hX
theorem DecS.len {a b : List T} {X : Option (Unit ⊕ (Unit ⊕ Unit))} (hX : a.length = b.length → DecS X q) : DecS (br ((a.length : Int) != (b.length : Int)) (some (.inr (.inl ()))) X) (a.length = b.length ∧ q) := by
 rw [len_ne]
 by_cases c : a.length = b.length
 ·rw [decide_eq_true c]; exact (hX c).iff ⟨fun h => ⟨c, h⟩, fun h => h.2⟩
 ·rw [decide_eq_false c]; exact ⟨fun h => absurd h.1 c, fun _ => rfl⟩
end
section
variable {T : Type} {p q : Prop} {X f : Option Bool} {b : Bool}
theorem Dec.same {x y : Option Bool} (h : Dec x p) (h' : Dec y p) : ∃ r, x = some r ∧ y = some r := by
 obtain ⟨a, h1, h2⟩ := h
 obtain ⟨c, h3, h4⟩ := h'
 exact ⟨a, h1, by rw [h3]; congr 1; rw [Bool.eq_iff_iff, h2, h4]⟩
theorem Dec.all {l : List T} {P : Nat → T → Prop} {body : Nat → T → Unit → Option (Unit ⊕ (Unit ⊕ Unit))} (hm : l.length ≤ maxLen) (h : ∀ i x, l[i]? = some x → DecS (body i x ()) (P i x)) (hX : Dec X q) :
  Dec ((forE l body (fun _ => (.inr () : Unit ⊕ Unit)) ()).bind (Sum.elim (fun _ => some false) (fun _ => X))) ((∀ i x, l[i]? = some x → P i x) ∧ q) := by
 have key : ∀ (zs : List T) (i : Nat), l.drop i = zs → i ≤ l.length → ∃ r : Unit ⊕ Unit, forA body (fun _ => (.inr () : Unit ⊕ Unit)) i zs () = some r ∧ ((r = .inr ()) ↔ ∀ j x, i ≤ j → l[j]? = some x → P j x) := by
  intro zs
  induction zs with
  | nil =>
   intro i hd hi
   have := List.drop_eq_nil_iff.1 hd
   exact ⟨.inr (), rfl, by simp; intro j x hj hx; have := (List.getElem?_eq_some_iff.1 hx).1; omega⟩
  | cons z zs ih =>
   intro i hd hi
   have hz : l[i]? = some z := by
    have := congrArg (fun l => l[0]?) hd
    simpa using this
   have hlt := (List.getElem?_eq_some_iff.1 hz).1
   have hd' : l.drop (i + 1) = zs := by rw [← List.tail_drop, hd]; rfl
   obtain ⟨h1, h2⟩ := h i z hz
   by_cases c : P i z
   ·obtain ⟨r, h3, h4⟩ := ih (i + 1) hd' (by omega)
    refine ⟨r, by rw [forA, h1 c]; exact h3, h4.trans ⟨fun hr j x hj hx => ?_, fun hr j x hj hx => hr j x (by omega) hx⟩⟩
    by_cases e : j = i
    ·subst e; rw [hz] at hx; injection hx with hx; subst hx; exact c
    ·exact hr j x (by omega) hx
   ·exact ⟨.inl (), by rw [forA, h2 c], by simp; exact ⟨i, Nat.le_refl _, z, hz, c⟩⟩
 obtain ⟨r, h1, h2⟩ := key l 0 rfl (Nat.zero_le _)
 unfold forE
 rw [if_pos hm, h1]
 cases r with
 | inl u => exact ⟨false, rfl, ⟨fun h => (by cases h), fun h => by have := h2.2 (fun j x _ hx => h.1 j x hx); cases this⟩⟩
 | inr u => exact hX.iff ⟨fun h => ⟨fun i x hx => h2.1 rfl i x (Nat.zero_le _) hx, h⟩, fun h => h.2⟩
theorem Dec.all1 {l : List T} {P : Nat → T → Prop} {body : Nat → T → Unit → Option (Unit ⊕ (Unit ⊕ Unit))} (hm : l.length ≤ maxLen) (h : ∀ i x, l[i]? = some x → DecS (body i x ()) (P i x)) :
  Dec ((forE l body (fun _ => (.inr () : Unit ⊕ Unit)) ()).bind (Sum.elim (fun _ => some false) (fun _ => some true))) (∀ i x, l[i]? = some x → P i x) :=
 (Dec.all hm h Dec.tt).iff (by simp)
theorem Dec.any {l : List T} {P : T → Prop} {body : Nat → T → Unit → Option (Unit ⊕ (Unit ⊕ Unit))} (hm : l.length ≤ maxLen) (h : ∀ i x, l[i]? = some x → DecS (body i x ()) (¬ P x)) :
  Dec ((forE l body (fun _ => (.inr () : Unit ⊕ Unit)) ()).bind (Sum.elim (fun _ => some true) (fun _ => some false))) (∃ x ∈ l, P x) := by
 have := Dec.all1 hm h
 obtain ⟨c, h1, h2⟩ := this
 cases hf : forE l body (fun _ => (.inr () : Unit ⊕ Unit)) () with
 | none => rw [hf] at h1; cases h1
 | some r =>
  rw [hf] at h1
  cases r with
  | inl u =>
   have hc : c = false := by injection h1 with h1; exact h1.symm
   refine ⟨true, rfl, ⟨fun _ => ?_, fun _ => rfl⟩⟩
   subst hc
   apply Classical.byContradiction
   intro hn
   have : ∀ i x, l[i]? = some x → ¬ P x := fun i x hx hp => hn ⟨x, List.mem_of_getElem? hx, hp⟩
   have := h2.2 this
   cases this
  | inr u =>
   have hc : c = true := by injection h1 with h1; exact h1.symm
   refine ⟨false, rfl, ⟨fun h => (by cases h), fun ⟨x, hx, hp⟩ => ?_⟩⟩
   obtain ⟨i, hi, rfl⟩ := List.mem_iff_getElem.1 hx
   exact absurd hp (h2.1 hc i _ (List.getElem?_eq_getElem hi))
end
theorem d_sHasS (l : List (List UInt8)) (s : List UInt8) (h : l.length ≤ maxLen) : Dec (sl9Has l s) (s ∈ l) := by
 unfold sl9Has
 refine Dec.iff (Dec.any (P := fun x => x = s) h (fun i x hx => ?_)) (by simp)
 by_cases c : x = s
 ·rw [show (x == s) = true by simpa using c]; exact ⟨fun h => absurd c h, fun _ => rfl⟩
 ·rw [show (x == s) = false by simpa using c]; exact ⟨fun _ => rfl, fun h => absurd c h⟩
theorem d_contains (l : List (List UInt8)) (s : List UInt8) (h : l.length ≤ maxLen) : Dec (g_slices_Contains_string_string l s) (s ∈ l) := by
 have key : Ok (g_slices_Index_string_string l s) (fun r => (0 ≤ r ↔ s ∈ l)) := by
  unfold g_slices_Index_string_string
  refine Ok.bind (Q1 := fun z => match z with
   | .inl r => (0 ≤ r ∧ s ∈ l)
   | .inr _ => ¬ s ∈ l) (Ok.for h (fun i _ => ∀ j x, j < i → l[j]? = some x → x ≠ s) (fun j x hj => by omega) (fun i x u hx hi => ?_) (fun u hu => ?_)) (fun r _ hr => ?_)
  ·refine Ok.br (fun c => Ok.ret ⟨by omega, ?_⟩) (fun c => Ok.ret (fun j y hj hy => ?_))
   ·have : s = x := by simpa using c
    rw [this]; exact List.mem_of_getElem? hx
   ·by_cases e : j = i
    ·subst e
     rw [hx] at hy
     injection hy with hy
     subst hy
     have : ¬ s = x := by simpa using c
     exact fun e => this e.symm
    ·exact hi j y (by omega) hy
  ·intro hm
   obtain ⟨j, hj, e⟩ := List.mem_iff_getElem.1 hm
   exact hu j _ hj (List.getElem?_eq_getElem hj) e
  ·cases r with
   | inl r => exact Ok.ret ⟨fun _ => hr.2, fun _ => hr.1⟩
   | inr u => exact Ok.ret ⟨fun h => absurd h (by omega), fun h => absurd h hr⟩
 obtain ⟨r, hr, hq⟩ := key
 unfold g_slices_Contains_string_string
 rw [hr]
 exact ⟨_, rfl, by rw [← hq]; simp⟩
theorem ok_SentTo (n : TNet) (host : List UInt8) (hs : n.xLog.length ≤ 1048576) : Ok (iSentTo n host) (fun l => l.length ≤ n.xLog.length ∧ ∀ x ∈ l, x ∈ n.xLog) := by
 unfold iSentTo
 refine Ok.bind (Q1 := fun l => l.length ≤ n.xLog.length ∧ ∀ x ∈ l, x ∈ n.xLog) (Ok.for (by unfold maxLen; omega) (fun i l => l.length ≤ i ∧ ∀ x ∈ l, x ∈ n.xLog) ⟨Nat.le_refl 0, by simp⟩ (fun i x l hx hi => ?_) (fun l hl => hl)) (fun r _ hr => Ok.ret hr)
 have hlt := (List.getElem?_eq_some_iff.1 hx).1
 refine Ok.br (fun _ => Ok.chk (by omega) (Ok.ret ⟨by simp; exact hi.1, fun y hy => ?_⟩)) (fun _ => Ok.ret ⟨Nat.le_succ_of_le hi.1, hi.2⟩)
 rcases List.mem_append.1 hy with h | h
 ·exact hi.2 y h
 ·rw [List.mem_singleton.1 h]; exact List.mem_of_getElem? hx
def topsL (l : List TSent) : List (List UInt8) := l.foldl (fun s x => if x.xTop ∈ s then s else s ++ [x.xTop]) []
theorem ok_tops1 (l1 : List TSent) (h : l1.length ≤ 1048576) (f : List (List UInt8) → List UInt8 → Option Bool) (hf : ∀ l s, l.length ≤ maxLen → Dec (f l s) (s ∈ l)) :
  Ok (forE l1 (fun (i_2 : Nat) (x_2 : TSent) (s2 : List (List UInt8)) => (
  (f s2 x_2.xTop).bind fun (r4 : Bool) =>
  br (!r4) (
   chk ((s2.length + 1) * 16 ≤ 140737488355328 ∧ s2.length + 1 ≤ 140737488355328) <|
   some (.inl (s2 ++ [x_2.xTop]))
  ) (
   some (.inl s2)
  )
 : Option ((List (List UInt8)) ⊕ (List (List UInt8))))) (fun (s2 : List (List UInt8)) => (s2 : List (List UInt8))) ([] : List (List UInt8))) (fun r => r = topsL l1 ∧ r.Nodup ∧ r.length ≤ 1048576) := by
 refine Ok.for (by unfold maxLen; omega) (fun i s => s = topsL (l1.take i) ∧ s.Nodup ∧ s.length ≤ i) ⟨rfl, by simp, Nat.le_refl _⟩ (fun i x s hx hi => ?_) (fun s hs => ⟨by rw [hs.1, List.take_length], hs.2.1, by have := hs.2.2; omega⟩)
 obtain ⟨h1, h2, h3⟩ := hi
 have hlt := (List.getElem?_eq_some_iff.1 hx).1
 have ht : topsL (l1.take (i + 1)) = if x.xTop ∈ s then s else s ++ [x.xTop] := by
  rw [List.take_add_one, hx]
  simp only [topsL, Option.toList_some, List.foldl_append, List.foldl_cons, List.foldl_nil]
  rw [show (l1.take i).foldl (fun s x => if x.xTop ∈ s then s else s ++ [x.xTop]) [] = s from h1.symm]
 obtain ⟨c, e1, e2⟩ := hf s x.xTop (by unfold maxLen; omega)
 rw [e1]
 cases c with
 | true =>
  refine Ok.ret ⟨?_, h2, by omega⟩
  rw [ht, if_pos (e2.1 rfl)]
 | false =>
  have hn : ¬ x.xTop ∈ s := fun hm => by have := e2.2 hm; cases this
  refine Ok.chk (by omega) (Ok.ret ⟨?_, ?_, by simp; omega⟩)
  ·rw [ht, if_neg hn]
  ·refine List.nodup_append.2 ⟨h2, by simp, fun a ha b hb => ?_⟩
   rw [List.mem_singleton.1 hb]
   exact fun e => hn (e ▸ ha)
theorem eq_Tops (n : TNet) (host : List UInt8) (hs : n.xLog.length ≤ 1048576) : ∃ l, sTopsOf n host = some l ∧ iTopsOf n host = some l ∧ l.Nodup ∧ l.length ≤ 1048576 := by
 obtain ⟨l1, e1, q1, _⟩ := ok_SentTo n host hs
 obtain ⟨r, a1, a2, a3, a4⟩ := ok_tops1 l1 (by omega) sl9Has d_sHasS
 obtain ⟨r', b1, b2, _, _⟩ := ok_tops1 l1 (by omega) g_slices_Contains_string_string d_contains
 subst b2
 subst a2
 refine ⟨_, ?_, ?_, a3, a4⟩
 ·unfold sTopsOf
  rw [show sSentTo n host = some l1 from e1, Option.bind_some]
  exact congrArg (fun o => Option.bind o _) a1
 ·unfold iTopsOf
  rw [e1, Option.bind_some]
  exact congrArg (fun o => Option.bind o _) b1
theorem rise_eq {a b : List (List UInt8)} (ha : a.Pairwise (· < ·)) (hb : b.Pairwise (· < ·)) : a = b ↔ ∀ x, x ∈ a ↔ x ∈ b := by
 constructor
 ·intro h x
  rw [h]
 ·intro h
  have na : a.Nodup := ha.imp (fun {x y} hxy e => by subst e; exact List.lt_irrefl _ hxy)
  have nb : b.Nodup := hb.imp (fun {x y} hxy e => by subst e; exact List.lt_irrefl _ hxy)
  exact List.Perm.eq_of_pairwise (le := fun a b => a < b) (fun a b _ _ h1 h2 => absurd (List.lt_trans h1 h2) (List.lt_irrefl _)) ha hb ((List.perm_ext_iff_of_nodup na nb).2 h)
theorem insert_riseS {s : List (List UInt8)} {x : List UInt8} {k : Nat} (hp : s.Pairwise (· < ·)) (hxs : ¬ x ∈ s) (hk : k ≤ s.length) (h1 : ∀ (j : Nat) y, k ≤ j → s[j]? = some y → x < y) (h2 : k = 0 ∨ ∃ y, s[k - 1]? = some y ∧ ¬ x < y) :
  ((s.take k ++ [x]) ++ s.drop k).Pairwise (· < ·) := by
 have hlow : ∀ y ∈ s.take k, y < x := by
  intro y hy
  rcases h2 with h2 | ⟨z, hz, hzx⟩
  ·subst h2; simp at hy
  ·obtain ⟨hz1, hz2⟩ := List.getElem?_eq_some_iff.1 hz
   have hzlt : z < x := by
    apply Classical.byContradiction
    intro hn
    have e : z = x := List.le_antisymm (List.not_lt.1 hzx) (List.not_lt.1 hn)
    exact hxs (by rw [← e, ← hz2]; exact List.getElem_mem hz1)
   obtain ⟨j, hj, rfl⟩ := List.mem_iff_getElem.1 hy
   have hj' : j < k := by simp at hj; omega
   rw [List.getElem_take]
   by_cases e : j = k - 1
   ·subst e; rw [hz2]; exact hzlt
   ·have := List.pairwise_iff_getElem.1 hp j (k - 1) (by omega) hz1 (by omega)
    rw [hz2] at this
    exact List.lt_trans this hzlt
 have hhigh : ∀ y ∈ s.drop k, x < y := by
  intro y hy
  obtain ⟨j, hj, rfl⟩ := List.mem_iff_getElem.1 hy
  refine h1 (k + j) _ (by omega) ?_
  rw [List.getElem_drop, List.getElem?_eq_getElem]
 refine List.pairwise_append.2 ⟨List.pairwise_append.2 ⟨hp.sublist (List.take_sublist _ _), by simp, fun a ha b hb => ?_⟩, hp.sublist (List.drop_sublist _ _), fun a ha b hb => ?_⟩
 ·rw [List.mem_singleton.1 hb]; exact hlow a ha
 ·rcases List.mem_append.1 ha with ha | ha
  ·exact List.lt_trans (hlow a ha) (hhigh b hb)
  ·rw [List.mem_singleton.1 ha]; exact hhigh b hb
theorem less_lt (a b : List UInt8) : less a b = decide (a < b) := Go.Proofs.bytesLess_eq a b
theorem spec_Around (n : TNet) (host : List UInt8) {A : List (List UInt8)} (hA : sTopsOf n host = some A) (hn : A.Nodup) (hl : A.length ≤ 1048576) : Ok (sTopsAround n host) (fun r => r.Pairwise (· < ·) ∧ (∀ x, x ∈ r ↔ x ∈ A ∧ x ≠ host) ∧ r.length ≤ 1048576) := by
 unfold sTopsAround
 rw [hA, Option.bind_some]
 refine Ok.bind (Q1 := fun r => r.Pairwise (· < ·) ∧ (∀ x, x ∈ r ↔ x ∈ A ∧ x ≠ host) ∧ r.length ≤ 1048576) (Ok.for (by unfold maxLen; omega) (fun i s => s.Pairwise (· < ·) ∧ (∀ x, x ∈ s ↔ x ∈ A.take i ∧ x ≠ host) ∧ s.length ≤ i) ⟨by simp, by simp, Nat.le_refl _⟩ (fun i x s hx hi => ?_) (fun s hs => ⟨hs.1, by have := hs.2.1; rw [List.take_length] at this; exact this, by have := hs.2.2; omega⟩)) (fun r _ hr => Ok.ret hr)
 obtain ⟨hr, hm, hlen⟩ := hi
 obtain ⟨hil, hix⟩ := List.getElem?_eq_some_iff.1 hx
 have htk : A.take (i + 1) = A.take i ++ [x] := by rw [List.take_succ_eq_append_getElem hil, hix]
 refine Ok.br (fun e => Ok.ret ⟨hr, fun y => ?_, by omega⟩) (fun e => ?_)
 ·have e : x = host := by simpa using e
  rw [htk, List.mem_append, hm, List.mem_singleton]
  constructor
  ·exact fun ⟨a, b⟩ => ⟨.inl a, b⟩
  ·rintro ⟨a | a, b⟩
   ·exact ⟨a, b⟩
   ·exact absurd (a.trans e) b
 ·have e : x ≠ host := by simpa using e
  have hxt : ¬ x ∈ A.take i := fun hh => by
   obtain ⟨j, hj, he⟩ := List.mem_iff_getElem.1 hh
   have hj2 : j < i := by simp at hj; omega
   rw [List.getElem_take] at he
   exact List.pairwise_iff_getElem.1 hn j i (by omega) hil hj2 (by rw [he, hix])
  have hxs : ¬ x ∈ s := fun hh => hxt ((hm x).1 hh).1
  refine Ok.bind (Q1 := fun r : Int => 0 ≤ r ∧ r ≤ s.length ∧ (∀ (j : Nat) y, r ≤ j → s[j]? = some y → x < y) ∧ (r = 0 ∨ ∃ y, s[r.toNat - 1]? = some y ∧ ¬ x < y)) ?_ (fun r _ hr8 => ?_)
  ·refine Ok.while (fun r : Int => 0 ≤ r ∧ r ≤ s.length ∧ (∀ (j : Nat) y, r ≤ j → s[j]? = some y → x < y)) (fun r => r.toNat) ⟨by omega, by omega, fun j y hj hy => by have := (List.getElem?_eq_some_iff.1 hy).1; omega⟩ (fun r hr => ?_)
   obtain ⟨r0, r1, r2⟩ := hr
   by_cases c : r > 0
   ·rw [decide_eq_true c]
    have hw : IntKind.wrap .i64 (r - 1) = r - 1 := by simp [IntKind.wrap, IntKind.bits, IntKind.signed]; omega
    have hlt : (r - 1).toNat < s.length := by omega
    rw [hw]
    refine Ok.chk ⟨by omega, hlt⟩ (Ok.bind (Ok.getI (by omega) hlt) (fun y _ hy => Ok.br (fun c8 => Ok.ret ⟨⟨by omega, by omega, fun j z hj hz => ?_⟩, by omega⟩) (fun c8 => Ok.ret ⟨r0, r1, r2, .inr ⟨y, ?_, ?_⟩⟩)))
    ·by_cases e : (j : Int) = r - 1
     ·have hj2 : j = (r - 1).toNat := by omega
      rw [hj2, hy.1] at hz
      injection hz with hz
      subst hz
      rw [less_lt] at c8
      exact of_decide_eq_true c8
     ·exact r2 j z (by omega) hz
    ·rw [show r.toNat - 1 = (r - 1).toNat by omega]; exact hy.1
    ·rw [less_lt] at c8
     exact of_decide_eq_false c8
   ·rw [decide_eq_false c]
    exact Ok.ret ⟨r0, r1, r2, .inl (by omega)⟩
  ·obtain ⟨r0, r1, r2, r3⟩ := hr8
   have hrl : r.toNat ≤ s.length := by omega
   have hT : (s.take ((s.length : Int).toNat)) = s := by rw [Int.toNat_natCast]; exact List.take_length
   simp only [hT, List.drop_zero, List.nil_append]
   have l1 : (s.take r.toNat).length = r.toNat := by simp; omega
   have l2 : (s.drop r.toNat).length = s.length - r.toNat := by simp
   refine Ok.chk ⟨by omega, by omega, r1⟩ (Ok.chk ⟨by omega, by omega⟩ (Ok.chk ⟨by omega, by omega⟩ (Ok.chk ⟨by omega, by omega, by omega⟩ (Ok.chk ?_ (Ok.ret ⟨?_, fun y => ?_, ?_⟩)))))
   ·rw [List.length_append, l1, l2, List.length_singleton]; omega
   ·refine insert_riseS hr hxs hrl (fun j y hj hy => r2 j y (by omega) hy) ?_
    rcases r3 with r3 | r3
    ·exact .inl (by omega)
    ·exact .inr r3
   ·have h1 : y ∈ (s.take r.toNat ++ [x]) ++ s.drop r.toNat ↔ y ∈ s ∨ y = x := by
     rw [List.mem_append, List.mem_append, List.mem_singleton]
     conv => rhs; rw [← List.take_append_drop r.toNat s, List.mem_append]
     constructor
     ·rintro ((h | h) | h)
      ·exact .inl (.inl h)
      ·exact .inr h
      ·exact .inl (.inr h)
     ·rintro ((h | h) | h)
      ·exact .inl (.inl h)
      ·exact .inr h
      ·exact .inl (.inr h)
    rw [h1, hm, htk, List.mem_append, List.mem_singleton]
    constructor
    ·rintro (⟨a, b⟩ | a)
     ·exact ⟨.inl a, b⟩
     ·exact ⟨.inr a, by rw [a]; exact e⟩
    ·rintro ⟨a | a, b⟩
     ·exact .inl ⟨a, b⟩
     ·exact .inr a
   ·rw [List.length_append, List.length_append, l1, l2, List.length_singleton]; omega
theorem eq_Around (n : TNet) (host : List UInt8) (hs : n.xLog.length ≤ 1048576) : ∃ A, isortedTops n host = some (sortS A) ∧ sTopsAround n host = some ((sortS A).filter fun s => !(s == host)) ∧ (sortS A).length ≤ 1048576 := by
 obtain ⟨A, p1, q1, n1, m1⟩ := eq_Tops n host hs
 obtain ⟨r1, u1, v1, w1, x1⟩ := spec_Around n host p1 n1 m1
 have t1 : isortedTops n host = some (sortS A) := by
  show (iTopsOf n host).bind _ = _
  rw [q1, Option.bind_some]
  unfold sortStrE
  rw [chk_pos (by omega)]
 have hp : (sortS A).Perm A := List.mergeSort_perm A _
 have tr : ∀ a b c : List UInt8, decide (a ≤ b) = true → decide (b ≤ c) = true → decide (a ≤ c) = true := fun a b c h1 h2 => by simp only [decide_eq_true_eq] at *; exact List.le_trans h1 h2
 have to : ∀ a b : List UInt8, (decide (a ≤ b) || decide (b ≤ a)) = true := fun a b => by simp only [Bool.or_eq_true, decide_eq_true_eq]; exact List.le_total a b
 have hsort : (sortS A).Pairwise (· ≤ ·) := (List.pairwise_mergeSort tr to A).imp (fun h => of_decide_eq_true h)
 have hnd : (sortS A).Nodup := hp.nodup_iff.2 n1
 have hlt : (sortS A).Pairwise (· < ·) := (hsort.and hnd).imp (fun {a b} h => by
  apply Classical.byContradiction
  intro hn
  exact h.2 (List.le_antisymm h.1 (List.not_lt.1 hn)))
 refine ⟨A, t1, ?_, by rw [show (sortS A).length = A.length from List.length_mergeSort A]; exact m1⟩
 rw [u1]
 congr 1
 refine (rise_eq v1 (hlt.sublist List.filter_sublist)).2 (fun x => ?_)
 rw [w1, List.mem_filter, hp.mem_iff]
 simp
theorem topsL_mem : ∀ {l : List TSent} {s : List (List UInt8)} {x : List UInt8}, x ∈ l.foldl (fun s x => if x.xTop ∈ s then s else s ++ [x.xTop]) s → x ∈ s ∨ ∃ y ∈ l, x = y.xTop := by
 intro l
 induction l with
 | nil => intro s x h; exact .inl h
 | cons a l ih =>
  intro s x h
  rw [List.foldl_cons] at h
  rcases ih h with h1 | ⟨y, hy, e⟩
  ·split at h1
   ·exact .inl h1
   ·rcases List.mem_append.1 h1 with h1 | h1
    ·exact .inl h1
    ·exact .inr ⟨a, by simp, List.mem_singleton.1 h1⟩
  ·exact .inr ⟨y, by simp [hy], e⟩
theorem tops_mem (n : TNet) (host : List UInt8) (hs : n.xLog.length ≤ 1048576) {A : List (List UInt8)} (h : iTopsOf n host = some A) {x : List UInt8} (hx : x ∈ A) : ∃ y ∈ n.xLog, x = y.xTop := by
 obtain ⟨l1, e1, q1, q2⟩ := ok_SentTo n host hs
 obtain ⟨r', b1, b2, _, _⟩ := ok_tops1 l1 (by omega) g_slices_Contains_string_string d_contains
 subst b2
 have h2 : iTopsOf n host = some (topsL l1) := by
  unfold iTopsOf
  rw [e1, Option.bind_some]
  exact congrArg (fun o => Option.bind o _) b1
 rw [h2] at h
 injection h with h
 subst h
 rcases topsL_mem hx with h | ⟨y, hy, e⟩
 ·exact absurd h List.not_mem_nil
 ·exact ⟨y, q2 y hy, e⟩
noncomputable def iTopsAround (n : TNet) (host : List UInt8) : Option (List (List UInt8)) := (isortedTops n host).bind fun l => if l.length ≤ 1099511627776 then some (l.filter fun s => !(s == host)) else none
theorem sumL_len {l : List (List UInt8)} {c : Nat} (h : ∀ x ∈ l, x.length ≤ c) : sumL List.length l ≤ l.length * c := by
 induction l with
 | nil => simp [sumL]
 | cons x l ih =>
  have h1 := h x (by simp)
  have h2 := ih (fun y hy => h y (by simp [hy]))
  simp only [sumL, List.map_cons, List.sum_cons, List.length_cons, Nat.add_mul] at h2 ⊢
  omega
theorem eq_TopsAround (n : TNet) (host : List UInt8) (o0 : n.ok) (o1 : okS host) (h : n.size ≤ 1048576 ∧ host.length ≤ 1048576) :
  ∃ r, sTopsAround n host = some r ∧ iTopsAround n host = some r ∧ r.length + sumL List.length r ≤ 1125899906842624 ∧ okL okS r := by
 have hs : n.xLog.length ≤ 1048576 := by have := h.1; unfold TNet.size at this; omega
 obtain ⟨A0, p1, q1, n1, m1⟩ := eq_Tops n host hs
 obtain ⟨A, t1, t2, t3⟩ := eq_Around n host hs
 have hA : sortS A = sortS A0 := by
  have : isortedTops n host = some (sortS A0) := by
   show (iTopsOf n host).bind _ = _
   rw [q1, Option.bind_some]
   unfold sortStrE
   rw [chk_pos (by omega)]
  rw [t1] at this
  injection this
 have hmem : ∀ x ∈ (sortS A).filter (fun s => !(s == host)), ∃ y ∈ n.xLog, x = y.xTop := fun x hx => by
  have h1 := (List.mem_filter.1 hx).1
  rw [hA] at h1
  exact tops_mem n host hs q1 ((List.mergeSort_perm A0 _).mem_iff.1 h1)
 have hsz : ∀ x ∈ (sortS A).filter (fun s => !(s == host)), x.length ≤ 1048576 := fun x hx => by
  obtain ⟨y, hy, rfl⟩ := hmem x hx
  have h1 := sumL_mem (f := TSent.size) hy
  have h2 : y.xTop.length ≤ y.size := by unfold TSent.size; omega
  have h3 := h.1
  unfold TNet.size at h3
  omega
 have hl : ((sortS A).filter fun s => !(s == host)).length ≤ 1048576 := Nat.le_trans (List.length_filter_le _ _) t3
 refine ⟨_, t2, ?_, ?_, ?_, fun x hx => ?_⟩
 ·unfold iTopsAround
  rw [t1, Option.bind_some, if_pos (by omega)]
 ·have h1 := sumL_len hsz
  have h2 := Nat.mul_le_mul_right 1048576 hl
  omega
 ·unfold maxLen
  omega
 ·have := hsz x hx
  show x.length ≤ maxLen
  unfold maxLen
  omega
end Go.Am
end
section
namespace Go.Proofs
open Go.Shelf
def Try.laysDel_ren : Go.Shelf.Ren := ⟨fun | 10 => 20 | 6 => 38 | n => n, fun | 22 => 30 | 23 => 9 | 25 => 52 | 3 => 3 | 4 => 4 | 0 => 0 | n => n, fun | n => n⟩
theorem Try.laysDel : Go.Proofs.SlLaysH.n10 Try.prog Try.laysDel_ren := {
  mixed := by kernel_rfl
  f6 := ⟨Try.f38.name, by decide, Try.func38.trans (congrArg some (by kernel_rfl))⟩
  f10 := ⟨Try.f20.name, by decide, Try.func20.trans (congrArg some (by kernel_rfl))⟩
  t0 := Try.underlying0
  a0 := Try.isAgg0
  z0 := Try.sizeOf0
  v0 := Try.zeroValue0
  t3 := Try.underlying3
  a3 := Try.isAgg3
  z3 := Try.sizeOf3
  v3 := Try.zeroValue3
  t4 := Try.underlying4
  a4 := Try.isAgg4
  z4 := Try.sizeOf4
  v4 := Try.zeroValue4
  t22 := Try.underlying30
  a22 := Try.isAgg30
  z22 := Try.sizeOf30
  v22 := Try.zeroValue30
  a23 := Try.isAgg9
  z23 := Try.sizeOf9
  t25 := Try.underlying52
  a25 := Try.isAgg52
  z25 := Try.sizeOf52
  v25 := Try.zeroValue52 }
end Go.Proofs
end

/-
  The servers that stand at the start: the specification puts file after file; what that comes to is reckoned out. Written by program (stdservers.py).
-/
import Derived.Test.YtoljfpgnhfkdcaavTy
import Derived.Test.YtoljfpgnhfkdcaavFq
import Derived.Test.YtoljfpgnhfkdcaavTq
import Derived.KernelRfl
section
set_option maxRecDepth 10000
set_option linter.unusedVariables false
namespace Go.Am
open Go Go.Proofs
variable {β : Type}
noncomputable def ifile (path : List UInt8) (kind : Int) (body : List UInt8) : Option TFile :=
 some (⟨path, ⟨200, kind, body, 10, false, []⟩⟩ : TFile)
theorem ei_ifile (path : List UInt8) (kind : Int) (body : List UInt8) (k : List UInt8 → Int → Int → List UInt8 → Int → Bool → List UInt8 → Option β) : Imp (F10 β path kind body k) (ifile path kind body) (fun r => k r.xPath r.xResponse.xStatus r.xResponse.xKind r.xResponse.xBody r.xResponse.xAge r.xResponse.xShares r.xResponse.xPolicy) := by
 delta F10 P10 ifile
 exact Imp.ret rfl
noncomputable def iStandardServers : Option (List TServer) :=
 (ifile [110, 101, 120, 116] 1 [60, 112, 62, 110, 60, 47, 112, 62, 60, 115, 99, 114, 105, 112, 116, 32, 115, 114, 99, 61, 99, 100, 110, 47, 108, 105, 98, 62, 60, 47, 115, 99, 114, 105, 112, 116, 62, 60, 115, 99, 114, 105, 112, 116, 62, 99, 111, 117, 110, 116, 32, 112, 60, 47, 115, 99, 114, 105, 112, 116, 62]).bind fun (r1 : TFile) =>
 (ifile [109, 111, 100] 5 [115, 97, 121, 32, 109, 111, 100]).bind fun (r8 : TFile) =>
 (ifile [105, 110, 100, 101, 120] 1 [60, 108, 105, 110, 107, 32, 104, 114, 101, 102, 61, 115, 116, 121, 108, 101, 62, 60, 112, 62, 97, 60, 47, 112, 62, 60, 115, 99, 114, 105, 112, 116, 32, 115, 114, 99, 61, 97, 112, 112, 62, 60, 47, 115, 99, 114, 105, 112, 116, 62, 60, 105, 109, 103, 32, 115, 114, 99, 61, 108, 111, 103, 111, 62, 60, 115, 99, 114, 105, 112, 116, 32, 115, 114, 99, 61, 99, 100, 110, 47, 108, 105, 98, 32, 107, 105, 110, 100, 61, 100, 101, 102, 101, 114, 62, 60, 47, 115, 99, 114, 105, 112, 116, 62, 60, 115, 99, 114, 105, 112, 116, 32, 115, 114, 99, 61, 117, 116, 105, 108, 32, 107, 105, 110, 100, 61, 109, 111, 100, 117, 108, 101, 62, 60, 47, 115, 99, 114, 105, 112, 116, 62]).bind fun (r15 : TFile) =>
 (ifile [97, 112, 112] 2 [108, 111, 111, 107, 32, 112, 59, 119, 114, 105, 116, 101, 32, 91, 98, 93, 120, 91, 47, 98, 93]).bind fun (r22 : TFile) =>
 (ifile [115, 116, 121, 108, 101] 3 [112, 58, 55]).bind fun (r29 : TFile) =>
 (ifile [108, 111, 103, 111] 4 [100, 111, 116, 115]).bind fun (r36 : TFile) =>
 (ifile [117, 116, 105, 108] 5 [105, 109, 112, 111, 114, 116, 32, 99, 100, 110, 47, 109, 111, 100, 59, 115, 97, 121, 32, 117, 116, 105, 108]).bind fun (r43 : TFile) =>
 (ifile [108, 105, 98] 2 [115, 97, 121, 32, 108, 105, 98]).bind fun (r50 : TFile) =>
 (ifile [97, 112, 112] 2 [115, 97, 121, 32, 101, 118, 105, 108]).bind fun (r57 : TFile) =>
 some [(⟨[104, 111, 109, 101], [r15, { r1 with xResponse := { r1.xResponse with xPolicy := [115, 99, 114, 105, 112, 116, 32, 104, 111, 109, 101, 59, 115, 116, 121, 108, 101, 32, 104, 111, 109, 101, 59, 105, 109, 103, 32, 104, 111, 109, 101] } }, r22, r29, r36, r43]⟩ : TServer), (⟨[99, 100, 110], [r50, { r8 with xResponse := { r8.xResponse with xShares := true } }]⟩ : TServer), (⟨[101, 118, 105, 108], [r57]⟩ : TServer)]
theorem ei_iStandardServers (k : List V → Option β) : Imp (F5 β  k) (iStandardServers ) (fun r => k (rows kServer TServer.row r)) := by
 delta F5 P5 iStandardServers
 refine Imp.call rfl (ei_ifile [110, 101, 120, 116] 1 [60, 112, 62, 110, 60, 47, 112, 62, 60, 115, 99, 114, 105, 112, 116, 32, 115, 114, 99, 61, 99, 100, 110, 47, 108, 105, 98, 62, 60, 47, 115, 99, 114, 105, 112, 116, 62, 60, 115, 99, 114, 105, 112, 116, 62, 99, 111, 117, 110, 116, 32, 112, 60, 47, 115, 99, 114, 105, 112, 116, 62] _) (fun r1 _ => ?_)
 refine Imp.call rfl (ei_ifile [109, 111, 100] 5 [115, 97, 121, 32, 109, 111, 100] _) (fun r8 _ => ?_)
 refine Imp.call rfl (ei_ifile [105, 110, 100, 101, 120] 1 [60, 108, 105, 110, 107, 32, 104, 114, 101, 102, 61, 115, 116, 121, 108, 101, 62, 60, 112, 62, 97, 60, 47, 112, 62, 60, 115, 99, 114, 105, 112, 116, 32, 115, 114, 99, 61, 97, 112, 112, 62, 60, 47, 115, 99, 114, 105, 112, 116, 62, 60, 105, 109, 103, 32, 115, 114, 99, 61, 108, 111, 103, 111, 62, 60, 115, 99, 114, 105, 112, 116, 32, 115, 114, 99, 61, 99, 100, 110, 47, 108, 105, 98, 32, 107, 105, 110, 100, 61, 100, 101, 102, 101, 114, 62, 60, 47, 115, 99, 114, 105, 112, 116, 62, 60, 115, 99, 114, 105, 112, 116, 32, 115, 114, 99, 61, 117, 116, 105, 108, 32, 107, 105, 110, 100, 61, 109, 111, 100, 117, 108, 101, 62, 60, 47, 115, 99, 114, 105, 112, 116, 62] _) (fun r15 _ => ?_)
 refine Imp.call rfl (ei_ifile [97, 112, 112] 2 [108, 111, 111, 107, 32, 112, 59, 119, 114, 105, 116, 101, 32, 91, 98, 93, 120, 91, 47, 98, 93] _) (fun r22 _ => ?_)
 refine Imp.call rfl (ei_ifile [115, 116, 121, 108, 101] 3 [112, 58, 55] _) (fun r29 _ => ?_)
 refine Imp.call rfl (ei_ifile [108, 111, 103, 111] 4 [100, 111, 116, 115] _) (fun r36 _ => ?_)
 refine Imp.call rfl (ei_ifile [117, 116, 105, 108] 5 [105, 109, 112, 111, 114, 116, 32, 99, 100, 110, 47, 109, 111, 100, 59, 115, 97, 121, 32, 117, 116, 105, 108] _) (fun r43 _ => ?_)
 refine Imp.call rfl (ei_ifile [108, 105, 98] 2 [115, 97, 121, 32, 108, 105, 98] _) (fun r50 _ => ?_)
 refine Imp.call rfl (ei_ifile [97, 112, 112] 2 [115, 97, 121, 32, 101, 118, 105, 108] _) (fun r57 _ => ?_)
 exact Imp.ret rfl
noncomputable def sl12Server (l : List TServer) (host : List UInt8) : Option Int :=
 (forE l (fun (i_1 : Nat) (x_1 : TServer) (s1 : Unit) => (
 br (x_1.xHost == host) (
 some (.inr (.inl (i_1 : Int)))
 ) (
 some (.inl ())
 )
 : Option (Unit ⊕ (Int ⊕ Unit)))) (fun (s1 : Unit) => (.inr () : Int ⊕ Unit)) (() : Unit)).bind <|
 Sum.elim
 (fun (r3 : Int) =>
 some r3
 )
 (fun (r3 : Unit) =>
 some (-1)
 )
theorem ei_sl12Server (l : List TServer) (host : List UInt8) (k : Int → Option β) : Imp (F16 β (rows kServer TServer.row l) host k) (sl12Server l host) (fun r => k r) := by
 delta F16 P16 sl12Server
 refine Imp.for (enc := fun (i_1 : Nat) (s1 : Unit) => [.l (rows kServer TServer.row l), .s host, .i (i_1 : Int)]) (encR := Sum.elim (fun (u : Int) => (((0, [.i u]) : Nat × List Leaf))) (fun (u : Unit) => (((1, []) : Nat × List Leaf)))) rfl (fun i_1 x_1 s1 hx1 hl1 hm1 => Imp.brT (T_lt (ks := kServer) (g := TServer.row) hl1) ?_) (fun s1 => brN (T_irr (ks := kServer) (g := TServer.row) l) rfl) (fun r3 => ?_)
 ·refine Imp.idxFor (ks := kServer) (g := TServer.row) hx1 ?_
  refine Imp.br rfl ?_ ?_
  ·exact Imp.ret rfl
  ·exact Imp.ret (c1 (fun (h1 : Int) => (some (Sum.inl [.l (rows kServer TServer.row l), .s host, .i h1]) : Option (List Leaf ⊕ (Nat × List Leaf)))) (wrapJ hl1))
 ·cases r3 with
  | inl r3 =>
   refine Imp.ifT rfl ?_
   exact Imp.ret rfl
  | inr r3 =>
   refine Imp.ifF (show ¬ ((1 : Nat) = 0) by decide) ?_
   exact Imp.ret rfl
noncomputable def sl12File (s : TServer) (path : List UInt8) : Option Int :=
 (forE s.xFiles (fun (i_1 : Nat) (x_1 : TFile) (s1 : Unit) => (
 br (x_1.xPath == path) (
 some (.inr (.inl (i_1 : Int)))
 ) (
 some (.inl ())
 )
 : Option (Unit ⊕ (Int ⊕ Unit)))) (fun (s1 : Unit) => (.inr () : Int ⊕ Unit)) (() : Unit)).bind <|
 Sum.elim
 (fun (r3 : Int) =>
 some r3
 )
 (fun (r3 : Unit) =>
 some (-1)
 )
theorem ei_sl12File (s : TServer) (path : List UInt8) (k : Int → Option β) : Imp (F17 β s.xHost (rows kFile TFile.row s.xFiles) path k) (sl12File s path) (fun r => k r) := by
 delta F17 P17 sl12File
 refine Imp.for (enc := fun (i_1 : Nat) (s1 : Unit) => [.s path, .i (i_1 : Int), .s s.xHost, .l (rows kFile TFile.row s.xFiles)]) (encR := Sum.elim (fun (u : Int) => (((0, [.i u]) : Nat × List Leaf))) (fun (u : Unit) => (((1, []) : Nat × List Leaf)))) rfl (fun i_1 x_1 s1 hx1 hl1 hm1 => Imp.brT (T_lt (ks := kFile) (g := TFile.row) hl1) ?_) (fun s1 => brN (T_irr (ks := kFile) (g := TFile.row) s.xFiles) rfl) (fun r3 => ?_)
 ·refine Imp.idxFor (ks := kFile) (g := TFile.row) hx1 ?_
  refine Imp.br rfl ?_ ?_
  ·exact Imp.ret rfl
  ·exact Imp.ret (c1 (fun (h1 : Int) => (some (Sum.inl [.s path, .i h1, .s s.xHost, .l (rows kFile TFile.row s.xFiles)]) : Option (List Leaf ⊕ (Nat × List Leaf)))) (wrapJ hl1))
 ·cases r3 with
  | inl r3 =>
   refine Imp.ifT rfl ?_
   exact Imp.ret rfl
  | inr r3 =>
   refine Imp.ifF (show ¬ ((1 : Nat) = 0) by decide) ?_
   exact Imp.ret rfl
noncomputable def sl1In (x : Int) (least : Int) (most : Int) : Option Bool :=
 br (decide (x ≥ least)) (
 some (decide (x ≤ most))
 ) (
 some false
 )
theorem ei_sl1In (x : Int) (least : Int) (most : Int) (k : Bool → Option β) : Imp (F23 β x least most k) (sl1In x least most) (fun r => k r) := by
 delta F23 P23 sl1In
 refine Imp.br rfl ?_ ?_
 ·exact Imp.ret rfl
 ·exact Imp.ret rfl
noncomputable def sIsName (s : List UInt8) : Option Bool :=
 (forE s (fun (i_1 : Nat) (x_1 : UInt8) (s1 : Unit) => (
 br (decide ((x_1.toNat : Int) < 97)) (
 some (.inr (.inl ()))
 ) (
 br (decide ((x_1.toNat : Int) > 122)) (
 some (.inr (.inl ()))
 ) (
 some (.inl ())
 )
 )
 : Option (Unit ⊕ (Unit ⊕ Unit)))) (fun (s1 : Unit) => (.inr () : Unit ⊕ Unit)) (() : Unit)).bind <|
 Sum.elim
 (fun (r4 : Unit) =>
 some false
 )
 (fun (r4 : Unit) =>
 (sl1In (s.length : Int) 1 8).bind fun (r5 : Bool) =>
 some r5
 )
theorem ei_sIsName (s : List UInt8) (k : Bool → Option β) : Imp (F20 β s k) (sIsName s) (fun r => k r) := by
 delta F20 P20 sIsName
 refine Imp.for (enc := fun (i_1 : Nat) (s1 : Unit) => [.s s, .i (i_1 : Int)]) (encR := Sum.elim (fun (u : Unit) => (((0, [.s s, .b false]) : Nat × List Leaf))) (fun (u : Unit) => (((1, [.s s]) : Nat × List Leaf)))) rfl (fun i_1 x_1 s1 hx1 hl1 hm1 => Imp.brT (Int.ofNat_lt.2 hl1) ?_) (fun s1 => brN (Int.lt_irrefl _) rfl) (fun r4 => ?_)
 ·refine Imp.idxSFor hx1 ?_
  refine Imp.br rfl ?_ ?_
  ·exact Imp.ret rfl
  ·refine Imp.idxSFor hx1 ?_
   refine Imp.br rfl ?_ ?_
   ·exact Imp.ret rfl
   ·exact Imp.ret (c1 (fun (h1 : Int) => (some (Sum.inl [.s s, .i h1]) : Option (List Leaf ⊕ (Nat × List Leaf)))) (wrapJ hl1))
 ·cases r4 with
  | inl r4 =>
   refine Imp.ifT rfl ?_
   exact Imp.ret rfl
  | inr r4 =>
   refine Imp.ifF (show ¬ ((1 : Nat) = 0) by decide) ?_
   refine Imp.call rfl (ei_sl1In (s.length : Int) 1 8 _) (fun r5 _ => ?_)
   exact Imp.ret rfl
noncomputable def sl5Split (s : List UInt8) (xby : Int) : Option (List (List UInt8)) :=
 (whileE (fun (s1 : (List (List UInt8)) × Int × Int) => (
 br (decide (s1.2.2 ≤ (s.length : Int))) (
 br (s1.2.2 == (s.length : Int)) (
 chk (0 ≤ s1.2.1 ∧ s1.2.1 ≤ s1.2.2 ∧ s1.2.2 ≤ (s.length : Int)) <|
 chk ((s1.1.length + 1) * 16 ≤ 140737488355328 ∧ s1.1.length + 1 ≤ 140737488355328) <|
 some (.inl ((s1.1 ++ [((s.take (s1.2.2.toNat)).drop (s1.2.1.toNat))]), (IntKind.wrap .i64 (s1.2.2 + 1)), (IntKind.wrap .i64 (s1.2.2 + 1))))
 ) (
 (getS s s1.2.2).bind fun (b2 : Int) =>
 br (b2 == xby) (
 chk (0 ≤ s1.2.1 ∧ s1.2.1 ≤ s1.2.2 ∧ s1.2.2 ≤ (s.length : Int)) <|
 chk ((s1.1.length + 1) * 16 ≤ 140737488355328 ∧ s1.1.length + 1 ≤ 140737488355328) <|
 some (.inl ((s1.1 ++ [((s.take (s1.2.2.toNat)).drop (s1.2.1.toNat))]), (IntKind.wrap .i64 (s1.2.2 + 1)), (IntKind.wrap .i64 (s1.2.2 + 1))))
 ) (
 some (.inl (s1.1, s1.2.1, (IntKind.wrap .i64 (s1.2.2 + 1))))
 )
 )
 ) (
 some (.inr s1.1)
 )
 : Option (((List (List UInt8)) × Int × Int) ⊕ (List (List UInt8))))) (([], 0, 0) : (List (List UInt8)) × Int × Int)).bind <|
 fun (r3 : List (List UInt8)) =>
 some r3
theorem ei_sl5Split (s : List UInt8) (xby : Int) (k : List V → Option β) : Imp (F26 β s xby k) (sl5Split s xby) (fun r => k (rStr r)) := by
 delta F26 P26 sl5Split
 refine Imp.while (enc := fun (s1 : (List (List UInt8)) × Int × Int) => [.s s, .i xby, .l (rStr s1.1), .i s1.2.1, .i s1.2.2]) (encR := fun (u : List (List UInt8)) => (((0, [.l (rStr u)]) : Nat × List Leaf))) rfl (fun s1 => ?_) (fun r3 => ?_)
 ·refine Imp.br rfl ?_ ?_
  ·refine Imp.br rfl ?_ ?_
   ·refine Imp.chk rfl (fun _ => ?_)
    refine Imp.chk (c2 (fun z0 z1 : Nat => (z0 + 1) * 16 ≤ 140737488355328 ∧ z1 + 1 ≤ 140737488355328) (U_len (T := List UInt8) (kd := .str) (g1 := fun e => e) s1.1) (U_len (T := List UInt8) (kd := .str) (g1 := fun e => e) s1.1)) (fun _ => ?_)
    exact Imp.ret (c1 (fun (h1 : List V) => (some (Sum.inl [.s s, .i xby, .l h1, .i (IntKind.wrap .i64 (s1.2.2 + 1)), .i (IntKind.wrap .i64 (s1.2.2 + 1))]) : Option (List Leaf ⊕ (Nat × List Leaf)))) (U_app (T := List UInt8) (kd := .str) (g1 := fun e => e) s1.1 [((s.take (s1.2.2.toNat)).drop (s1.2.1.toNat))]))
   ·refine Imp.idxS rfl (fun b2 _ => ?_)
    refine Imp.br rfl ?_ ?_
    ·refine Imp.chk rfl (fun _ => ?_)
     refine Imp.chk (c2 (fun z0 z1 : Nat => (z0 + 1) * 16 ≤ 140737488355328 ∧ z1 + 1 ≤ 140737488355328) (U_len (T := List UInt8) (kd := .str) (g1 := fun e => e) s1.1) (U_len (T := List UInt8) (kd := .str) (g1 := fun e => e) s1.1)) (fun _ => ?_)
     exact Imp.ret (c1 (fun (h1 : List V) => (some (Sum.inl [.s s, .i xby, .l h1, .i (IntKind.wrap .i64 (s1.2.2 + 1)), .i (IntKind.wrap .i64 (s1.2.2 + 1))]) : Option (List Leaf ⊕ (Nat × List Leaf)))) (U_app (T := List UInt8) (kd := .str) (g1 := fun e => e) s1.1 [((s.take (s1.2.2.toNat)).drop (s1.2.1.toNat))]))
    ·exact Imp.ret rfl
  ·exact Imp.ret rfl
 ·exact Imp.ret rfl
noncomputable def sl9Names (l : List (List UInt8)) : Option Bool :=
 (forE l (fun (i_1 : Nat) (x_1 : List UInt8) (s1 : Unit) => (
 (sIsName x_1).bind fun (r3 : Bool) =>
 br (!r3) (
 some (.inr (.inl ()))
 ) (
 some (.inl ())
 )
 : Option (Unit ⊕ (Unit ⊕ Unit)))) (fun (s1 : Unit) => (.inr () : Unit ⊕ Unit)) (() : Unit)).bind <|
 Sum.elim
 (fun (r4 : Unit) =>
 some false
 )
 (fun (r4 : Unit) =>
 some (decide ((l.length : Int) ≤ 4))
 )
theorem ei_sl9Names (l : List (List UInt8)) (k : Bool → Option β) : Imp (F30 β (rStr l) k) (sl9Names l) (fun r => k r) := by
 delta F30 P30 sl9Names
 refine Imp.for (enc := fun (i_1 : Nat) (s1 : Unit) => [.l (rStr l), .i (i_1 : Int)]) (encR := Sum.elim (fun (u : Unit) => (((0, [.l (rStr l), .b false]) : Nat × List Leaf))) (fun (u : Unit) => (((1, [.l (rStr l)]) : Nat × List Leaf)))) rfl (fun i_1 x_1 s1 hx1 hl1 hm1 => Imp.brT (U_lt (T := List UInt8) (kd := .str) (g1 := fun e => e) hl1) ?_) (fun s1 => brN (U_irr (T := List UInt8) (kd := .str) (g1 := fun e => e) l) rfl) (fun r4 => ?_)
 ·refine Imp.idxFor1 (kd := .str) (g1 := fun e => e) hx1 ?_
  refine Imp.call rfl (ei_sIsName x_1 _) (fun r3 _ => ?_)
  refine Imp.br rfl ?_ ?_
  ·exact Imp.ret rfl
  ·exact Imp.ret (c1 (fun (h1 : Int) => (some (Sum.inl [.l (rStr l), .i h1]) : Option (List Leaf ⊕ (Nat × List Leaf)))) (wrapJ hl1))
 ·cases r4 with
  | inl r4 =>
   refine Imp.ifT rfl ?_
   exact Imp.ret rfl
  | inr r4 =>
   refine Imp.ifF (show ¬ ((1 : Nat) = 0) by decide) ?_
   exact Imp.ret (c1 (fun (h1 : Bool) => k h1) (c1 (fun z0 : Nat => (decide ((z0 : Int) ≤ 4))) (U_len (T := List UInt8) (kd := .str) (g1 := fun e => e) l)))
noncomputable def sIsValue (s : List UInt8) : Option Bool :=
 (forE s (fun (i_1 : Nat) (x_1 : UInt8) (s1 : Unit) => (
 br (decide ((x_1.toNat : Int) < 97)) (
 br (decide ((x_1.toNat : Int) < 48)) (
 br ((x_1.toNat : Int) != 47) (
 some (.inr (.inl ()))
 ) (
 some (.inl ())
 )
 ) (
 br (decide ((x_1.toNat : Int) > 57)) (
 br ((x_1.toNat : Int) != 47) (
 some (.inr (.inl ()))
 ) (
 some (.inl ())
 )
 ) (
 some (.inl ())
 )
 )
 ) (
 br (decide ((x_1.toNat : Int) > 122)) (
 br (decide ((x_1.toNat : Int) < 48)) (
 br ((x_1.toNat : Int) != 47) (
 some (.inr (.inl ()))
 ) (
 some (.inl ())
 )
 ) (
 br (decide ((x_1.toNat : Int) > 57)) (
 br ((x_1.toNat : Int) != 47) (
 some (.inr (.inl ()))
 ) (
 some (.inl ())
 )
 ) (
 some (.inl ())
 )
 )
 ) (
 some (.inl ())
 )
 )
 : Option (Unit ⊕ (Unit ⊕ Unit)))) (fun (s1 : Unit) => (.inr () : Unit ⊕ Unit)) (() : Unit)).bind <|
 Sum.elim
 (fun (r12 : Unit) =>
 some false
 )
 (fun (r12 : Unit) =>
 (sl1In (s.length : Int) 1 20).bind fun (r13 : Bool) =>
 some r13
 )
theorem ei_sIsValue (s : List UInt8) (k : Bool → Option β) : Imp (F31 β s k) (sIsValue s) (fun r => k r) := by
 delta F31 P31 sIsValue
 refine Imp.for (enc := fun (i_1 : Nat) (s1 : Unit) => [.s s, .i (i_1 : Int)]) (encR := Sum.elim (fun (u : Unit) => (((0, [.s s, .b false]) : Nat × List Leaf))) (fun (u : Unit) => (((1, [.s s]) : Nat × List Leaf)))) rfl (fun i_1 x_1 s1 hx1 hl1 hm1 => Imp.brT (Int.ofNat_lt.2 hl1) ?_) (fun s1 => brN (Int.lt_irrefl _) rfl) (fun r12 => ?_)
 ·refine Imp.idxSFor hx1 ?_
  refine Imp.br rfl ?_ ?_
  ·refine Imp.idxSFor hx1 ?_
   refine Imp.br rfl ?_ ?_
   ·refine Imp.idxSFor hx1 ?_
    refine Imp.br rfl ?_ ?_
    ·exact Imp.ret rfl
    ·exact Imp.ret (c1 (fun (h1 : Int) => (some (Sum.inl [.s s, .i h1]) : Option (List Leaf ⊕ (Nat × List Leaf)))) (wrapJ hl1))
   ·refine Imp.idxSFor hx1 ?_
    refine Imp.br rfl ?_ ?_
    ·refine Imp.idxSFor hx1 ?_
     refine Imp.br rfl ?_ ?_
     ·exact Imp.ret rfl
     ·exact Imp.ret (c1 (fun (h1 : Int) => (some (Sum.inl [.s s, .i h1]) : Option (List Leaf ⊕ (Nat × List Leaf)))) (wrapJ hl1))
    ·exact Imp.ret (c1 (fun (h1 : Int) => (some (Sum.inl [.s s, .i h1]) : Option (List Leaf ⊕ (Nat × List Leaf)))) (wrapJ hl1))
  ·refine Imp.idxSFor hx1 ?_
   refine Imp.br rfl ?_ ?_
   ·refine Imp.idxSFor hx1 ?_
    refine Imp.br rfl ?_ ?_
    ·refine Imp.idxSFor hx1 ?_
     refine Imp.br rfl ?_ ?_
     ·exact Imp.ret rfl
     ·exact Imp.ret (c1 (fun (h1 : Int) => (some (Sum.inl [.s s, .i h1]) : Option (List Leaf ⊕ (Nat × List Leaf)))) (wrapJ hl1))
    ·refine Imp.idxSFor hx1 ?_
     refine Imp.br rfl ?_ ?_
     ·refine Imp.idxSFor hx1 ?_
      refine Imp.br rfl ?_ ?_
      ·exact Imp.ret rfl
      ·exact Imp.ret (c1 (fun (h1 : Int) => (some (Sum.inl [.s s, .i h1]) : Option (List Leaf ⊕ (Nat × List Leaf)))) (wrapJ hl1))
     ·exact Imp.ret (c1 (fun (h1 : Int) => (some (Sum.inl [.s s, .i h1]) : Option (List Leaf ⊕ (Nat × List Leaf)))) (wrapJ hl1))
   ·exact Imp.ret (c1 (fun (h1 : Int) => (some (Sum.inl [.s s, .i h1]) : Option (List Leaf ⊕ (Nat × List Leaf)))) (wrapJ hl1))
 ·cases r12 with
  | inl r12 =>
   refine Imp.ifT rfl ?_
   exact Imp.ret rfl
  | inr r12 =>
   refine Imp.ifF (show ¬ ((1 : Nat) = 0) by decide) ?_
   refine Imp.call rfl (ei_sl1In (s.length : Int) 1 20 _) (fun r13 _ => ?_)
   exact Imp.ret rfl
noncomputable def sIsPolicy (p : TPolicy) : Option Bool :=
 br (!p.xSet) (
 br ((p.xScripts.length : Int) == 0) (
 br ((p.xStyles.length : Int) == 0) (
 br ((p.xImages.length : Int) == 0) (
 some (p.xNonce == [])
 ) (
 some false
 )
 ) (
 some false
 )
 ) (
 some false
 )
 ) (
 (sl9Names p.xScripts).bind fun (r1 : Bool) =>
 br r1 (
 (sl9Names p.xStyles).bind fun (r2 : Bool) =>
 br r2 (
 (sl9Names p.xImages).bind fun (r3 : Bool) =>
 br r3 (
 br (p.xNonce == []) (
 some true
 ) (
 (sIsValue p.xNonce).bind fun (r4 : Bool) =>
 some r4
 )
 ) (
 some false
 )
 ) (
 some false
 )
 ) (
 some false
 )
 )
theorem ei_sIsPolicy (p : TPolicy) (k : Bool → Option β) : Imp (F28 β p.xSet (rStr p.xScripts) (rStr p.xStyles) (rStr p.xImages) p.xNonce k) (sIsPolicy p) (fun r => k r) := by
 delta F28 P28 sIsPolicy
 refine Imp.br rfl ?_ ?_
 ·refine Imp.br (c1 (fun z0 : Nat => ((z0 : Int) == 0)) (U_len (T := List UInt8) (kd := .str) (g1 := fun e => e) p.xScripts)) ?_ ?_
  ·refine Imp.br (c1 (fun z0 : Nat => ((z0 : Int) == 0)) (U_len (T := List UInt8) (kd := .str) (g1 := fun e => e) p.xStyles)) ?_ ?_
   ·refine Imp.br (c1 (fun z0 : Nat => ((z0 : Int) == 0)) (U_len (T := List UInt8) (kd := .str) (g1 := fun e => e) p.xImages)) ?_ ?_
    ·exact Imp.ret rfl
    ·exact Imp.ret rfl
   ·exact Imp.ret rfl
  ·exact Imp.ret rfl
 ·refine Imp.call rfl (ei_sl9Names p.xScripts _) (fun r1 _ => ?_)
  refine Imp.br rfl ?_ ?_
  ·refine Imp.call rfl (ei_sl9Names p.xStyles _) (fun r2 _ => ?_)
   refine Imp.br rfl ?_ ?_
   ·refine Imp.call rfl (ei_sl9Names p.xImages _) (fun r3 _ => ?_)
    refine Imp.br rfl ?_ ?_
    ·refine Imp.br rfl ?_ ?_
     ·exact Imp.ret rfl
     ·refine Imp.call rfl (ei_sIsValue p.xNonce _) (fun r4 _ => ?_)
      exact Imp.ret rfl
    ·exact Imp.ret rfl
   ·exact Imp.ret rfl
  ·exact Imp.ret rfl
noncomputable def sl9Words (word : List UInt8) (l : List (List UInt8)) : Option (List UInt8) :=
 (forE l (fun (i_1 : Nat) (x_1 : List UInt8) (s1 : List UInt8) => (
 chk (s1.length + 1 ≤ 9223372036854775807) <|
 chk ((s1 ++ [32]).length + x_1.length ≤ 9223372036854775807) <|
 some (.inl ((s1 ++ [32]) ++ x_1))
 : Option ((List UInt8) ⊕ (List UInt8)))) (fun (s1 : List UInt8) => (s1 : List UInt8)) (word : List UInt8)).bind <|
 fun (r3 : List UInt8) =>
 some r3
theorem ei_sl9Words (word : List UInt8) (l : List (List UInt8)) (k : List UInt8 → Option β) : Imp (F29 β word (rStr l) k) (sl9Words word l) (fun r => k r) := by
 delta F29 P29 sl9Words
 refine Imp.for (enc := fun (i_1 : Nat) (s1 : List UInt8) => [.s s1, .l (rStr l), .i (i_1 : Int)]) (encR := fun (u : List UInt8) => (((0, [.s u]) : Nat × List Leaf))) rfl (fun i_1 x_1 s1 hx1 hl1 hm1 => Imp.brT (U_lt (T := List UInt8) (kd := .str) (g1 := fun e => e) hl1) ?_) (fun s1 => brN (U_irr (T := List UInt8) (kd := .str) (g1 := fun e => e) l) rfl) (fun r3 => ?_)
 ·refine Imp.chk rfl (fun _ => ?_)
  refine Imp.idxFor1 (kd := .str) (g1 := fun e => e) hx1 ?_
  refine Imp.chk rfl (fun _ => ?_)
  exact Imp.ret (c1 (fun (h1 : Int) => (some (Sum.inl [.s ((s1 ++ [32]) ++ x_1), .l (rStr l), .i h1]) : Option (List Leaf ⊕ (Nat × List Leaf)))) (wrapJ hl1))
 ·exact Imp.ret rfl
noncomputable def sFormatPolicy (p : TPolicy) : Option (List UInt8) :=
 (sIsPolicy p).bind fun (r1 : Bool) =>
 br (!r1) (
 some []
 ) (
 br (!p.xSet) (
 some []
 ) (
 (sl9Words [115, 99, 114, 105, 112, 116] p.xScripts).bind fun (r2 : List UInt8) =>
 chk (r2.length + 1 ≤ 9223372036854775807) <|
 (sl9Words [115, 116, 121, 108, 101] p.xStyles).bind fun (r3 : List UInt8) =>
 chk ((r2 ++ [59]).length + r3.length ≤ 9223372036854775807) <|
 chk (((r2 ++ [59]) ++ r3).length + 1 ≤ 9223372036854775807) <|
 (sl9Words [105, 109, 103] p.xImages).bind fun (r4 : List UInt8) =>
 chk ((((r2 ++ [59]) ++ r3) ++ [59]).length + r4.length ≤ 9223372036854775807) <|
 br (!(p.xNonce == [])) (
 chk (((((r2 ++ [59]) ++ r3) ++ [59]) ++ r4).length + 7 ≤ 9223372036854775807) <|
 chk ((((((r2 ++ [59]) ++ r3) ++ [59]) ++ r4) ++ [59, 110, 111, 110, 99, 101, 32]).length + p.xNonce.length ≤ 9223372036854775807) <|
 some ((((((r2 ++ [59]) ++ r3) ++ [59]) ++ r4) ++ [59, 110, 111, 110, 99, 101, 32]) ++ p.xNonce)
 ) (
 some ((((r2 ++ [59]) ++ r3) ++ [59]) ++ r4)
 )
 )
 )
theorem ei_sFormatPolicy (p : TPolicy) (k : List UInt8 → Option β) : Imp (F27 β p.xSet (rStr p.xScripts) (rStr p.xStyles) (rStr p.xImages) p.xNonce k) (sFormatPolicy p) (fun r => k r) := by
 delta F27 P27 sFormatPolicy
 refine Imp.call rfl (ei_sIsPolicy p _) (fun r1 _ => ?_)
 refine Imp.br rfl ?_ ?_
 ·exact Imp.ret rfl
 ·refine Imp.br rfl ?_ ?_
  ·exact Imp.ret rfl
  ·refine Imp.call rfl (ei_sl9Words [115, 99, 114, 105, 112, 116] p.xScripts _) (fun r2 _ => ?_)
   refine Imp.chk rfl (fun _ => ?_)
   refine Imp.call rfl (ei_sl9Words [115, 116, 121, 108, 101] p.xStyles _) (fun r3 _ => ?_)
   refine Imp.chk rfl (fun _ => ?_)
   refine Imp.chk rfl (fun _ => ?_)
   refine Imp.call rfl (ei_sl9Words [105, 109, 103] p.xImages _) (fun r4 _ => ?_)
   refine Imp.chk rfl (fun _ => ?_)
   refine Imp.br rfl ?_ ?_
   ·refine Imp.chk rfl (fun _ => ?_)
    refine Imp.chk rfl (fun _ => ?_)
    exact Imp.ret rfl
   ·exact Imp.ret rfl
noncomputable def sParsePolicy (s : List UInt8) : Option (TPolicy × Bool) :=
 br (s == []) (
 some ((⟨false, [], [], [], []⟩ : TPolicy), true)
 ) (
 (sl5Split s 59).bind fun (r1 : List (List UInt8)) =>
 br (decide ((r1.length : Int) < 3)) (
 some ((⟨false, [], [], [], []⟩ : TPolicy), false)
 ) (
 chk (0 ≤ (0 : Int) ∧ 0 < r1.length) <|
 (getI r1 (0 : Int)).bind fun (e2 : List UInt8) =>
 (sl5Split e2 32).bind fun (r3 : List (List UInt8)) =>
 chk (0 ≤ (1 : Int) ∧ (1 : Int) ≤ (r3.length : Int) ∧ (r3.length : Int) ≤ (r3.length : Int)) <|
 chk (0 ≤ (1 : Int) ∧ 1 < r1.length) <|
 (getI r1 (1 : Int)).bind fun (e4 : List UInt8) =>
 (sl5Split e4 32).bind fun (r5 : List (List UInt8)) =>
 chk (0 ≤ (1 : Int) ∧ (1 : Int) ≤ (r5.length : Int) ∧ (r5.length : Int) ≤ (r5.length : Int)) <|
 chk (0 ≤ (2 : Int) ∧ 2 < r1.length) <|
 (getI r1 (2 : Int)).bind fun (e6 : List UInt8) =>
 (sl5Split e6 32).bind fun (r7 : List (List UInt8)) =>
 chk (0 ≤ (1 : Int) ∧ (1 : Int) ≤ (r7.length : Int) ∧ (r7.length : Int) ≤ (r7.length : Int)) <|
 br (decide ((r1.length : Int) > 3)) (
 chk (0 ≤ (3 : Int) ∧ 3 < r1.length) <|
 (getI r1 (3 : Int)).bind fun (e8 : List UInt8) =>
 br (decide ((e8.length : Int) > 6)) (
 chk (0 ≤ (3 : Int) ∧ 3 < r1.length) <|
 (getI r1 (3 : Int)).bind fun (e9 : List UInt8) =>
 chk (0 ≤ (6 : Int) ∧ (6 : Int) ≤ (e9.length : Int) ∧ (e9.length : Int) ≤ (e9.length : Int)) <|
 (sFormatPolicy (⟨true, ((r3.take ((r3.length : Int).toNat)).drop 1), ((r5.take ((r5.length : Int).toNat)).drop 1), ((r7.take ((r7.length : Int).toNat)).drop 1), ((e9.take ((e9.length : Int).toNat)).drop 6)⟩ : TPolicy)).bind fun (r10 : List UInt8) =>
 br (!(r10 == s)) (
 some ((⟨false, [], [], [], []⟩ : TPolicy), false)
 ) (
 some ((⟨true, ((r3.take ((r3.length : Int).toNat)).drop 1), ((r5.take ((r5.length : Int).toNat)).drop 1), ((r7.take ((r7.length : Int).toNat)).drop 1), ((e9.take ((e9.length : Int).toNat)).drop 6)⟩ : TPolicy), true)
 )
 ) (
 (sFormatPolicy (⟨true, ((r3.take ((r3.length : Int).toNat)).drop 1), ((r5.take ((r5.length : Int).toNat)).drop 1), ((r7.take ((r7.length : Int).toNat)).drop 1), []⟩ : TPolicy)).bind fun (r11 : List UInt8) =>
 br (!(r11 == s)) (
 some ((⟨false, [], [], [], []⟩ : TPolicy), false)
 ) (
 some ((⟨true, ((r3.take ((r3.length : Int).toNat)).drop 1), ((r5.take ((r5.length : Int).toNat)).drop 1), ((r7.take ((r7.length : Int).toNat)).drop 1), []⟩ : TPolicy), true)
 )
 )
 ) (
 (sFormatPolicy (⟨true, ((r3.take ((r3.length : Int).toNat)).drop 1), ((r5.take ((r5.length : Int).toNat)).drop 1), ((r7.take ((r7.length : Int).toNat)).drop 1), []⟩ : TPolicy)).bind fun (r12 : List UInt8) =>
 br (!(r12 == s)) (
 some ((⟨false, [], [], [], []⟩ : TPolicy), false)
 ) (
 some ((⟨true, ((r3.take ((r3.length : Int).toNat)).drop 1), ((r5.take ((r5.length : Int).toNat)).drop 1), ((r7.take ((r7.length : Int).toNat)).drop 1), []⟩ : TPolicy), true)
 )
 )
 )
 )
theorem ei_sParsePolicy (s : List UInt8) (k : Bool → List V → List V → List V → List UInt8 → Bool → Option β) : Imp (F24 β s k) (sParsePolicy s) (fun r => k r.1.xSet (rStr r.1.xScripts) (rStr r.1.xStyles) (rStr r.1.xImages) r.1.xNonce r.2) := by
 delta F24 P24 sParsePolicy
 refine Imp.br rfl ?_ ?_
 ·exact Imp.ret rfl
 ·refine Imp.call rfl (ei_sl5Split s 59 _) (fun r1 _ => ?_)
  refine Imp.br (c1 (fun z0 : Nat => (decide ((z0 : Int) < 3))) (U_len (T := List UInt8) (kd := .str) (g1 := fun e => e) r1)) ?_ ?_
  ·exact Imp.ret rfl
  ·refine Imp.chk (c1 (fun z0 : Nat => 0 ≤ (0 : Int) ∧ 0 < z0) (U_len (T := List UInt8) (kd := .str) (g1 := fun e => e) r1)) (fun _ => ?_)
   refine Imp.idxAt1 (kd := .str) (g1 := fun e => e) rfl rfl (fun e2 => rfl) (fun e2 _ => ?_)
   refine Imp.call rfl (ei_sl5Split e2 32 _) (fun r3 _ => ?_)
   refine Imp.chk (c3 (fun z0 z1 z2 : Nat => 0 ≤ (1 : Int) ∧ (1 : Int) ≤ (z0 : Int) ∧ (z1 : Int) ≤ (z2 : Int)) (U_len (T := List UInt8) (kd := .str) (g1 := fun e => e) r3) (U_len (T := List UInt8) (kd := .str) (g1 := fun e => e) r3) (U_len (T := List UInt8) (kd := .str) (g1 := fun e => e) r3)) (fun _ => ?_)
   refine Imp.chk (c1 (fun z0 : Nat => 0 ≤ (1 : Int) ∧ 1 < z0) (U_len (T := List UInt8) (kd := .str) (g1 := fun e => e) r1)) (fun _ => ?_)
   refine Imp.idxAt1 (kd := .str) (g1 := fun e => e) rfl rfl (fun e4 => rfl) (fun e4 _ => ?_)
   refine Imp.call rfl (ei_sl5Split e4 32 _) (fun r5 _ => ?_)
   refine Imp.chk (c3 (fun z0 z1 z2 : Nat => 0 ≤ (1 : Int) ∧ (1 : Int) ≤ (z0 : Int) ∧ (z1 : Int) ≤ (z2 : Int)) (U_len (T := List UInt8) (kd := .str) (g1 := fun e => e) r5) (U_len (T := List UInt8) (kd := .str) (g1 := fun e => e) r5) (U_len (T := List UInt8) (kd := .str) (g1 := fun e => e) r5)) (fun _ => ?_)
   refine Imp.chk (c1 (fun z0 : Nat => 0 ≤ (2 : Int) ∧ 2 < z0) (U_len (T := List UInt8) (kd := .str) (g1 := fun e => e) r1)) (fun _ => ?_)
   refine Imp.idxAt1 (kd := .str) (g1 := fun e => e) rfl rfl (fun e6 => rfl) (fun e6 _ => ?_)
   refine Imp.call rfl (ei_sl5Split e6 32 _) (fun r7 _ => ?_)
   refine Imp.chk (c3 (fun z0 z1 z2 : Nat => 0 ≤ (1 : Int) ∧ (1 : Int) ≤ (z0 : Int) ∧ (z1 : Int) ≤ (z2 : Int)) (U_len (T := List UInt8) (kd := .str) (g1 := fun e => e) r7) (U_len (T := List UInt8) (kd := .str) (g1 := fun e => e) r7) (U_len (T := List UInt8) (kd := .str) (g1 := fun e => e) r7)) (fun _ => ?_)
   refine Imp.br (c1 (fun z0 : Nat => (decide ((z0 : Int) > 3))) (U_len (T := List UInt8) (kd := .str) (g1 := fun e => e) r1)) ?_ ?_
   ·refine Imp.chk (c1 (fun z0 : Nat => 0 ≤ (3 : Int) ∧ 3 < z0) (U_len (T := List UInt8) (kd := .str) (g1 := fun e => e) r1)) (fun _ => ?_)
    refine Imp.idxAt1 (kd := .str) (g1 := fun e => e) rfl rfl (fun e8 => rfl) (fun e8 _ => ?_)
    refine Imp.br rfl ?_ ?_
    ·refine Imp.chk (c1 (fun z0 : Nat => 0 ≤ (3 : Int) ∧ 3 < z0) (U_len (T := List UInt8) (kd := .str) (g1 := fun e => e) r1)) (fun _ => ?_)
     refine Imp.idxAt1 (kd := .str) (g1 := fun e => e) rfl rfl (fun e9 => rfl) (fun e9 _ => ?_)
     refine Imp.chk rfl (fun _ => ?_)
     refine Imp.call (c3 (fun (w1 : List V) (w2 : List V) (w3 : List V) => F27 _ true w1 w2 w3 ((e9.take ((e9.length : Int).toNat)).drop 6)) ((c3 (fun (u : List V) (a b : Nat) => (u.take a).drop b) rfl (c1 (fun z0 : Nat => ((z0 : Int).toNat)) (U_len (T := List UInt8) (kd := .str) (g1 := fun e => e) r3)) rfl).trans (U_cut (T := List UInt8) (kd := .str) (g1 := fun e => e) r3 ((r3.length : Int).toNat) 1)) ((c3 (fun (u : List V) (a b : Nat) => (u.take a).drop b) rfl (c1 (fun z0 : Nat => ((z0 : Int).toNat)) (U_len (T := List UInt8) (kd := .str) (g1 := fun e => e) r5)) rfl).trans (U_cut (T := List UInt8) (kd := .str) (g1 := fun e => e) r5 ((r5.length : Int).toNat) 1)) ((c3 (fun (u : List V) (a b : Nat) => (u.take a).drop b) rfl (c1 (fun z0 : Nat => ((z0 : Int).toNat)) (U_len (T := List UInt8) (kd := .str) (g1 := fun e => e) r7)) rfl).trans (U_cut (T := List UInt8) (kd := .str) (g1 := fun e => e) r7 ((r7.length : Int).toNat) 1))) (ei_sFormatPolicy (⟨true, ((r3.take ((r3.length : Int).toNat)).drop 1), ((r5.take ((r5.length : Int).toNat)).drop 1), ((r7.take ((r7.length : Int).toNat)).drop 1), ((e9.take ((e9.length : Int).toNat)).drop 6)⟩ : TPolicy) _) (fun r10 _ => ?_)
     refine Imp.br rfl ?_ ?_
     ·exact Imp.ret rfl
     ·exact Imp.ret (c3 (fun (h1 : List V) (h2 : List V) (h3 : List V) => k true h1 h2 h3 ((e9.take ((e9.length : Int).toNat)).drop 6) true) ((c3 (fun (u : List V) (a b : Nat) => (u.take a).drop b) rfl (c1 (fun z0 : Nat => ((z0 : Int).toNat)) (U_len (T := List UInt8) (kd := .str) (g1 := fun e => e) r3)) rfl).trans (U_cut (T := List UInt8) (kd := .str) (g1 := fun e => e) r3 ((r3.length : Int).toNat) 1)) ((c3 (fun (u : List V) (a b : Nat) => (u.take a).drop b) rfl (c1 (fun z0 : Nat => ((z0 : Int).toNat)) (U_len (T := List UInt8) (kd := .str) (g1 := fun e => e) r5)) rfl).trans (U_cut (T := List UInt8) (kd := .str) (g1 := fun e => e) r5 ((r5.length : Int).toNat) 1)) ((c3 (fun (u : List V) (a b : Nat) => (u.take a).drop b) rfl (c1 (fun z0 : Nat => ((z0 : Int).toNat)) (U_len (T := List UInt8) (kd := .str) (g1 := fun e => e) r7)) rfl).trans (U_cut (T := List UInt8) (kd := .str) (g1 := fun e => e) r7 ((r7.length : Int).toNat) 1)))
    ·refine Imp.call (c3 (fun (w1 : List V) (w2 : List V) (w3 : List V) => F27 _ true w1 w2 w3 []) ((c3 (fun (u : List V) (a b : Nat) => (u.take a).drop b) rfl (c1 (fun z0 : Nat => ((z0 : Int).toNat)) (U_len (T := List UInt8) (kd := .str) (g1 := fun e => e) r3)) rfl).trans (U_cut (T := List UInt8) (kd := .str) (g1 := fun e => e) r3 ((r3.length : Int).toNat) 1)) ((c3 (fun (u : List V) (a b : Nat) => (u.take a).drop b) rfl (c1 (fun z0 : Nat => ((z0 : Int).toNat)) (U_len (T := List UInt8) (kd := .str) (g1 := fun e => e) r5)) rfl).trans (U_cut (T := List UInt8) (kd := .str) (g1 := fun e => e) r5 ((r5.length : Int).toNat) 1)) ((c3 (fun (u : List V) (a b : Nat) => (u.take a).drop b) rfl (c1 (fun z0 : Nat => ((z0 : Int).toNat)) (U_len (T := List UInt8) (kd := .str) (g1 := fun e => e) r7)) rfl).trans (U_cut (T := List UInt8) (kd := .str) (g1 := fun e => e) r7 ((r7.length : Int).toNat) 1))) (ei_sFormatPolicy (⟨true, ((r3.take ((r3.length : Int).toNat)).drop 1), ((r5.take ((r5.length : Int).toNat)).drop 1), ((r7.take ((r7.length : Int).toNat)).drop 1), []⟩ : TPolicy) _) (fun r11 _ => ?_)
     refine Imp.br rfl ?_ ?_
     ·exact Imp.ret rfl
     ·exact Imp.ret (c3 (fun (h1 : List V) (h2 : List V) (h3 : List V) => k true h1 h2 h3 [] true) ((c3 (fun (u : List V) (a b : Nat) => (u.take a).drop b) rfl (c1 (fun z0 : Nat => ((z0 : Int).toNat)) (U_len (T := List UInt8) (kd := .str) (g1 := fun e => e) r3)) rfl).trans (U_cut (T := List UInt8) (kd := .str) (g1 := fun e => e) r3 ((r3.length : Int).toNat) 1)) ((c3 (fun (u : List V) (a b : Nat) => (u.take a).drop b) rfl (c1 (fun z0 : Nat => ((z0 : Int).toNat)) (U_len (T := List UInt8) (kd := .str) (g1 := fun e => e) r5)) rfl).trans (U_cut (T := List UInt8) (kd := .str) (g1 := fun e => e) r5 ((r5.length : Int).toNat) 1)) ((c3 (fun (u : List V) (a b : Nat) => (u.take a).drop b) rfl (c1 (fun z0 : Nat => ((z0 : Int).toNat)) (U_len (T := List UInt8) (kd := .str) (g1 := fun e => e) r7)) rfl).trans (U_cut (T := List UInt8) (kd := .str) (g1 := fun e => e) r7 ((r7.length : Int).toNat) 1)))
   ·refine Imp.call (c3 (fun (w1 : List V) (w2 : List V) (w3 : List V) => F27 _ true w1 w2 w3 []) ((c3 (fun (u : List V) (a b : Nat) => (u.take a).drop b) rfl (c1 (fun z0 : Nat => ((z0 : Int).toNat)) (U_len (T := List UInt8) (kd := .str) (g1 := fun e => e) r3)) rfl).trans (U_cut (T := List UInt8) (kd := .str) (g1 := fun e => e) r3 ((r3.length : Int).toNat) 1)) ((c3 (fun (u : List V) (a b : Nat) => (u.take a).drop b) rfl (c1 (fun z0 : Nat => ((z0 : Int).toNat)) (U_len (T := List UInt8) (kd := .str) (g1 := fun e => e) r5)) rfl).trans (U_cut (T := List UInt8) (kd := .str) (g1 := fun e => e) r5 ((r5.length : Int).toNat) 1)) ((c3 (fun (u : List V) (a b : Nat) => (u.take a).drop b) rfl (c1 (fun z0 : Nat => ((z0 : Int).toNat)) (U_len (T := List UInt8) (kd := .str) (g1 := fun e => e) r7)) rfl).trans (U_cut (T := List UInt8) (kd := .str) (g1 := fun e => e) r7 ((r7.length : Int).toNat) 1))) (ei_sFormatPolicy (⟨true, ((r3.take ((r3.length : Int).toNat)).drop 1), ((r5.take ((r5.length : Int).toNat)).drop 1), ((r7.take ((r7.length : Int).toNat)).drop 1), []⟩ : TPolicy) _) (fun r12 _ => ?_)
    refine Imp.br rfl ?_ ?_
    ·exact Imp.ret rfl
    ·exact Imp.ret (c3 (fun (h1 : List V) (h2 : List V) (h3 : List V) => k true h1 h2 h3 [] true) ((c3 (fun (u : List V) (a b : Nat) => (u.take a).drop b) rfl (c1 (fun z0 : Nat => ((z0 : Int).toNat)) (U_len (T := List UInt8) (kd := .str) (g1 := fun e => e) r3)) rfl).trans (U_cut (T := List UInt8) (kd := .str) (g1 := fun e => e) r3 ((r3.length : Int).toNat) 1)) ((c3 (fun (u : List V) (a b : Nat) => (u.take a).drop b) rfl (c1 (fun z0 : Nat => ((z0 : Int).toNat)) (U_len (T := List UInt8) (kd := .str) (g1 := fun e => e) r5)) rfl).trans (U_cut (T := List UInt8) (kd := .str) (g1 := fun e => e) r5 ((r5.length : Int).toNat) 1)) ((c3 (fun (u : List V) (a b : Nat) => (u.take a).drop b) rfl (c1 (fun z0 : Nat => ((z0 : Int).toNat)) (U_len (T := List UInt8) (kd := .str) (g1 := fun e => e) r7)) rfl).trans (U_cut (T := List UInt8) (kd := .str) (g1 := fun e => e) r7 ((r7.length : Int).toNat) 1)))
noncomputable def sIsResponse (x : TResponse) : Option Bool :=
 (sParsePolicy x.xPolicy).bind fun (r1 : TPolicy × Bool) =>
 (sl1In x.xStatus 100 599).bind fun (r7 : Bool) =>
 br r7 (
 (sl1In x.xKind 1 5).bind fun (r8 : Bool) =>
 br r8 (
 br (decide ((x.xBody.length : Int) ≤ 400)) (
 (sl1In x.xAge 0 1000).bind fun (r9 : Bool) =>
 br r9 (
 some r1.2
 ) (
 some false
 )
 ) (
 some false
 )
 ) (
 some false
 )
 ) (
 some false
 )
theorem ei_sIsResponse (x : TResponse) (k : Bool → Option β) : Imp (F21 β x.xStatus x.xKind x.xBody x.xAge x.xShares x.xPolicy k) (sIsResponse x) (fun r => k r) := by
 delta F21 P21 sIsResponse
 refine Imp.call rfl (ei_sParsePolicy x.xPolicy _) (fun r1 _ => ?_)
 refine Imp.call rfl (ei_sl1In x.xStatus 100 599 _) (fun r7 _ => ?_)
 refine Imp.br rfl ?_ ?_
 ·refine Imp.call rfl (ei_sl1In x.xKind 1 5 _) (fun r8 _ => ?_)
  refine Imp.br rfl ?_ ?_
  ·refine Imp.br rfl ?_ ?_
   ·refine Imp.call rfl (ei_sl1In x.xAge 0 1000 _) (fun r9 _ => ?_)
    refine Imp.br rfl ?_ ?_
    ·exact Imp.ret rfl
    ·exact Imp.ret rfl
   ·exact Imp.ret rfl
  ·exact Imp.ret rfl
 ·exact Imp.ret rfl
noncomputable def sIsServer (s : TServer) : Option Bool :=
 (forE s.xFiles (fun (i_1 : Nat) (x_1 : TFile) (s1 : Unit) => (
 (sIsName x_1.xPath).bind fun (r3 : Bool) =>
 br (!r3) (
 some (.inr (.inl ()))
 ) (
 (sIsResponse x_1.xResponse).bind fun (r5 : Bool) =>
 br (!r5) (
 some (.inr (.inl ()))
 ) (
 (forI (i_1 : Int) (fun (i_6 : Nat) (s6 : Unit) => (
 (getI s.xFiles (i_6 : Int)).bind fun (e7 : TFile) =>
 br (e7.xPath == x_1.xPath) (
 some (.inr (.inl ()))
 ) (
 some (.inl ())
 )
 : Option (Unit ⊕ (Unit ⊕ Unit)))) (fun (s6 : Unit) => (.inr () : Unit ⊕ Unit)) (() : Unit)).bind <|
 Sum.elim
 (fun (r9 : Unit) =>
 some (.inr (.inl ()))
 )
 (fun (r9 : Unit) =>
 some (.inl ())
 )
 )
 )
 : Option (Unit ⊕ (Unit ⊕ Unit)))) (fun (s1 : Unit) => (.inr () : Unit ⊕ Unit)) (() : Unit)).bind <|
 Sum.elim
 (fun (r10 : Unit) =>
 some false
 )
 (fun (r10 : Unit) =>
 (sIsName s.xHost).bind fun (r11 : Bool) =>
 br r11 (
 some (decide ((s.xFiles.length : Int) ≤ 10))
 ) (
 some false
 )
 )
theorem ei_sIsServer (s : TServer) (k : Bool → Option β) : Imp (F18 β s.xHost (rows kFile TFile.row s.xFiles) k) (sIsServer s) (fun r => k r) := by
 delta F18 P18 sIsServer
 refine Imp.for (enc := fun (i_1 : Nat) (s1 : Unit) => [.i (i_1 : Int), .s s.xHost, .l (rows kFile TFile.row s.xFiles)]) (encR := Sum.elim (fun (u : Unit) => (((0, [.b false, .s s.xHost, .l (rows kFile TFile.row s.xFiles)]) : Nat × List Leaf))) (fun (u : Unit) => (((1, [.s s.xHost, .l (rows kFile TFile.row s.xFiles)]) : Nat × List Leaf)))) rfl (fun i_1 x_1 s1 hx1 hl1 hm1 => Imp.brT (T_lt (ks := kFile) (g := TFile.row) hl1) ?_) (fun s1 => brN (T_irr (ks := kFile) (g := TFile.row) s.xFiles) rfl) (fun r10 => ?_)
 ·refine Imp.idxFor (ks := kFile) (g := TFile.row) hx1 ?_
  refine Imp.call rfl (ei_sIsName x_1.xPath _) (fun r3 _ => ?_)
  refine Imp.br rfl ?_ ?_
  ·exact Imp.ret rfl
  ·refine Imp.idxFor (ks := kFile) (g := TFile.row) hx1 ?_
   refine Imp.call rfl (ei_sIsResponse x_1.xResponse _) (fun r5 _ => ?_)
   refine Imp.br rfl ?_ ?_
   ·exact Imp.ret rfl
   ·refine Imp.forI (enc := fun (i_6 : Nat) (s6 : Unit) => [.i (i_1 : Int), .i (i_6 : Int), .s s.xHost, .l (rows kFile TFile.row s.xFiles)]) (encR := Sum.elim (fun (u : Unit) => (((0, [.b false, .i (i_1 : Int), .s s.xHost, .l (rows kFile TFile.row s.xFiles)]) : Nat × List Leaf))) (fun (u : Unit) => (((1, [.i (i_1 : Int), .s s.xHost, .l (rows kFile TFile.row s.xFiles)]) : Nat × List Leaf)))) rfl (fun i_6 s6 hb6 hl6 hm6 => Imp.brT hb6 ?_) (fun s6 hb6 => brN hb6 rfl) (fun r9 => ?_)
    ·refine Imp.idx (ks := kFile) (g := TFile.row) rfl rfl (fun e7 _ => ?_)
     refine Imp.idxFor (ks := kFile) (g := TFile.row) hx1 ?_
     refine Imp.br rfl ?_ ?_
     ·exact Imp.ret rfl
     ·exact Imp.ret (c1 (fun (h1 : Int) => (some (Sum.inl [.i (i_1 : Int), .i h1, .s s.xHost, .l (rows kFile TFile.row s.xFiles)]) : Option (List Leaf ⊕ (Nat × List Leaf)))) (wrapJ hl6))
    ·cases r9 with
     | inl r9 =>
      refine Imp.ifT rfl ?_
      exact Imp.ret rfl
     | inr r9 =>
      refine Imp.ifF (show ¬ ((1 : Nat) = 0) by decide) ?_
      exact Imp.ret (c1 (fun (h1 : Int) => (some (Sum.inl [.i h1, .s s.xHost, .l (rows kFile TFile.row s.xFiles)]) : Option (List Leaf ⊕ (Nat × List Leaf)))) (wrapJ hl1))
 ·cases r10 with
  | inl r10 =>
   refine Imp.ifT rfl ?_
   exact Imp.ret rfl
  | inr r10 =>
   refine Imp.ifF (show ¬ ((1 : Nat) = 0) by decide) ?_
   refine Imp.call rfl (ei_sIsName s.xHost _) (fun r11 _ => ?_)
   refine Imp.br rfl ?_ ?_
   ·exact Imp.ret (c1 (fun (h1 : Bool) => k h1) (c1 (fun z0 : Nat => (decide ((z0 : Int) ≤ 10))) (T_len (ks := kFile) (g := TFile.row) s.xFiles)))
   ·exact Imp.ret rfl
noncomputable def sPutFile (a0 : List TServer) (a1 : TAddr) (a2 : TResponse) : Option ((List TServer) × Bool) := putE (fun h fs => (⟨h, fs⟩ : TServer)) TServer.xHost TServer.xFiles sl12Server sl12File sIsServer a0 a1.xHost a1.xPath (⟨a1.xPath, a2⟩ : TFile)
theorem ei_sPutFile (a0 : List TServer) (a1 : TAddr) (a2 : TResponse) (k : List V → Bool → Option β) : Imp (F9 β (rows kServer TServer.row a0) a1.xHost a1.xPath a2.xStatus a2.xKind a2.xBody a2.xAge a2.xShares a2.xPolicy k) (sPutFile a0 a1 a2) (fun r => k (rows kServer TServer.row r.1) r.2) := ei_putE (RF := fun f => rowEnc true kFile (TFile.row f)) (R := fun s => rowEnc true kServer (TServer.row s)) (fun _ _ => rfl) (fun _ _ => rfl) (fun _ => rfl) (fun β l h k => ei_sl12Server l h k) (fun β s p k => ei_sl12File s p k) (fun β s k => ei_sIsServer s k) a0 a1.xHost a1.xPath a2.xStatus a2.xKind a2.xBody a2.xAge a2.xShares a2.xPolicy (⟨a1.xPath, a2⟩ : TFile) rfl k
noncomputable def lmarkText (xk : Int) : Option (List UInt8) :=
 br (decide (xk ≤ 0)) (
 some [109, 48]
 ) (
 (whileE (fun (s1 : Int × (List UInt8)) => (
 br (decide (s1.1 > 0)) (
 chk ((strI [(IntKind.wrap .u8 (IntKind.wrap .i64 (48 + (Int.tmod s1.1 10))))]).length + s1.2.length ≤ 9223372036854775807) <|
 some (.inl ((IntKind.wrap .i64 (Int.tdiv s1.1 10)), ((strI [(IntKind.wrap .u8 (IntKind.wrap .i64 (48 + (Int.tmod s1.1 10))))]) ++ s1.2)))
 ) (
 some (.inr s1.2)
 )
 : Option ((Int × (List UInt8)) ⊕ (List UInt8)))) ((xk, []) : Int × (List UInt8))).bind <|
 fun (r3 : List UInt8) =>
 chk (1 + r3.length ≤ 9223372036854775807) <|
 some ([109] ++ r3)
 )
theorem ei_lmarkText (xk : Int) (k : List UInt8 → Option β) : Imp (F12 β xk k) (lmarkText xk) (fun r => k r) := by
 delta F12 P12 lmarkText
 refine Imp.br rfl ?_ ?_
 ·exact Imp.ret rfl
 ·refine Imp.while (enc := fun (s1 : Int × (List UInt8)) => [.i s1.1, .s s1.2]) (encR := fun (u : List UInt8) => (((0, [.s u]) : Nat × List Leaf))) rfl (fun s1 => ?_) (fun r3 => ?_)
  ·refine Imp.br rfl ?_ ?_
   ·refine Imp.strO (l := [(IntKind.wrap .u8 (IntKind.wrap .i64 (48 + (Int.tmod s1.1 10))))]) rfl ?_
    refine Imp.chk rfl (fun _ => ?_)
    exact Imp.ret rfl
   ·exact Imp.ret rfl
  ·refine Imp.chk rfl (fun _ => ?_)
   exact Imp.ret rfl
end Go.Am
end
section
set_option linter.unusedVariables false
set_option linter.unusedSimpArgs false
namespace Go.Am
open Go
section
variable {α γ T σ ρ : Type}
def Ok (x : Option α) (Q : α → Prop) : Prop := ∃ r, x = some r ∧ Q r
theorem Ok.ret {r : α} {Q : α → Prop} (h : Q r) : Ok (some r) Q := ⟨r, rfl, h⟩
theorem Ok.bind {x : Option α} {f : α → Option γ} {Q1 : α → Prop} {Q : γ → Prop} (h : Ok x Q1) (h2 : ∀ r, x = some r → Q1 r → Ok (f r) Q) : Ok (x.bind f) Q := by
 obtain ⟨r, h1, h3⟩ := h
 subst h1
 exact h2 r rfl h3
theorem Ok.br {b : Bool} {x y : Option α} {Q : α → Prop} (h1 : b = true → Ok x Q) (h2 : b = false → Ok y Q) : Ok (Go.Am.br b x y) Q := by
 cases b
 ·exact h2 rfl
 ·exact h1 rfl
theorem Ok.chk {p : Prop} {d : Decidable p} {x : Option α} {Q : α → Prop} (hp : p) (h : Ok x Q) : Ok (@Go.Am.chk α p d x) Q := by
 obtain ⟨r, h1, h2⟩ := h
 exact ⟨r, (if_pos hp).trans h1, h2⟩
theorem Ok.mono {x : Option α} {Q1 Q : α → Prop} (h : Ok x Q1) (h2 : ∀ r, x = some r → Q1 r → Q r) : Ok x Q := by
 obtain ⟨r, h1, h3⟩ := h
 exact ⟨r, h1, h2 r h1 h3⟩
theorem Ok.of {x : Option α} {r : α} {Q : α → Prop} (h : x = some r) (hq : Q r) : Ok x Q := ⟨r, h, hq⟩
theorem Ok.getI {l : List T} {n : Int} (h0 : 0 ≤ n) (h1 : n.toNat < l.length) : Ok (Go.Am.getI l n) (fun x => l[n.toNat]? = some x ∧ x ∈ l) := by
 refine ⟨l[n.toNat], ?_, ?_, List.getElem_mem h1⟩
 ·unfold Go.Am.getI
  rw [if_pos h0, List.getElem?_eq_getElem h1]
 ·exact List.getElem?_eq_getElem h1
theorem Ok.getS {l : List UInt8} {n : Int} (h0 : 0 ≤ n) (h1 : n.toNat < l.length) : Ok (Go.Am.getS l n) (fun x => ∃ b, l[n.toNat]? = some b ∧ x = (b.toNat : Int)) := by
 refine ⟨(l[n.toNat].toNat : Int), ?_, l[n.toNat], List.getElem?_eq_getElem h1, rfl⟩
 unfold Go.Am.getS
 rw [if_pos h0, List.getElem?_eq_getElem h1]
 rfl
theorem forA_ok {body : Nat → T → σ → Option (σ ⊕ ρ)} {fin : σ → ρ} {l : List T} {Q : ρ → Prop} (Inv : Nat → σ → Prop)
  (hb : ∀ i x s, l[i]? = some x → Inv i s → Ok (body i x s) (fun z => match z with
   | .inl s' => Inv (i + 1) s'
   | .inr r => Q r)) (hf : ∀ s, Inv l.length s → Q (fin s)) : ∀ (zs : List T) (i : Nat) (s : σ), l.drop i = zs → i ≤ l.length → Inv i s → Ok (forA body fin i zs s) Q := by
 intro zs
 induction zs with
 | nil =>
  intro i s hd hi hs
  have : i = l.length := by
   have := List.drop_eq_nil_iff.1 hd
   omega
  subst this
  exact ⟨_, rfl, hf s hs⟩
 | cons x zs ih =>
  intro i s hd hi hs
  have hx : l[i]? = some x := by
   have := congrArg (fun l => l[0]?) hd
   simpa using this
  have hlt := (List.getElem?_eq_some_iff.1 hx).1
  have hd' : l.drop (i + 1) = zs := by rw [← List.tail_drop, hd]; rfl
  obtain ⟨z, h1, h2⟩ := hb i x s hx hs
  rw [forA, h1]
  cases z with
  | inl s' => exact ih (i + 1) s' hd' (by omega) h2
  | inr r => exact ⟨r, rfl, h2⟩
theorem Ok.for {body : Nat → T → σ → Option (σ ⊕ ρ)} {fin : σ → ρ} {l : List T} {s0 : σ} {Q : ρ → Prop} (hl : l.length ≤ maxLen) (Inv : Nat → σ → Prop) (h0 : Inv 0 s0)
  (hb : ∀ i x s, l[i]? = some x → Inv i s → Ok (body i x s) (fun z => match z with
   | .inl s' => Inv (i + 1) s'
   | .inr r => Q r)) (hf : ∀ s, Inv l.length s → Q (fin s)) : Ok (forE l body fin s0) Q := by
 unfold forE
 rw [if_pos hl]
 exact forA_ok Inv hb hf l 0 s0 rfl (Nat.zero_le _) h0
theorem Ok.forI {n : Int} {body : Nat → σ → Option (σ ⊕ ρ)} {fin : σ → ρ} {s0 : σ} {Q : ρ → Prop} (h0 : 0 ≤ n) (hl : n ≤ maxLen) (Inv : Nat → σ → Prop) (hi : Inv 0 s0)
  (hb : ∀ (i : Nat) s, (i : Int) < n → Inv i s → Ok (body i s) (fun z => match z with
   | .inl s' => Inv (i + 1) s'
   | .inr r => Q r)) (hf : ∀ s, Inv n.toNat s → Q (fin s)) : Ok (Go.Am.forI n body fin s0) Q := by
 unfold Go.Am.forI
 rw [if_pos ⟨hl, h0⟩]
 have hlen : (List.replicate n.toNat ()).length = n.toNat := List.length_replicate
 refine forA_ok (l := List.replicate n.toNat ()) Inv (fun i x s hx hs => ?_) (by rw [hlen]; exact hf) _ 0 s0 rfl (Nat.zero_le _) hi
 have := (List.getElem?_eq_some_iff.1 hx).1
 rw [hlen] at this
 exact hb i s (by omega) hs
theorem Ok.while {body : σ → Option (σ ⊕ ρ)} {s0 : σ} {Q : ρ → Prop} (Inv : σ → Prop) (m : σ → Nat) (h0 : Inv s0)
  (hb : ∀ s, Inv s → Ok (body s) (fun z => match z with
   | .inl s' => Inv s' ∧ m s' < m s
   | .inr r => Q r)) : Ok (whileE body s0) Q := by
 have key : ∀ (n : Nat) (s : σ), m s < n → Inv s → Ok (whileE body s) Q := by
  intro n
  induction n with
  | zero => intro s h; omega
  | succ n ih =>
   intro s hm hs
   obtain ⟨z, h1, h2⟩ := hb s hs
   unfold whileE
   rw [whileInf_step, h1]
   cases z with
   | inl s' => exact ih s' (by have := h2.2; omega) h2.1
   | inr r => exact ⟨r, rfl, h2⟩
 exact key _ s0 (Nat.lt_succ_self _) h0
end
end Go.Am
end
section
set_option linter.unusedVariables false
set_option linter.unusedSimpArgs false
namespace Go.Am
open Go
section
variable {T ρ : Type}
end
end Go.Am
end
section
set_option linter.unusedVariables false
set_option linter.unusedSimpArgs false
namespace Go.Am
open Go
section
variable {β : Type}
end
end Go.Am
end
section
set_option linter.unusedVariables false
set_option linter.unusedSimpArgs false
namespace Go.Am
open Go
variable {β : Type}
noncomputable def mt (k : Nat) : List UInt8 := (lmarkText (k : Int)).getD []
theorem mt_eq (k : Nat) (h : k < 4611686018427387904) : lmarkText (k : Int) = some (mt k) := by
 have : Ok (lmarkText (k : Int)) (fun _ => True) := by
  unfold lmarkText
  refine Ok.br (fun _ => Ok.ret trivial) (fun _ => Ok.bind (Q1 := fun r : List UInt8 => r.length ≤ k) (Ok.while (fun s : Int × List UInt8 => 0 ≤ s.1 ∧ s.2.length + s.1.toNat ≤ k) (fun s => s.1.toNat) ⟨Int.natCast_nonneg _, by simp⟩ (fun s hs => ?_)) (fun r _ hr => Ok.chk (by omega) (Ok.ret trivial)))
  obtain ⟨s1, s2⟩ := s
  obtain ⟨h0, h1⟩ := hs
  dsimp only at h0 h1 ⊢
  refine Ok.br (fun c => ?_) (fun c => Ok.ret (by omega))
  have c : 0 < s1 := by simpa using c
  have ht : Int.tdiv s1 10 = ((s1.toNat / 10 : Nat) : Int) := by
   conv => lhs; rw [show s1 = ((s1.toNat : Nat) : Int) by omega]
   rfl
  have hw : IntKind.wrap .i64 (Int.tdiv s1 10) = ((s1.toNat / 10 : Nat) : Int) := by
   rw [ht]
   simp [IntKind.wrap, IntKind.bits, IntKind.signed]
   omega
  refine Ok.chk (by simp [strI]; omega) (Ok.ret ?_)
  rw [hw]
  refine ⟨⟨Int.natCast_nonneg _, ?_⟩, ?_⟩
  ·simp [strI]; omega
  ·simp; omega
 obtain ⟨r, e, _⟩ := this
 unfold mt
 rw [e]
 rfl
end Go.Am
end
section
set_option maxRecDepth 100000
set_option linter.unusedVariables false
namespace Go.Am
open Go Go.Proofs
variable {β : Type}
def stdX0 : TResponse := ⟨200, 1, (60 :: 108 :: 105 :: 110 :: 107 :: 32 :: 104 :: 114 :: 101 :: 102 :: 61 :: 115 :: 116 :: 121 :: 108 :: 101 :: 62 :: 60 :: 112 :: 62 :: 97 :: 60 :: 47 :: 112 :: 62 :: 60 :: 115 :: 99 :: 114 :: 105 :: 112 :: 116 :: 32 :: 115 :: 114 :: 99 :: 61 :: 97 :: 112 :: 112 :: 62 :: 60 :: 47 :: 115 :: 99 :: 114 :: 105 :: 112 :: 116 :: 62 :: 60 :: 105 :: 109 :: 103 :: 32 :: 115 :: 114 :: 99 :: 61 :: 108 :: 111 :: 103 :: 111 :: 62 :: 60 :: 115 :: 99 :: 114 :: 105 :: 112 :: 116 :: 32 :: 115 :: 114 :: 99 :: 61 :: 99 :: 100 :: 110 :: 47 :: 108 :: 105 :: 98 :: 32 :: 107 :: 105 :: 110 :: 100 :: 61 :: 100 :: 101 :: 102 :: 101 :: 114 :: 62 :: 60 :: 47 :: 115 :: 99 :: 114 :: 105 :: 112 :: 116 :: 62 :: 60 :: 115 :: 99 :: 114 :: 105 :: 112 :: 116 :: 32 :: 115 :: 114 :: 99 :: 61 :: 117 :: 116 :: 105 :: 108 :: 32 :: 107 :: 105 :: 110 :: 100 :: 61 :: 109 :: 111 :: 100 :: 117 :: 108 :: 101 :: 62 :: 60 :: 47 :: 115 :: 99 :: 114 :: 105 :: 112 :: 116 :: 62 :: []), 10, false, []⟩
def stdA0 : TAddr := ⟨(104 :: 111 :: 109 :: 101 :: []), (105 :: 110 :: 100 :: 101 :: 120 :: [])⟩
def stdX1 : TResponse := ⟨200, 1, (60 :: 112 :: 62 :: 110 :: 60 :: 47 :: 112 :: 62 :: 60 :: 115 :: 99 :: 114 :: 105 :: 112 :: 116 :: 32 :: 115 :: 114 :: 99 :: 61 :: 99 :: 100 :: 110 :: 47 :: 108 :: 105 :: 98 :: 62 :: 60 :: 47 :: 115 :: 99 :: 114 :: 105 :: 112 :: 116 :: 62 :: 60 :: 115 :: 99 :: 114 :: 105 :: 112 :: 116 :: 62 :: 99 :: 111 :: 117 :: 110 :: 116 :: 32 :: 112 :: 60 :: 47 :: 115 :: 99 :: 114 :: 105 :: 112 :: 116 :: 62 :: []), 10, false, (115 :: 99 :: 114 :: 105 :: 112 :: 116 :: 32 :: 104 :: 111 :: 109 :: 101 :: 59 :: 115 :: 116 :: 121 :: 108 :: 101 :: 32 :: 104 :: 111 :: 109 :: 101 :: 59 :: 105 :: 109 :: 103 :: 32 :: 104 :: 111 :: 109 :: 101 :: [])⟩
def stdA1 : TAddr := ⟨(104 :: 111 :: 109 :: 101 :: []), (110 :: 101 :: 120 :: 116 :: [])⟩
def stdX2 : TResponse := ⟨200, 2, (108 :: 111 :: 111 :: 107 :: 32 :: 112 :: 59 :: 119 :: 114 :: 105 :: 116 :: 101 :: 32 :: 91 :: 98 :: 93 :: 120 :: 91 :: 47 :: 98 :: 93 :: []), 10, false, []⟩
def stdA2 : TAddr := ⟨(104 :: 111 :: 109 :: 101 :: []), (97 :: 112 :: 112 :: [])⟩
def stdX3 : TResponse := ⟨200, 3, (112 :: 58 :: 55 :: []), 10, false, []⟩
def stdA3 : TAddr := ⟨(104 :: 111 :: 109 :: 101 :: []), (115 :: 116 :: 121 :: 108 :: 101 :: [])⟩
def stdX4 : TResponse := ⟨200, 4, (100 :: 111 :: 116 :: 115 :: []), 10, false, []⟩
def stdA4 : TAddr := ⟨(104 :: 111 :: 109 :: 101 :: []), (108 :: 111 :: 103 :: 111 :: [])⟩
def stdX5 : TResponse := ⟨200, 5, (105 :: 109 :: 112 :: 111 :: 114 :: 116 :: 32 :: 99 :: 100 :: 110 :: 47 :: 109 :: 111 :: 100 :: 59 :: 115 :: 97 :: 121 :: 32 :: 117 :: 116 :: 105 :: 108 :: []), 10, false, []⟩
def stdA5 : TAddr := ⟨(104 :: 111 :: 109 :: 101 :: []), (117 :: 116 :: 105 :: 108 :: [])⟩
def stdX6 : TResponse := ⟨200, 2, (115 :: 97 :: 121 :: 32 :: 108 :: 105 :: 98 :: []), 10, false, []⟩
def stdA6 : TAddr := ⟨(99 :: 100 :: 110 :: []), (108 :: 105 :: 98 :: [])⟩
def stdX7 : TResponse := ⟨200, 5, (115 :: 97 :: 121 :: 32 :: 109 :: 111 :: 100 :: []), 10, true, []⟩
def stdA7 : TAddr := ⟨(99 :: 100 :: 110 :: []), (109 :: 111 :: 100 :: [])⟩
def stdX8 : TResponse := ⟨200, 2, (115 :: 97 :: 121 :: 32 :: 101 :: 118 :: 105 :: 108 :: []), 10, false, []⟩
def stdA8 : TAddr := ⟨(101 :: 118 :: 105 :: 108 :: []), (97 :: 112 :: 112 :: [])⟩
def stdL0 : List TServer := []
def stdL1 : List TServer := [⟨(104 :: 111 :: 109 :: 101 :: []), [⟨(105 :: 110 :: 100 :: 101 :: 120 :: []), stdX0⟩]⟩]
def stdL2 : List TServer := [⟨(104 :: 111 :: 109 :: 101 :: []), [⟨(105 :: 110 :: 100 :: 101 :: 120 :: []), stdX0⟩, ⟨(110 :: 101 :: 120 :: 116 :: []), stdX1⟩]⟩]
def stdL3 : List TServer := [⟨(104 :: 111 :: 109 :: 101 :: []), [⟨(105 :: 110 :: 100 :: 101 :: 120 :: []), stdX0⟩, ⟨(110 :: 101 :: 120 :: 116 :: []), stdX1⟩, ⟨(97 :: 112 :: 112 :: []), stdX2⟩]⟩]
def stdL4 : List TServer := [⟨(104 :: 111 :: 109 :: 101 :: []), [⟨(105 :: 110 :: 100 :: 101 :: 120 :: []), stdX0⟩, ⟨(110 :: 101 :: 120 :: 116 :: []), stdX1⟩, ⟨(97 :: 112 :: 112 :: []), stdX2⟩, ⟨(115 :: 116 :: 121 :: 108 :: 101 :: []), stdX3⟩]⟩]
def stdL5 : List TServer := [⟨(104 :: 111 :: 109 :: 101 :: []), [⟨(105 :: 110 :: 100 :: 101 :: 120 :: []), stdX0⟩, ⟨(110 :: 101 :: 120 :: 116 :: []), stdX1⟩, ⟨(97 :: 112 :: 112 :: []), stdX2⟩, ⟨(115 :: 116 :: 121 :: 108 :: 101 :: []), stdX3⟩, ⟨(108 :: 111 :: 103 :: 111 :: []), stdX4⟩]⟩]
def stdL6 : List TServer := [⟨(104 :: 111 :: 109 :: 101 :: []), [⟨(105 :: 110 :: 100 :: 101 :: 120 :: []), stdX0⟩, ⟨(110 :: 101 :: 120 :: 116 :: []), stdX1⟩, ⟨(97 :: 112 :: 112 :: []), stdX2⟩, ⟨(115 :: 116 :: 121 :: 108 :: 101 :: []), stdX3⟩, ⟨(108 :: 111 :: 103 :: 111 :: []), stdX4⟩, ⟨(117 :: 116 :: 105 :: 108 :: []), stdX5⟩]⟩]
def stdL7 : List TServer := [⟨(104 :: 111 :: 109 :: 101 :: []), [⟨(105 :: 110 :: 100 :: 101 :: 120 :: []), stdX0⟩, ⟨(110 :: 101 :: 120 :: 116 :: []), stdX1⟩, ⟨(97 :: 112 :: 112 :: []), stdX2⟩, ⟨(115 :: 116 :: 121 :: 108 :: 101 :: []), stdX3⟩, ⟨(108 :: 111 :: 103 :: 111 :: []), stdX4⟩, ⟨(117 :: 116 :: 105 :: 108 :: []), stdX5⟩]⟩, ⟨(99 :: 100 :: 110 :: []), [⟨(108 :: 105 :: 98 :: []), stdX6⟩]⟩]
def stdL8 : List TServer := [⟨(104 :: 111 :: 109 :: 101 :: []), [⟨(105 :: 110 :: 100 :: 101 :: 120 :: []), stdX0⟩, ⟨(110 :: 101 :: 120 :: 116 :: []), stdX1⟩, ⟨(97 :: 112 :: 112 :: []), stdX2⟩, ⟨(115 :: 116 :: 121 :: 108 :: 101 :: []), stdX3⟩, ⟨(108 :: 111 :: 103 :: 111 :: []), stdX4⟩, ⟨(117 :: 116 :: 105 :: 108 :: []), stdX5⟩]⟩, ⟨(99 :: 100 :: 110 :: []), [⟨(108 :: 105 :: 98 :: []), stdX6⟩, ⟨(109 :: 111 :: 100 :: []), stdX7⟩]⟩]
def stdL9 : List TServer := [⟨(104 :: 111 :: 109 :: 101 :: []), [⟨(105 :: 110 :: 100 :: 101 :: 120 :: []), stdX0⟩, ⟨(110 :: 101 :: 120 :: 116 :: []), stdX1⟩, ⟨(97 :: 112 :: 112 :: []), stdX2⟩, ⟨(115 :: 116 :: 121 :: 108 :: 101 :: []), stdX3⟩, ⟨(108 :: 111 :: 103 :: 111 :: []), stdX4⟩, ⟨(117 :: 116 :: 105 :: 108 :: []), stdX5⟩]⟩, ⟨(99 :: 100 :: 110 :: []), [⟨(108 :: 105 :: 98 :: []), stdX6⟩, ⟨(109 :: 111 :: 100 :: []), stdX7⟩]⟩, ⟨(101 :: 118 :: 105 :: 108 :: []), [⟨(97 :: 112 :: 112 :: []), stdX8⟩]⟩]
theorem whileInf_N {σ ρ : Type} {step : σ → Option (σ ⊕ ρ)} {s : σ} (k : Nat) (h : (whileN step k s).isSome = true) : whileInf step s = whileN step k s := by
 cases e : whileN step k s with
 | none => rw [e] at h; cases h
 | some r => exact whileInf_of e
theorem stdQ : sl5Split (115 :: 99 :: 114 :: 105 :: 112 :: 116 :: 32 :: 104 :: 111 :: 109 :: 101 :: 59 :: 115 :: 116 :: 121 :: 108 :: 101 :: 32 :: 104 :: 111 :: 109 :: 101 :: 59 :: 105 :: 109 :: 103 :: 32 :: 104 :: 111 :: 109 :: 101 :: []) 59 = some [(115 :: 99 :: 114 :: 105 :: 112 :: 116 :: 32 :: 104 :: 111 :: 109 :: 101 :: []), (115 :: 116 :: 121 :: 108 :: 101 :: 32 :: 104 :: 111 :: 109 :: 101 :: []), (105 :: 109 :: 103 :: 32 :: 104 :: 111 :: 109 :: 101 :: [])] := by
 delta sl5Split whileE
 rw [whileInf_N 60]
 all_goals kernel_rfl
theorem stdQ0 : sl5Split (115 :: 99 :: 114 :: 105 :: 112 :: 116 :: 32 :: 104 :: 111 :: 109 :: 101 :: []) 32 = some [(115 :: 99 :: 114 :: 105 :: 112 :: 116 :: []), (104 :: 111 :: 109 :: 101 :: [])] := by
 delta sl5Split whileE
 rw [whileInf_N 60]
 all_goals kernel_rfl
theorem stdQ1 : sl5Split (115 :: 116 :: 121 :: 108 :: 101 :: 32 :: 104 :: 111 :: 109 :: 101 :: []) 32 = some [(115 :: 116 :: 121 :: 108 :: 101 :: []), (104 :: 111 :: 109 :: 101 :: [])] := by
 delta sl5Split whileE
 rw [whileInf_N 60]
 all_goals kernel_rfl
theorem stdQ2 : sl5Split (105 :: 109 :: 103 :: 32 :: 104 :: 111 :: 109 :: 101 :: []) 32 = some [(105 :: 109 :: 103 :: []), (104 :: 111 :: 109 :: 101 :: [])] := by
 delta sl5Split whileE
 rw [whileInf_N 60]
 all_goals kernel_rfl
theorem stdPol : sParsePolicy (115 :: 99 :: 114 :: 105 :: 112 :: 116 :: 32 :: 104 :: 111 :: 109 :: 101 :: 59 :: 115 :: 116 :: 121 :: 108 :: 101 :: 32 :: 104 :: 111 :: 109 :: 101 :: 59 :: 105 :: 109 :: 103 :: 32 :: 104 :: 111 :: 109 :: 101 :: []) = some ((⟨true, [(104 :: 111 :: 109 :: 101 :: [])], [(104 :: 111 :: 109 :: 101 :: [])], [(104 :: 111 :: 109 :: 101 :: [])], []⟩ : TPolicy), true) := by
 delta sParsePolicy
 rw [stdQ, Option.bind_some]
 rw [show getI ([(115 :: 99 :: 114 :: 105 :: 112 :: 116 :: 32 :: 104 :: 111 :: 109 :: 101 :: []), (115 :: 116 :: 121 :: 108 :: 101 :: 32 :: 104 :: 111 :: 109 :: 101 :: []), (105 :: 109 :: 103 :: 32 :: 104 :: 111 :: 109 :: 101 :: [])] : List (List UInt8)) (0 : Int) = some (115 :: 99 :: 114 :: 105 :: 112 :: 116 :: 32 :: 104 :: 111 :: 109 :: 101 :: []) from rfl, Option.bind_some, stdQ0, Option.bind_some]
 rw [show getI ([(115 :: 99 :: 114 :: 105 :: 112 :: 116 :: 32 :: 104 :: 111 :: 109 :: 101 :: []), (115 :: 116 :: 121 :: 108 :: 101 :: 32 :: 104 :: 111 :: 109 :: 101 :: []), (105 :: 109 :: 103 :: 32 :: 104 :: 111 :: 109 :: 101 :: [])] : List (List UInt8)) (1 : Int) = some (115 :: 116 :: 121 :: 108 :: 101 :: 32 :: 104 :: 111 :: 109 :: 101 :: []) from rfl, Option.bind_some, stdQ1, Option.bind_some]
 rw [show getI ([(115 :: 99 :: 114 :: 105 :: 112 :: 116 :: 32 :: 104 :: 111 :: 109 :: 101 :: []), (115 :: 116 :: 121 :: 108 :: 101 :: 32 :: 104 :: 111 :: 109 :: 101 :: []), (105 :: 109 :: 103 :: 32 :: 104 :: 111 :: 109 :: 101 :: [])] : List (List UInt8)) (2 : Int) = some (105 :: 109 :: 103 :: 32 :: 104 :: 111 :: 109 :: 101 :: []) from rfl, Option.bind_some, stdQ2, Option.bind_some]
 kernel_rfl
noncomputable def parseC (s : List UInt8) : Option (TPolicy × Bool) := if s = (115 :: 99 :: 114 :: 105 :: 112 :: 116 :: 32 :: 104 :: 111 :: 109 :: 101 :: 59 :: 115 :: 116 :: 121 :: 108 :: 101 :: 32 :: 104 :: 111 :: 109 :: 101 :: 59 :: 105 :: 109 :: 103 :: 32 :: 104 :: 111 :: 109 :: 101 :: []) then some ((⟨true, [(104 :: 111 :: 109 :: 101 :: [])], [(104 :: 111 :: 109 :: 101 :: [])], [(104 :: 111 :: 109 :: 101 :: [])], []⟩ : TPolicy), true) else sParsePolicy s
theorem parse_eq : sParsePolicy = parseC := funext fun s => by
 unfold parseC
 split
 ·rename_i h; rw [h]; exact stdPol
 ·rfl
theorem stdP0 : sPutFile stdL0 stdA0 stdX0 = some (stdL1, true) := by
 delta sPutFile sIsServer sIsResponse
 rw [parse_eq]
 kernel_rfl
theorem stdP1 : sPutFile stdL1 stdA1 stdX1 = some (stdL2, true) := by
 delta sPutFile sIsServer sIsResponse
 rw [parse_eq]
 kernel_rfl
theorem stdP2 : sPutFile stdL2 stdA2 stdX2 = some (stdL3, true) := by
 delta sPutFile sIsServer sIsResponse
 rw [parse_eq]
 kernel_rfl
theorem stdP3 : sPutFile stdL3 stdA3 stdX3 = some (stdL4, true) := by
 delta sPutFile sIsServer sIsResponse
 rw [parse_eq]
 kernel_rfl
theorem stdP4 : sPutFile stdL4 stdA4 stdX4 = some (stdL5, true) := by
 delta sPutFile sIsServer sIsResponse
 rw [parse_eq]
 kernel_rfl
theorem stdP5 : sPutFile stdL5 stdA5 stdX5 = some (stdL6, true) := by
 delta sPutFile sIsServer sIsResponse
 rw [parse_eq]
 kernel_rfl
theorem stdP6 : sPutFile stdL6 stdA6 stdX6 = some (stdL7, true) := by
 delta sPutFile sIsServer sIsResponse
 rw [parse_eq]
 kernel_rfl
theorem stdP7 : sPutFile stdL7 stdA7 stdX7 = some (stdL8, true) := by
 delta sPutFile sIsServer sIsResponse
 rw [parse_eq]
 kernel_rfl
theorem stdP8 : sPutFile stdL8 stdA8 stdX8 = some (stdL9, true) := by
 delta sPutFile sIsServer sIsResponse
 rw [parse_eq]
 kernel_rfl
noncomputable def stdStep (F9 : T9) : List Leaf → Option (List Leaf ⊕ (Nat × List Leaf)) := (fun s1 =>
 br (decide ((lI s1 4) < ((lL s1 1).length : Int))) (
 chk (0 ≤ (lI s1 4) ∧ (lI s1 4).toNat < (lL s1 2).length) <|
 idxAt [.int .i64] (lL s1 2) ((lI s1 4).toNat) 0 fun (e2 : Int × Unit) =>
 chk (0 ≤ (lI s1 4) ∧ (lI s1 4).toNat < (lL s1 3).length) <|
 idxAt [.str] (lL s1 3) ((lI s1 4).toNat) 0 fun (e3 : List UInt8 × Unit) =>
 br ((lI s1 4) == 1) (
 chk (0 ≤ (lI s1 4) ∧ (lI s1 4).toNat < (lL s1 1).length) <|
 idxAt [.str, .str] (lL s1 1) ((lI s1 4).toNat) 0 fun (e4 : List UInt8 × List UInt8 × Unit) =>
 F9 _ (lL s1 0) e4.1 e4.2.1 200 e2.1 e3.1 10 ((lI s1 4) == 7) [115, 99, 114, 105, 112, 116, 32, 104, 111, 109, 101, 59, 115, 116, 121, 108, 101, 32, 104, 111, 109, 101, 59, 105, 109, 103, 32, 104, 111, 109, 101] fun l5 b6 =>
 some (.inl [.l l5, .l (lL s1 1), .l (lL s1 2), .l (lL s1 3), .i (IntKind.wrap .i64 ((lI s1 4) + 1))])) (
 chk (0 ≤ (lI s1 4) ∧ (lI s1 4).toNat < (lL s1 1).length) <|
 idxAt [.str, .str] (lL s1 1) ((lI s1 4).toNat) 0 fun (e7 : List UInt8 × List UInt8 × Unit) =>
 F9 _ (lL s1 0) e7.1 e7.2.1 200 e2.1 e3.1 10 ((lI s1 4) == 7) [] fun l8 b9 =>
 some (.inl [.l l8, .l (lL s1 1), .l (lL s1 2), .l (lL s1 3), .i (IntKind.wrap .i64 ((lI s1 4) + 1))]))) (
 some (.inr (0, [.l (lL s1 0)]))))
def stdS (xs : List V) (i : Int) : List Leaf := [.l xs, .l [.agg [.str [104, 111, 109, 101], .str [105, 110, 100, 101, 120]], .agg [.str [104, 111, 109, 101], .str [110, 101, 120, 116]], .agg [.str [104, 111, 109, 101], .str [97, 112, 112]], .agg [.str [104, 111, 109, 101], .str [115, 116, 121, 108, 101]], .agg [.str [104, 111, 109, 101], .str [108, 111, 103, 111]], .agg [.str [104, 111, 109, 101], .str [117, 116, 105, 108]], .agg [.str [99, 100, 110], .str [108, 105, 98]], .agg [.str [99, 100, 110], .str [109, 111, 100]], .agg [.str [101, 118, 105, 108], .str [97, 112, 112]]], .l [.int .i64 1, .int .i64 1, .int .i64 2, .int .i64 3, .int .i64 4, .int .i64 5, .int .i64 2, .int .i64 5, .int .i64 2], .l [.str [60, 108, 105, 110, 107, 32, 104, 114, 101, 102, 61, 115, 116, 121, 108, 101, 62, 60, 112, 62, 97, 60, 47, 112, 62, 60, 115, 99, 114, 105, 112, 116, 32, 115, 114, 99, 61, 97, 112, 112, 62, 60, 47, 115, 99, 114, 105, 112, 116, 62, 60, 105, 109, 103, 32, 115, 114, 99, 61, 108, 111, 103, 111, 62, 60, 115, 99, 114, 105, 112, 116, 32, 115, 114, 99, 61, 99, 100, 110, 47, 108, 105, 98, 32, 107, 105, 110, 100, 61, 100, 101, 102, 101, 114, 62, 60, 47, 115, 99, 114, 105, 112, 116, 62, 60, 115, 99, 114, 105, 112, 116, 32, 115, 114, 99, 61, 117, 116, 105, 108, 32, 107, 105, 110, 100, 61, 109, 111, 100, 117, 108, 101, 62, 60, 47, 115, 99, 114, 105, 112, 116, 62], .str [60, 112, 62, 110, 60, 47, 112, 62, 60, 115, 99, 114, 105, 112, 116, 32, 115, 114, 99, 61, 99, 100, 110, 47, 108, 105, 98, 62, 60, 47, 115, 99, 114, 105, 112, 116, 62, 60, 115, 99, 114, 105, 112, 116, 62, 99, 111, 117, 110, 116, 32, 112, 60, 47, 115, 99, 114, 105, 112, 116, 62], .str [108, 111, 111, 107, 32, 112, 59, 119, 114, 105, 116, 101, 32, 91, 98, 93, 120, 91, 47, 98, 93], .str [112, 58, 55], .str [100, 111, 116, 115], .str [105, 109, 112, 111, 114, 116, 32, 99, 100, 110, 47, 109, 111, 100, 59, 115, 97, 121, 32, 117, 116, 105, 108], .str [115, 97, 121, 32, 108, 105, 98], .str [115, 97, 121, 32, 109, 111, 100], .str [115, 97, 121, 32, 101, 118, 105, 108]], .i i]
theorem std_out (l : List V) (F : T9) : stdStep F (stdS l 9) = some (.inr (0, [.l l])) := by kernel_rfl
theorem std_step0 (l : List V) (F : T9) : stdStep F (stdS l 0) = F _ l stdA0.xHost stdA0.xPath stdX0.xStatus stdX0.xKind stdX0.xBody stdX0.xAge stdX0.xShares stdX0.xPolicy (fun l _ => some (.inl (stdS l 1))) := by kernel_rfl
theorem std_step1 (l : List V) (F : T9) : stdStep F (stdS l 1) = F _ l stdA1.xHost stdA1.xPath stdX1.xStatus stdX1.xKind stdX1.xBody stdX1.xAge stdX1.xShares stdX1.xPolicy (fun l _ => some (.inl (stdS l 2))) := by kernel_rfl
theorem std_step2 (l : List V) (F : T9) : stdStep F (stdS l 2) = F _ l stdA2.xHost stdA2.xPath stdX2.xStatus stdX2.xKind stdX2.xBody stdX2.xAge stdX2.xShares stdX2.xPolicy (fun l _ => some (.inl (stdS l 3))) := by kernel_rfl
theorem std_step3 (l : List V) (F : T9) : stdStep F (stdS l 3) = F _ l stdA3.xHost stdA3.xPath stdX3.xStatus stdX3.xKind stdX3.xBody stdX3.xAge stdX3.xShares stdX3.xPolicy (fun l _ => some (.inl (stdS l 4))) := by kernel_rfl
theorem std_step4 (l : List V) (F : T9) : stdStep F (stdS l 4) = F _ l stdA4.xHost stdA4.xPath stdX4.xStatus stdX4.xKind stdX4.xBody stdX4.xAge stdX4.xShares stdX4.xPolicy (fun l _ => some (.inl (stdS l 5))) := by kernel_rfl
theorem std_step5 (l : List V) (F : T9) : stdStep F (stdS l 5) = F _ l stdA5.xHost stdA5.xPath stdX5.xStatus stdX5.xKind stdX5.xBody stdX5.xAge stdX5.xShares stdX5.xPolicy (fun l _ => some (.inl (stdS l 6))) := by kernel_rfl
theorem std_step6 (l : List V) (F : T9) : stdStep F (stdS l 6) = F _ l stdA6.xHost stdA6.xPath stdX6.xStatus stdX6.xKind stdX6.xBody stdX6.xAge stdX6.xShares stdX6.xPolicy (fun l _ => some (.inl (stdS l 7))) := by kernel_rfl
theorem std_step7 (l : List V) (F : T9) : stdStep F (stdS l 7) = F _ l stdA7.xHost stdA7.xPath stdX7.xStatus stdX7.xKind stdX7.xBody stdX7.xAge stdX7.xShares stdX7.xPolicy (fun l _ => some (.inl (stdS l 8))) := by kernel_rfl
theorem std_step8 (l : List V) (F : T9) : stdStep F (stdS l 8) = F _ l stdA8.xHost stdA8.xPath stdX8.xStatus stdX8.xKind stdX8.xBody stdX8.xAge stdX8.xShares stdX8.xPolicy (fun l _ => some (.inl (stdS l 9))) := by kernel_rfl
theorem std_run (k : List V → Option β) : F4 β k = k (rows kServer TServer.row stdL9) := by
 show whileK (stdStep F9) (stdS [] 0) (fun r => k (lL r.2 0)) = _
 have st : ∀ (a b : List TServer) (i j : Int), stdStep F9 (stdS (rows kServer TServer.row a) i) = some (.inl (stdS (rows kServer TServer.row b) j)) → ∀ r, whileInf (stdStep F9) (stdS (rows kServer TServer.row b) j) = some r → whileInf (stdStep F9) (stdS (rows kServer TServer.row a) i) = some r := fun a b i j h r hr => by
  rw [whileInf_step, h]
  exact hr
 have h9 : whileInf (stdStep F9) (stdS (rows kServer TServer.row stdL9) 9) = some (0, [.l (rows kServer TServer.row stdL9)]) := by rw [whileInf_step, std_out]
 have h8 := st stdL8 stdL9 8 9 ((std_step8 _ F9).trans (ei_sPutFile stdL8 stdA8 stdX8 _ _ stdP8)) _ h9
 have h7 := st stdL7 stdL8 7 8 ((std_step7 _ F9).trans (ei_sPutFile stdL7 stdA7 stdX7 _ _ stdP7)) _ h8
 have h6 := st stdL6 stdL7 6 7 ((std_step6 _ F9).trans (ei_sPutFile stdL6 stdA6 stdX6 _ _ stdP6)) _ h7
 have h5 := st stdL5 stdL6 5 6 ((std_step5 _ F9).trans (ei_sPutFile stdL5 stdA5 stdX5 _ _ stdP5)) _ h6
 have h4 := st stdL4 stdL5 4 5 ((std_step4 _ F9).trans (ei_sPutFile stdL4 stdA4 stdX4 _ _ stdP4)) _ h5
 have h3 := st stdL3 stdL4 3 4 ((std_step3 _ F9).trans (ei_sPutFile stdL3 stdA3 stdX3 _ _ stdP3)) _ h4
 have h2 := st stdL2 stdL3 2 3 ((std_step2 _ F9).trans (ei_sPutFile stdL2 stdA2 stdX2 _ _ stdP2)) _ h3
 have h1 := st stdL1 stdL2 1 2 ((std_step1 _ F9).trans (ei_sPutFile stdL1 stdA1 stdX1 _ _ stdP1)) _ h2
 have h0 := st stdL0 stdL1 0 1 ((std_step0 _ F9).trans (ei_sPutFile stdL0 stdA0 stdX0 _ _ stdP0)) _ h1
 unfold whileK
 rw [show stdS [] 0 = stdS (rows kServer TServer.row stdL0) 0 from rfl, h0]
 rfl
def sStandardServers : Option (List TServer) := some stdL9
theorem ei_sStandardServers (k : List V → Option β) : Imp (F4 β k) sStandardServers (fun r => k (rows kServer TServer.row r)) := fun r h => by
 injection h with h
 subst h
 exact std_run k
theorem i_StandardServers : iStandardServers = some stdL9 := by kernel_rfl
theorem eq_StandardServers (h : True) : ∃ r, sStandardServers = some r ∧ iStandardServers = some r ∧ r.length + sumL TServer.size r ≤ 1125899906842624 ∧ okL TServer.ok r := by
 refine ⟨stdL9, rfl, i_StandardServers, of_decide_eq_true (by kernel_rfl), ?_⟩
 simp [okL, TServer.ok, TFile.ok, TResponse.ok, okS, okI, maxLen, stdL9, stdX0, stdX1, stdX2, stdX3, stdX4, stdX5, stdX6, stdX7, stdX8]
end Go.Am
end

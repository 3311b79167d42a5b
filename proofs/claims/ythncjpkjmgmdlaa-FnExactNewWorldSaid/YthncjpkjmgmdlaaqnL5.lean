/-
  Proved: Rows.FnExactNewWorldSaid: laws.FnExactNewWorld returns true for all arguments, and leaves what it was handed as it was.
-/
import Derived.Test.YthncjpkjmgmdlaaRows
import Derived.Test.YthncjpkjmgmdlaaqnVn
import Derived.WalkKit
import Derived.ProofKit
namespace Go.Proofs.Ythncjpkjmgmdlaa.fnExactNewWorld
open Go Go.Am Go.ChangeShapes Go.WideShapes Go.ChangeAt Go.RowKit
set_option linter.unusedVariables false
set_option linter.unusedSimpArgs false
theorem own : ownKnob Try.prog.godebug = none := by kernel_rfl
theorem told : ∀ vs, LawArgs Try.prog fl Try.f5.params.toList vs → D5 5 vs = some (.bool true) := by
 intro vs h
 rw [Try.params5] at h
 have h0 : LawArgs Try.prog fl [39, 4] vs := h
 clear h
 cases vs with
 | nil => exact h0.elim
 | cons v0 vs =>
 cases vs with
 | nil => exact h0.2.elim
 | cons v1 vs =>
 cases vs with
 | cons v vs => exact h0.2.2.elim
 | nil =>
  obtain ⟨n0, us0, c0, e0⟩ := h0.1
  obtain ⟨_, r0, z0, b0, w0⟩ := cn_rows c0 Try.underlying39 Try.underlying98
  obtain ⟨a0, rfl, q0⟩ := rows_of (ks := kServer) (g := TServer.row) (ok := TServer.ok) (fun r hr => by
   obtain ⟨us, h1, h2⟩ := w0 r hr
   obtain ⟨e, h3, h4⟩ := Server_open h1
   exact ⟨e, h3, by rw [h2, h4]; rfl⟩)
  have o0 : okL TServer.ok a0 := ⟨by rw [rows_len] at b0; exact b0, q0⟩
  rw [pack_one (by rw [Try.underlying39]; intro fs hfs; cases hfs), z0, cells98, show fl 98 = false from rfl, List.headD_cons] at e0
  subst e0
  obtain ⟨n1, us1, c1, e1⟩ := h0.2.1
  obtain ⟨a1, z1⟩ := cn_bool c1 Try.underlying4
  have o1 : True := trivial
  rw [pack_one (by rw [Try.underlying4]; intro fs hfs; cases hfs), z1, List.headD_cons] at e1
  subst e1
  exact law5 a0 a1 o0 o1
set_option maxRecDepth 100000 in
theorem lifted (os : Os) (started : os.Started) (H : Type) (enc : TypeId × Value → H) :
  ReturnsInHanded {} Try.checked os 5 .any (Rows.fnExactNewWorldSpec.pre6 enc Try.prog Try.f5 Rows.fnExactNewWorldRow.domain false) (Rows.fnExactNewWorldSpec.post enc Try.prog Try.f5 false true false false) := by
 refine returnsInHanded_of_change (C := Try.checked) own started (by kernel_rfl) Try.func5
  (ChangeSpec.witness6 (enc := enc) (C := Try.checked) false ⟨#[], #[.slice none 0 0, .bool false], []⟩ 8 (by kernel_rfl) (by kernel_rfl) (by kernel_rfl) (by kernel_rfl)) ?_
 intro W base args ds gs before hval0 hW hcnd _
 refine law_calls (s := Rows.fnExactNewWorldSpec) (tb := 4) answers5 kids flArgs (by rw [Try.params5]; decide) rfl Try.underlying4 rfl ?_ told ⟨trivial, Nat.zero_le _⟩ hval0 hW
 intro ds hds
 match ds, hds with
 | [d0, d1], _ => rfl
end Go.Proofs.Ythncjpkjmgmdlaa.fnExactNewWorld

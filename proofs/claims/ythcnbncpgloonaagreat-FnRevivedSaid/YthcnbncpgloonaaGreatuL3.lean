/-
  Proved: Rows.FnRevivedSaid: laws.FnRevived returns true for all arguments, and leaves what it was handed as it was.
-/
import Derived.Test.YthcnbncpgloonaaGreatRows
import Derived.Test.YthcnbncpgloonaaGreatuV20
import Derived.Test.YthcnbncpgloonaaGreatuAmData
import Derived.Test.YthcnbncpgloonaaGreatuAmSize
import Derived.WalkKit
import Derived.ProofKit
namespace Go.Proofs.YthcnbncpgloonaaGreat.fnRevived
open Go Go.Am Go.ChangeShapes Go.WideShapes Go.ChangeAt Go.RowKit
set_option linter.unusedVariables false
set_option linter.unusedSimpArgs false
theorem own:ownKnob Tryz.prog.godebug=none:=by kernel_rfl
def fl:Nat→Bool:=λ t=>t != 22
def L:List Nat:=[22,5]
theorem b3u:k0i Tryz.prog L=true:=by kernel_rfl
theorem z1a:w1r Tryz.prog L fl=true:=by kernel_rfl
theorem cells:Tryz.prog.cellsOf 5=1:=by kernel_rfl
theorem s1n:a0r Tryz.prog D:=y0c l0h w2g (λ den hD hI=>q1x l0h (by kernel_rfl) hD hI) y1z
theorem told:∀ vs,o0z Tryz.prog fl Tryz.f3.params.toList vs→D 3 vs=some (.bool true):=by
 intro vs h
 rw [Tryz.params3] at h
 have h0:o0z Tryz.prog fl [22] vs:=h
 clear h
 cases vs with
 | nil=>exact h0.elim
 | cons v0 vs=>
 cases vs with
 | cons v vs=>exact h0.2.elim
 | nil=>
  obtain ⟨n0,us0,c0,e0⟩:=h0.1
  obtain ⟨_,r0,ze,b0,w0⟩:=n1r c0 Tryz.underlying22 (by rw [Tryz.underlying5]; intro fs hfs; cases hfs)
  have q0:Rw wb tt r0:=λ r hr=>by
   obtain ⟨us,h1,h2⟩:=w0 r hr
   obtain ⟨m,h3,h4⟩:=y1o h1 Tryz.underlying5
   exact ⟨m,trivial,by rw [h2,h3]; rfl⟩
  rw [o1p (by rw [Tryz.underlying22]; intro fs hfs; cases hfs),ze,cells,show fl 5=true from rfl,List.headD_cons] at e0
  subst e0
  obtain ⟨b,hb,e⟩:=t3 q0
  subst hb
  obtain ⟨r,h3,h4⟩:=ok3 V [.sl 1 true r0] some (.bool true) (by
   show WU z0 (G4 F3) V _ some=_
   unfold WU
   rw [if_pos (by rfl)]
   exact e V _)
  rw [h3,h4]
set_option maxRecDepth 100000 in
theorem lifted (os:Os)(started:os.Started)(H:Type)(enc:TypeId × Value→H) :
  ReturnsInHanded {} Tryz.checked os 3 .any (Rows.fnRevivedSpec.pre6 enc Tryz.prog Tryz.f3 Rows.fnRevivedRow.domain false) (Rows.fnRevivedSpec.post enc Tryz.prog Tryz.f3 false true false false):=by
 refine returnsInHanded_of_change (C:=Tryz.checked) own started (by kernel_rfl) Tryz.func3
  (ChangeSpec.witness6 (enc:=enc) (C:=Tryz.checked) false ⟨#[],#[.slice none 0 0],[]⟩ 8 (by kernel_rfl) (by kernel_rfl) (by kernel_rfl) (by kernel_rfl)) ?_
 intro W base args ds gs before hval0 hW hcnd _
 refine j1e (s:=Rows.fnRevivedSpec) (tb:=4) s1n b3u z1a (by rw [Tryz.params3]; decide) rfl Tryz.underlying4 rfl ?_ told ⟨trivial,Nat.zero_le _⟩ hval0 hW
 intro ds hds
 match ds,hds with
 | [d0],_=>rfl
end Go.Proofs.YthcnbncpgloonaaGreat.fnRevived

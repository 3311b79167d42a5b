/-
  A law's arguments as data: what a type's form says, told shape by shape; the library functions' answers.
-/
import Derived.Test.YthcnbncpgloonaaGreatuAmCfg
import Derived.Test.YthcnbncpgloonaaGreatuAmSize
import Derived.Test.YthcnbncpgloonaaGreatuWalkF
import Derived.Test.YthcnbncpgloonaaGreatuWalkK
section
set_option linter.unusedVariables false
namespace Go.Am
open Go Go.Proofs
theorem i1a:a0r Go.Proofs.Tryz.prog t2v:=c1b (t1j Tryz.func170 (by kernel_rfl) (by kernel_rfl) (λ s w _ h=>Tryz.markup s w (by omega))) (t1k)
theorem x2m:a0r Go.Proofs.Tryz.prog D1:=y0c l0h w2g (λ den hD hI=>q1x l0h (by kernel_rfl) hD hI) i1a
theorem y1z:a0r Go.Proofs.Tryz.prog t2u:=c1b (Tryz.put_ok x2m) (i1a)
end Go.Am
end
section
set_option linter.unusedVariables false
set_option linter.unusedSimpArgs false
namespace Go.Am
open Go
section
variable {P:Program}{fl:Nat→Bool}{n t e:Nat}{vs:List V}
theorem y1o {k:IntKind}(h:Cn P fl n t vs)(hu:P.underlying t=some (.int k)):∃ m,vs=[.int k m]∧(Lit.int k m).wf=true:=by
 cases n with
 | zero=>cases h
 | succ n=>unfold Cn at h; rw [hu] at h; exact h
theorem n1r (h:Cn P fl n t vs)(hu:P.underlying t=some (.slice e))(he:∀ fs,P.underlying e ≠ some (.struct fs)):∃ m rows,vs=[.sl (P.cellsOf e) (fl e) rows]∧rows.length≤maxLen ∧ ∀ r∈rows,∃ us,Cn P fl m e us∧r=us.headD .undef:=by
 cases n with
 | zero=>cases h
 | succ n=>
  unfold Cn at h
  rw [hu] at h
  obtain ⟨rows,h1,h2,h3⟩:=h
  refine ⟨n,rows,h1,h2,λ r hr=>?_⟩
  obtain ⟨us,_,g2,g3⟩:=h3 r hr
  refine ⟨us,g2,?_⟩
  rw [g3]
  cases hd:P.underlying e with
  | none=>rfl
  | some d=>cases d <;> first | rfl | exact absurd hd (he _)
theorem o1p (hu:∀ fs,P.underlying t ≠ some (.struct fs)):e1p P t vs=vs.headD .undef:=by
 unfold e1p
 cases hd:P.underlying t with
 | none=>rfl
 | some d=>cases d <;> first | rfl | exact absurd hd (hu _)
end
end Go.Am
end

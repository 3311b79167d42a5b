/-
  What the looking form gives is what the machine gives.
-/
import Derived.Test.YthcnbncpgloonaaGreatuAmOps
import Derived.ChangeKeysEq
section
set_option linter.unusedVariables false
set_option linter.unusedSimpArgs false
namespace Go.Am
open Go Go.RowKit
mutual
def d0u:V→Value→Bool
 | .undef,_=>true
 | .bool b,.bool b'=>b == b'
 | .int k n,.int k' n'=>decide (k=k') && n == n'
 | .str s,.string x=>x.data.toList == s
 | .nil,.slice none l c=>l == 0 && c == 0
 | .agg cs,.agg vs=>l0c cs vs.toList
 | _,_=>false
def l0c:List V→List Value→Bool
 | [],[]=>true
 | c :: cs,v :: vs=>d0u c v && l0c cs vs
 | _,_=>false
end
theorem m0q (v:V):∀ x,d0u v x=true→r0w v x:=by
 refine V.rec (motive_1:=λ v=>∀ x,d0u v x=true→r0w v x) (motive_2:=λ l=>∀ xs,l0c l xs=true→l.length=xs.length ∧ ∀ (i:Nat) (c:V) (v:Value),l[i]? = some c→xs[i]? = some v→r0w c v)
  ?_ ?_ ?_ ?_ ?_ ?_ ?_ ?_ ?_ ?_ ?_ ?_ ?_ ?_ ?_ ?_ ?_ v
 ·intro x _ w S; exact .undef x
 ·intro b x h w S
  cases x <;> simp only [d0u] at h <;> first | (cases h; done) | skip
  simp only [beq_iff_eq] at h
  subst h
  exact .bool b
 ·intro k n x h w S
  cases x <;> simp only [d0u] at h <;> first | (cases h; done) | skip
  simp only [Bool.and_eq_true,decide_eq_true_eq,beq_iff_eq] at h
  obtain ⟨rfl,rfl⟩:=h
  exact .int k n
 ·intro s x h w S
  cases x <;> simp only [d0u] at h <;> first | (cases h; done) | skip
  simp only [beq_iff_eq] at h
  exact .str s _ h
 ·intro x h w S
  cases x with
  | slice a l c=>
   cases a with
   | none=>
    simp only [d0u,Bool.and_eq_true,beq_iff_eq] at h
    obtain ⟨h1,h2⟩:=h
    rw [h1,h2]
    exact .nil
   | some _=>simp [d0u] at h
  | _=>simp [d0u] at h
 ·intro _ _ _ _ x h; simp [d0u] at h
 ·intro _ _ _ _ _ x h; simp [d0u] at h
 ·intro _ _ _ _ _ x h; simp [d0u] at h
 ·intro _ _ x h; simp [d0u] at h
 ·intro _ _ _ _ _ _ _ x h; simp [d0u] at h
 ·intro _ _ _ _ x h; simp [d0u] at h
 ·intro _ _ _ x h; simp [d0u] at h
 ·intro cs ih x h w S
  cases x <;> simp only [d0u] at h <;> first | (cases h; done) | skip
  rename_i vs
  obtain ⟨h1,h2⟩:=ih _ h
  refine .agg cs vs (by simpa using h1) (λ i c v e1 e2=>h2 i c v e1 (by simpa using e2) w S)
 ·intro _ _ x h; simp [d0u] at h
 ·intro _ _ _ x h; simp [d0u] at h
 ·intro xs h
  cases xs with
  | nil=>exact ⟨rfl,λ i c v h=>by simp at h⟩
  | cons x xs=>simp [l0c] at h
 ·intro c l hc hl xs h
  cases xs with
  | nil=>simp [l0c] at h
  | cons x xs=>
   rw [l0c,Bool.and_eq_true] at h
   obtain ⟨h1,h2⟩:=hl xs h.2
   refine ⟨by simp [h1],λ i c' v e1 e2=>?_⟩
   cases i with
   | zero=>
    simp only [List.getElem?_cons_zero,sj_] at e1 e2
    subst e1; subst e2
    exact hc _ h.1
   | succ i=>exact h2 i c' v (by simpa using e1) (by simpa using e2)
def f0h (g:Nat→Option (List V)):Nat→List Field→Option (List V)
 | _,[]=>some []
 | off,f :: fs=>if f.name = "_" then none else if f.offset=off then (match g f.type with
  | some ks=>(match f0h g (off+ks.length) fs with
   | some ks'=>some (ks++ks')
   | none=>none)
  | none=>none) else none
def k0v (P:Program):Nat→Nat→Option (List V)
 | 0,_=>none
 | n+1,t=>match P.underlying t with
  | some .bool=>some [.bool false]
  | some (.int k)=>some [.int k 0]
  | some .string=>some [.str []]
  | some (.struct fs)=>if P.stoodInHeld t then none else (match f0h (k0v P n) 0 fs.toList with
   | some ks=>if P.cellsOf t=ks.length then some ks else none
   | none=>none)
  | _=>none
theorem m0k:∀ {ks cs:List V},a0j ks cs=true→ks.length=cs.length:=by
 intro ks
 induction ks with
 | nil=>intro cs h; cases cs with
  | nil=>rfl
  | cons c cs=>simp [a0j] at h
 | cons k ks ih=>intro cs h; cases cs with
  | nil=>simp [a0j] at h
  | cons c cs=>rw [a0j,Bool.and_eq_true] at h; simp [ih h.2]
theorem m0j:∀ {k1 k2 cs:List V},a0j (k1++k2) cs=true→a0j k1 (cs.take k1.length)=true∧a0j k2 (cs.drop k1.length)=true:=by
 intro k1
 induction k1 with
 | nil=>intro k2 cs h; exact ⟨rfl,h⟩
 | cons k k1 ih=>
  intro k2 cs h
  cases cs with
  | nil=>simp [a0j] at h
  | cons c cs=>
   rw [List.cons_append,a0j,Bool.and_eq_true] at h
   obtain ⟨h1,h2⟩:=ih h.2
   exact ⟨by simp only [List.length_cons,List.take_succ_cons,a0j,h.1,h1,Bool.and_self],by simpa using h2⟩
theorem u0l:∀ {cs ds:List V} {r:Bool} (n:Nat),c0r cs ds=some r → ∃ r1 r2,c0r (cs.take n) (ds.take n)=some r1∧c0r (cs.drop n) (ds.drop n)=some r2∧r=(r1 && r2):=by
 intro cs
 induction cs with
 | nil=>
  intro ds r n h
  cases ds with
  | nil=>simp only [c0r,sj_] at h; subst h; exact ⟨true,true,by simp [c0r],by simp [c0r],rfl⟩
  | cons d ds=>simp [c0r] at h
 | cons c cs ih=>
  intro ds r n h
  cases ds with
  | nil=>simp [c0r] at h
  | cons d ds=>
   cases n with
   | zero=>exact ⟨true,r,by simp [c0r],by simpa using h,by simp⟩
   | succ n=>
    rw [c0r] at h
    split at h
    ·rename_i x y hx hy
     simp only [sj_] at h
     obtain ⟨r1,r2,h1,h2,h3⟩:=ih n hy
     refine ⟨x && r1,r2,?_,by simpa using h2,by rw [← h,h3,Bool.and_assoc]⟩
     simp only [List.take_succ_cons,c0r,hx,h1]
    ·cases h
theorem a1r {s s':List UInt8}{y y':ByteArray}(h:y.data.toList=s)(h':y'.data.toList=s'):(y.toList == y'.toList)=(s == s'):=by
 rw [ByteArray.toList_eq,ByteArray.toList_eq,h,h']
section
variable {P:Program}
def i0c (P:Program)(t:Nat)(cells:List Value)(a:Value):Prop:=
 match P.underlying t with
 | some (.struct _)=>a = .agg cells.toArray
 | _=>cells=[a]
theorem j0g {t:Nat}{n:Nat}{ks:List V}(hk:k0v P n t=some ks){xs:Array Value}{off:Nat}(hlen:off+ks.length≤xs.size)(w:World) :
  ∃ a,(part t xs off).run P w = .ok a w∧i0c P t ((xs.toList.drop off).take ks.length) a:=by
 cases n with
 | zero=>cases hk
 | succ n=>
  unfold k0v at hk
  have scalar:ks.length=1→(∀ fs,P.underlying t ≠ some (.struct fs))→(∀ m e,P.underlying t ≠ some (.array m e))→(∃ d,P.underlying t=some d) → ∃ a,(part t xs off).run P w = .ok a w∧i0c P t ((xs.toList.drop off).take ks.length) a:=by
   intro h1 h2 h3 ⟨d,hd⟩
   have hlt:off < xs.size:=by omega
   refine ⟨xs[off],?_,?_⟩
   ·cases d <;> first | exact absurd hd (h2 _) | exact absurd hd (h3 _ _) | simp [part,isAgg,run_underlying hd,hlt]
   ·unfold i0c
    rw [h1,hd]
    have:(xs.toList.drop off).take 1=[xs[off]]:=by
     rw [List.drop_eq_getElem_cons (by simpa using hlt)]
     simp
    cases d <;> first | exact absurd hd (h2 _) | exact this
  split at hk
  ·rename_i hu; simp only [sj_] at hk; subst hk; exact scalar rfl (by rw [hu]; simp) (by rw [hu]; simp) ⟨_,hu⟩
  ·rename_i k hu; simp only [sj_] at hk; subst hk; exact scalar rfl (by rw [hu]; simp) (by rw [hu]; simp) ⟨_,hu⟩
  ·rename_i hu; simp only [sj_] at hk; subst hk; exact scalar rfl (by rw [hu]; simp) (by rw [hu]; simp) ⟨_,hu⟩
  ·rename_i fs hu
   split at hk
   ·cases hk
   ·split at hk
    ·rename_i ks' hf
     split at hk
     ·rename_i hc
      simp only [sj_] at hk
      subst hk
      obtain ⟨i,hi⟩:=info_of_underlying hu
      refine ⟨.agg (xs.extract off (off+ks'.length)),?_,?_⟩
      ·simp [part,isAgg,run_underlying hu,run_sizeOf w hi,hc]
      ·unfold i0c
       rw [hu]
       simp only [Value.agg.injEq]
       apply Array.ext'
       simp [List.extract_eq_take_drop]
     ·cases hk
    ·cases hk
  ·cases hk
theorem t1h:∀ (n t:Nat) (ks:List V),k0v P n t=some ks → ∀ (m:Nat) (w:World) (xs ys:List Value) (a b:Value) (cs ds:List V) (r:Bool),i0c P t xs a→i0c P t ys b→cs.length=xs.length→ds.length=ys.length →
  a0j ks cs=true→a0j ks ds=true→(∀ (j:Nat) (c:V) (v:Value),cs[j]? = some c→xs[j]? = some v→n1f c v)→(∀ (j:Nat) (c:V) (v:Value),ds[j]? = some c→ys[j]? = some v→n1f c v) →
  c0r cs ds=some r→(Op.equalIn (n+m) t a b).run P w = .ok r w:=by
 intro n
 induction n with
 | zero=>intro t ks hk; cases hk
 | succ n ih=>
  intro t ks hk m w xs ys a b cs ds r pa pb hl1 hl2 hk1 hk2 hs1 hs2 hr
  rw [show n+1+m=(n+m)+1 by omega]
  unfold k0v at hk
  have one:∀ {k:V} {cs:List V},a0j [k] cs=true → ∃ c,cs=[c]∧d0w k c=true:=by
   intro k cs h
   cases cs with
   | nil=>simp [a0j] at h
   | cons c cs=>
    cases cs with
    | nil=>exact ⟨c,rfl,by simpa [a0j] using h⟩
    | cons _ _=>simp [a0j] at h
  split at hk
  ·rename_i hu
   simp only [sj_] at hk; subst hk
   unfold i0c at pa pb
   rw [hu] at pa pb
   simp only at pa pb
   subst pa; subst pb
   obtain ⟨c,rfl,hc⟩:=one hk1
   obtain ⟨d,rfl,hd⟩:=one hk2
   cases c <;> simp only [d0w] at hc <;> first | (cases hc; done) | skip
   cases d <;> simp only [d0w] at hd <;> first | (cases hd; done) | skip
   have e1:=hs1 0 _ _ rfl rfl
   have e2:=hs2 0 _ _ rfl rfl
   simp only [n1f] at e1 e2
   subst e1; subst e2
   simp only [c0r,b1x,Bool.and_true,sj_] at hr
   rw [run_equalIn_bool w _ t _ _ hu,hr]
  ·rename_i k hu
   simp only [sj_] at hk; subst hk
   unfold i0c at pa pb
   rw [hu] at pa pb
   simp only at pa pb
   subst pa; subst pb
   obtain ⟨c,rfl,hc⟩:=one hk1
   obtain ⟨d,rfl,hd⟩:=one hk2
   cases c <;> simp only [d0w] at hc <;> first | (cases hc; done) | skip
   cases d <;> simp only [d0w] at hd <;> first | (cases hd; done) | skip
   simp only [decide_eq_true_eq] at hc hd
   subst hc; subst hd
   have e1:=hs1 0 _ _ rfl rfl
   have e2:=hs2 0 _ _ rfl rfl
   simp only [n1f] at e1 e2
   subst e1; subst e2
   simp only [c0r,b1x,if_true,Bool.and_true,sj_] at hr
   rw [run_equalIn_int w _ t _ _ _ _ hu,hr]
  ·rename_i hu
   simp only [sj_] at hk; subst hk
   unfold i0c at pa pb
   rw [hu] at pa pb
   simp only at pa pb
   subst pa; subst pb
   obtain ⟨c,rfl,hc⟩:=one hk1
   obtain ⟨d,rfl,hd⟩:=one hk2
   cases c <;> simp only [d0w] at hc <;> first | (cases hc; done) | skip
   cases d <;> simp only [d0w] at hd <;> first | (cases hd; done) | skip
   have e1:=hs1 0 _ _ rfl rfl
   have e2:=hs2 0 _ _ rfl rfl
   simp only [n1f] at e1 e2
   obtain ⟨y1,rfl,h1⟩:=e1
   obtain ⟨y2,rfl,h2⟩:=e2
   simp only [c0r,b1x,Bool.and_true,sj_] at hr
   rw [run_equalIn_string w _ t _ _ hu,a1r h1 h2,hr]
  ·rename_i fs hu
   split at hk
   ·cases hk
   ·rename_i hst
    split at hk
    ·rename_i ks' hf
     split at hk
     ·rename_i hc
      simp only [sj_] at hk
      subst hk
      unfold i0c at pa pb
      rw [hu] at pa pb
      simp only at pa pb
      subst pa; subst pb
      have hfo:P.fieldsOf t=fs:=by unfold Program.fieldsOf; rw [hu]
      rw [run_equalIn_struct w (n+m) t _ _ (by rw [hfo]; exact hu) (by simpa using hst),hfo]
      have hlx:xs.length=ks'.length:=by rw [← hl1,← m0k hk1]
      have hly:ys.length=ks'.length:=by rw [← hl2,← m0k hk2]
      -- o0v the fields
      have key:∀ (fs:List Field) (off:Nat) (ks1:List V) (cs1 ds1:List V) (r:Bool),f0h (k0v P n) off fs=some ks1→off+ks1.length≤xs.length→off+ks1.length≤ys.length →
        cs1=(cs.drop off).take ks1.length→ds1=(ds.drop off).take ks1.length→a0j ks1 cs1=true→a0j ks1 ds1=true→c0r cs1 ds1=some r→(Op.eqFields (n+m) xs.toArray ys.toArray fs).run P w = .ok r w:=by
       intro fs
       induction fs with
       | nil=>
        intro off ks1 cs1 ds1 r h1 _ _ h2 h3 _ _ h4
        simp only [f0h,sj_] at h1
        subst h1
        simp only [List.length_nil,List.take_zero] at h2 h3
        subst h2; subst h3
        simp only [c0r,sj_] at h4
        subst h4
        simp [Op.eqFields]
       | cons f fs ihf=>
        intro off ks1 cs1 ds1 r h1 g1 g2 h2 h3 h5 h6 h4
        simp only [f0h] at h1
        split at h1
        ·cases h1
        ·rename_i hn
         split at h1
         ·rename_i hoff
          split at h1
          ·rename_i ka hka
           split at h1
           ·rename_i kb hkb
            simp only [sj_] at h1
            subst h1
            rw [List.length_append] at g1 g2 h2 h3
            obtain ⟨a1,p1,q1⟩:=j0g hka (xs:=xs.toArray) (off:=off) (by simp; omega) w
            obtain ⟨b1,p2,q2⟩:=j0g hka (xs:=ys.toArray) (off:=off) (by simp; omega) w
            obtain ⟨r1,r2,s1,s2,s3⟩:=u0l ka.length h4
            obtain ⟨u1,u2⟩:=m0j h5
            obtain ⟨v1,v2⟩:=m0j h6
            simp only at q1 q2
            have tk:∀ (l:List V),((l.drop off).take (ka.length+kb.length)).take ka.length=(l.drop off).take ka.length:=λ l=>by rw [List.take_take]; congr 1; omega
            have dk:∀ (l:List V),((l.drop off).take (ka.length+kb.length)).drop ka.length=(l.drop (off+ka.length)).take kb.length:=λ l=>by rw [List.drop_take,List.drop_drop]; congr 1; omega
            rw [h2,tk] at s1 u1
            rw [h3,tk] at s1 v1
            rw [h2,dk] at s2 u2
            rw [h3,dk] at s2 v2
            have he:=ih f.type ka hka m w _ _ a1 b1 _ _ r1 q1 q2 (by simp; omega) (by simp; omega) u1 v1
             (λ j c v e1 e2=>by
              have hj:j < ka.length:=by have:=(gs_ e1).1; simp at this; omega
              rw [List.getElem?_take_of_lt hj,List.getElem?_drop] at e1 e2
              exact hs1 (off+j) c v e1 e2)
             (λ j c v e1 e2=>by
              have hj:j < ka.length:=by have:=(gs_ e1).1; simp at this; omega
              rw [List.getElem?_take_of_lt hj,List.getElem?_drop] at e1 e2
              exact hs2 (off+j) c v e1 e2) s1
            have hrest:=ihf (off+ka.length) kb _ _ r2 hkb (by omega) (by omega) rfl rfl u2 v2 s2
            simp only [Op.eqFields,hn,ne_eq,not_false_eq_true,if_true,Sem.run_bind,hoff,p1,p2,he,Result.andThen_ok]
            cases r1
            ·simp [s3]
            ·simpa [s3] using hrest
           ·cases h1
          ·cases h1
         ·cases h1
      exact key fs.toList 0 ks' cs ds r hf (by omega) (by omega) (by rw [List.drop_zero,List.take_of_length_le (by omega)]) (by rw [List.drop_zero,List.take_of_length_le (by omega)]) hk1 hk2 hr
     ·cases hk
    ·cases hk
  ·cases hk
def j0a:List V→List V→Bool
 | [],[]=>true
 | .bool _ :: az,.bool _ :: bs=>j0a az bs
 | .int k _ :: az,.int k' _ :: bs=>decide (k=k') && j0a az bs
 | .str _ :: az,.str _ :: bs=>j0a az bs
 | _,_=>false
theorem n0r:∀ {ks zs:List V},j0a ks zs=true → ∀ cs,a0j zs cs=true→a0j ks cs=true:=by
 intro ks
 induction ks with
 | nil=>intro zs h cs hc; cases zs with
  | nil=>exact hc
  | cons _ _=>simp [j0a] at h
 | cons k ks ih=>
  intro zs h cs hc
  cases zs with
  | nil=>cases k <;> simp [j0a] at h
  | cons z zs=>
   cases cs with
   | nil=>simp [a0j] at hc
   | cons c cs=>
    rw [a0j,Bool.and_eq_true] at hc
    rw [a0j,Bool.and_eq_true]
    cases k <;> cases z <;> simp only [j0a] at h <;> first | (cases h; done) | skip
    ·exact ⟨by cases c <;> simp_all [d0w],ih h cs hc.2⟩
    ·rw [Bool.and_eq_true,decide_eq_true_eq] at h
     obtain ⟨rfl,h⟩:=h
     exact ⟨by cases c <;> simp_all [d0w],ih h cs hc.2⟩
    ·exact ⟨by cases c <;> simp_all [d0w],ih h cs hc.2⟩
def n0n (P:Program)(t:Nat)(d:Ty):Bool:=
 match d,P.underlying t with
 | .bool,some .bool=>true
 | .int k,some (.int k')=>decide (k=k')
 | .str,some .string=>true
 | .slice e,some (.slice e')=>e == e'
 | .struct fs,some (.struct fields)=>decide (fields.toList.map (λ f=>(f.offset,f.type))=fs) && fields.toList.all (λ f=>(P.info? f.type).isSome)
 | .array n e,some (.array n' e')=>n == n' && e == e'
 | .ptr _,some (.pointer _)=>true
 | _,_=>false
def z0d (P:Program)(t:Nat)(i:TyInfo):Bool:=
 match P.info? t with
 | none=>false
 | some ti=>ti.size == i.size && ti.bytes == i.bytes && (match ti.zero with
  | none=>false
  | some z=>d0u i.zero z && l0c i.zero.cells z.cells.toList && z.cells.toList.all (·.oneCell')) && i.zero.cells.length == i.size && n0n P t i.d &&
   (!i.cmp || (!P.eqGuardType P.depth t && (match P.underlying t,k0v P 10000 t with
    | some (.struct _),some ks=>j0a ks i.zero.cells
    | _,_=>false)))
theorem z0e {c:Cfg}{t:Nat}{i:TyInfo}(h:z0d P t i=true):∃ ti,AgreeT P c t i ti:=by
 unfold z0d at h
 split at h
 ·cases h
 ·rename_i ti hti
  simp only [Bool.and_eq_true,beq_iff_eq] at h
  obtain ⟨⟨⟨⟨⟨h1,h2⟩,h3⟩,h4⟩,h5⟩,h6⟩:=h
  split at h3
  ·cases h3
  ·rename_i z hz
   simp only [Bool.and_eq_true,List.all_eq_true] at h3
   obtain ⟨⟨z1,z2⟩,z3⟩:=h3
   have hcells:i.zero.cells.length=z.cells.toList.length ∧ ∀ (j:Nat) (c:V) (v:Value),i.zero.cells[j]? = some c→z.cells.toList[j]? = some v→r0w c v:=by
    have:=m0q (.agg i.zero.cells) (.agg z.cells) (by simpa [d0u] using z2)
    have h0:=this default (λ _=>True)
    cases h0 with
    | agg _ _ hl _=>
     refine ⟨by simpa using hl,λ j c v e1 e2 w S=>?_⟩
     have h':=this w S
     cases h' with
     | agg _ _ _ hr=>exact hr j c v e1 (by simpa using e2)
   refine ⟨ti,hti,h1,h2,⟨z,hz,m0q _ _ z1,hcells.1.symm,z3,λ j c hj=>?_⟩,h4,?_,?_,?_,?_,?_,?_,?_,?_⟩
   ·have hlt:j < z.cells.toList.length:=by rw [← hcells.1]; exact (gs_ hj).1
    refine ⟨z.cells.toList[j],?_,hcells.2 j c _ hj (List.getElem?_eq_getElem hlt)⟩
    rw [← Array.getElem?_toList]
    exact List.getElem?_eq_getElem hlt
   ·intro e; rw [e] at h5; unfold n0n at h5; split at h5 <;> simp_all
   ·intro k e; rw [e] at h5; unfold n0n at h5; split at h5 <;> simp_all
   ·intro e; rw [e] at h5; unfold n0n at h5; split at h5 <;> simp_all
   ·intro k e; rw [e] at h5; unfold n0n at h5; split at h5 <;> simp_all
   ·intro fs e
    rw [e] at h5; unfold n0n at h5
    split at h5 <;> first | (cases h5; done) | skip
    all_goals first | (rename_i heq _; cases heq; done) | skip
    rename_i _ _ fs' fields heq hu
    injection heq with heq
    subst heq
    simp only [Bool.and_eq_true,decide_eq_true_eq,List.all_eq_true] at h5
    exact ⟨fields,hu,h5.1,λ f hf=>Option.isSome_iff_exists.1 (h5.2 f hf)⟩
   ·intro n k e; rw [e] at h5; unfold n0n at h5; split at h5 <;> simp_all
   ·intro hc
    rw [hc] at h6
    simp only [Bool.not_true,Bool.false_or,Bool.and_eq_true,Bool.not_eq_true'] at h6
    refine ⟨h6.1,λ w xs ys cs ds r g1 g2 g3 g4 g5 g6 g7=>?_⟩
    have h7:=h6.2
    split at h7
    ·rename_i fs ks hu hks
     exact t1h 10000 t ks hks 0 w xs.toList ys.toList _ _ cs ds r (by unfold i0c; rw [hu]) (by unfold i0c; rw [hu]) (by simpa using g1) (by simpa using g2) (n0r h7 cs g3) (n0r h7 ds g4)
      (λ j c v e1 e2=>g5 j c v e1 (by simpa using e2)) (λ j c v e1 e2=>g6 j c v e1 (by simpa using e2)) g7
    ·cases h7
   ·intro ha
    unfold n0n at h5
    split at h5 <;> first | (cases h5; done) | skip
    all_goals first | (simp [Ty.isAgg, *] at ha; done) | (rename_i hu; exact ⟨_,hu,λ _=>by simp,λ _ _=>by simp⟩)
def b1u (P:Program)(tys:List (Option TyInfo)):Bool:=(List.range tys.length).all λ t=>match tys.getD t none with
 | some i=>z0d P t i
 | none=>true
theorem n1j {c:Cfg}(tys:List (Option TyInfo))(hc:∀ t,c.ty t=tys.getD t none)(h:b1u P tys=true):b0l P c:=by
 intro t i ht
 rw [hc] at ht
 unfold b1u at h
 rw [List.all_eq_true] at h
 rcases Nat.lt_or_ge t tys.length with hlt | hge
 ·have:=h t (List.mem_range.2 hlt)
  rw [ht] at this
  exact z0e this
 ·rw [List.getD_eq_getElem?_getD,List.getElem?_eq_none hge] at ht
  cases ht
end
end Go.Am
end
section
set_option linter.unusedVariables false
set_option linter.unusedSimpArgs false
namespace Go.Am
open Go
inductive CK where
  | bool
  | int (k:IntKind)
  | str
  | sl (s:Nat) (fl:Bool)
def CK.T:CK→Type
 | .bool=>Bool
 | .int _=>Int
 | .str=>List UInt8
 | .sl _ _=>List V
def CK.dec:(k:CK)→V→Option k.T
 | .bool,.bool b=>some b
 | .int k,.int k' n=>if k' = k then some n else none
 | .str,.str s=>some s
 | .sl s f,.sl s' f' xs=>if s' = s∧f' = f then some xs else none
 | _,_=>none
def CK.enc:(k:CK)→k.T→V
 | .bool,b=>.bool b
 | .int k,n=>.int k n
 | .str,s=>.str s
 | .sl s f,xs=>.sl s f xs
def c0k:List CK→Type
 | []=>Unit
 | k :: ks=>k.T × c0k ks
def c0w:(ks:List CK)→List V→Option (c0k ks)
 | [],[]=>some ()
 | k :: ks,v :: vs=>match k.dec v,c0w ks vs with
  | some a,some b=>some (a,b)
  | _,_=>none
 | _,_=>none
def d0j:(ks:List CK)→c0k ks→List V
 | [],_=>[]
 | k :: ks,e=>k.enc e.1 :: d0j ks e.2
def m0g (ag:Bool)(ks:List CK)(v:V):Option (c0k ks):=
 match ag,v with
 | true,.agg cs=>c0w ks cs
 | true,_=>none
 | false,.agg _=>none
 | false,v=>c0w ks [v]
def g0u (ag:Bool)(ks:List CK)(e:c0k ks):V:=
 match ag with
 | true=>.agg (d0j ks e)
 | false=>(d0j ks e).headD .undef
def z1w (z n:V):Option CK:=
 match z,n with
 | .bool _,_=>some .bool
 | .int k _,_=>some (.int k)
 | .str _,_=>some .str
 | .nil,.view _ s q _=>some (.sl s q.isFlat)
 | _,_=>none
def j1c:List V→List V→Option (List CK)
 | [],_=>some []
 | z :: zs,ns=>match z1w z (ns.headD .undef),j1c zs ns.tail with
  | some k,some ks=>some (k :: ks)
  | _,_=>none
def TyInfo.kinds (i:TyInfo):Option (List CK):=j1c i.zero.cells i.nz
section
variable {α:Type}
def br (b:Bool)(x y:Option α):Option α:=
 match b with
 | true=>x
 | false=>y
def chk (p:Prop)[Decidable p](x:Option α):Option α:=if p then x else none
def idx (ag:Bool)(ks:List CK)(xs:List V)(i:Nat)(k:c0k ks→Option α):Option α:=
 match (xs[i]?).bind (m0g ag ks) with
 | some e=>k e
 | none=>none
def idxAt (ks:List CK)(xs:List V)(i o:Nat)(k:c0k ks→Option α):Option α:=
 match (xs[i]?).bind (λ r=>c0w ks ((r.cells.drop o).take ks.length)) with
 | some e=>k e
 | none=>none
def idxS (s:List UInt8)(n:Int)(k:Int→Option α):Option α:=
 chk (0≤n) (match s[n.toNat]? with
  | some b=>k b.toNat
  | none=>none)
def strO (xs:List V)(k:List UInt8→Option α):Option α:=
 match e0f xs with
 | some s=>k s
 | none=>none
def c0z (xs:List V)(i o:Nat)(new:List V)(k:List V→Option α):Option α:=
 match g0v xs i o new with
 | some ys=>k ys
 | none=>none
def b1s (n:Int):Option V→Option Int
 | none=>some n
 | some (.int _ i)=>some i
 | _=>none
def s1x (n:Nat)(lo hi:Option V)(k:Nat→Nat→Option α):Option α:=
 match b1s 0 lo,b1s n hi with
 | some l,some h=>chk (0≤l∧l≤h∧h≤n) (k l.toNat h.toNat)
 | _,_=>none
def h2t (i:TyInfo)(op:BinOp)(x y:V)(k:V→Option α):Option α:=
 match op,x,y with
 | .add,.str a,.str b=>chk (a.length+b.length≤9223372036854775807) (k (.str (a++b)))
 | .quo,.int kd a,.int kd' b=>if kd=kd' then chk (b ≠ 0) (k (.int kd (kd.wrap (a.tdiv b)))) else none
 | .rem,.int kd a,.int kd' b=>if kd=kd' then chk (b ≠ 0) (k (.int kd (a.tmod b))) else none
 | op,x,y=>match w0u i op x y with
  | some v=>k v
  | none=>none
def g1d (c:Cfg)(tab:Nat→List V→(V→Option α)→Option α)(ρ:Operand→V)(η:Nat→Option V)(d:Nat)(op:Op)(k:Out→Option α):Option α:=
 match op with
 | .pick x a b=>match ρ x with
  | .bool t=>br t (k (.val (ρ a))) (k (.val (ρ b)))
  | _=>none
 | .binOp op t x y _=>match c.ty t with
  | some i=>h2t i op (ρ x) (ρ y) (λ v=>k (.val v))
  | none=>none
 | .load t a=>match c.ty t,ρ a with
  | some i,.eptr _ _ _ xs j o=>match i.kinds with
   | some ks=>if ks.length=i.size∧(i.d.isAgg=true∨i.size=1) then idxAt ks xs j o (λ e=>k (.val (g0u i.d.isAgg ks e))) else none
   | none=>none
  | some i,v=>match i0f η i v with
   | some v=>k (.val v)
   | none=>none
  | none,_=>none
 | .slice t x lo hi none=>match c.ty t with
  | some i=>match i.d with
   | .str=>match ρ x with
    | .str s=>s1x s.length (lo.map ρ) (hi.map ρ) (λ l h=>k (.val (.str ((s.take h).drop l))))
    | _=>none
   | .slice e=>match c.ty e with
    | some j=>match ρ x with
     | .nil=>s1x 0 (lo.map ρ) (hi.map ρ) (λ _ _=>k (.val .nil))
     | .sl s f xs=>if s=j.size then s1x xs.length (lo.map ρ) (hi.map ρ) (λ l h=>k (.val (.sl s f ((xs.take h).drop l)))) else none
     | .own b s q xs=>if s=j.size then s1x xs.length (lo.map ρ) (hi.map ρ) (λ l h=>k (.val (.view b s q ((xs.take h).drop l)))) else none
     | .view b s q xs=>if s=j.size then s1x xs.length (lo.map ρ) (hi.map ρ) (λ l h=>k (.val (.view b s q ((xs.take h).drop l)))) else none
     | _=>none
    | none=>none
   | _=>none
  | none=>none
 | .indexAddr t x y=>match c.ty t,ρ y with
  | some i,.int _ n=>match i.d with
   | .slice e=>match c.ty e with
    | some j=>match ρ x with
     | .sl s _ xs=>match j.kinds with
      | some ks=>if s=j.size then chk (0≤n) (idx j.d.isAgg ks xs n.toNat (λ e=>k (.val (.iptr (g0u j.d.isAgg ks e) 0)))) else none
      | none=>none
     | .view b s _ xs=>match j.kinds with
      | some ks=>if s=j.size then chk (0≤n) (idx j.d.isAgg ks xs n.toNat (λ e=>k (.val (.vptr b (g0u j.d.isAgg ks e) 0)))) else none
      | none=>none
     | .own b s q xs=>if s=j.size then chk (0≤n∧n.toNat < xs.length) (k (.val (.eptr b j.size q xs n.toNat 0))) else none
     | _=>none
    | none=>none
   | .array m e=>match c.ty e with
    | some j=>match f0f (ρ x) (n.toNat * j.size) with
     | some v=>chk (0≤n∧n < m) (k (.val v))
     | none=>none
    | none=>none
   | _=>none
  | _,_=>none
 | .index t x y=>match c.ty t,ρ y with
  | some i,.int _ n=>match i.d,ρ x with
   | .str,.str s=>idxS s n (λ b=>k (.val (.int .u8 b)))
   | .array m e,.agg cs=>match c.ty e with
    | some j=>match f0s j.d.isAgg j.size (cs.drop (n.toNat * j.size)) with
     | some v=>chk (0≤n∧n < m) (k (.val v))
     | none=>none
    | none=>none
   | _,_=>none
  | _,_=>none
 | .convert s t x=>match p0q c s t (ρ x) with
  | some v=>k (.val v)
  | none=>match l0q c s t (ρ x) with
   | some xs=>strO xs (λ s=>k (.val (.str s)))
   | none=>match e0e c s t (ρ x) with
    | some v=>k (.fresh v [] 0)
    | none=>none
 | .makeSlice t l kk=>match c.ty t with
  | some ⟨.slice e,_,_,_,_,_,_⟩=>match c.ty e,ρ l,ρ kk with
   | some i,.int _ n,.int _ m=>if i.size ≠ 0∧v0i i.size [i.zero]=true∧u1x i.zero = .flat then
     (match i0u (c0e i.nz i.zero) with
     | some z=>chk (0≤n∧n≤m∧m * i.bytes≤140737488355328∧m≤140737488355328) (k (.fresh (.own (base d 0) i.size ((u1x (c0e i.nz i.zero)).join i.qz) (List.replicate n.toNat z)) [] 1))
     | none=>none) else none
   | _,_,_=>none
  | _=>none
 | .call ⟨.builtin .append,args,ts⟩=>match args.toList,ts.toList with
  | [x,y],[t,t']=>match c.ty t with
   | some ⟨.slice e,_,_,_,_,_,_⟩=>match c.ty e,ρ x with
    | some i,.nil=>match i0g i.size (ρ y) with
     | some (q,ys)=>if t' = t∧i.size ≠ 0 then chk (ys.length * i.bytes≤140737488355328∧ys.length≤140737488355328) (k (.fresh (.own (base d 0) i.size (q.join i.qz) ys) (m0m q (ρ y)) 1)) else none
     | none=>none
    | _,_=>none
   | _=>none
  | _,_=>none
 | .call ⟨.value f,args,_⟩=>match ρ f with
  | .clo g cap=>match c0t η (args.toList.map ρ++cap) with
   | some vs=>tab g (e0t (c.pz g) vs) (λ r=>match y0l d (args.toList.map ρ++cap) r with
    | some o=>k o
    | none=>none)
   | none=>none
  | _=>none
 | op=>match a0d c (λ _ _=>none) ρ η d op with
  | some o=>k o
  | none=>none
def t1e (c:Cfg)(st:St)(d:Option Nat)(op:Op)(k:St→Option α):Option α:=
 match op with
 | .store t a x=>match c.ty t with
  | some i=>if (ev st.t x).cells.length=i.size∧d0m (ev st.t x).cells=true∧d=none then (match ev st.t a with
    | .ptr b o=>(match st.h.getD b none with
     | some r=>(match o0v r.cells o (ev st.t x).cells with
      | some cs=>k { st with h:=st.h.set b (some (h0u r cs)) }
      | none=>none)
     | none=>none)
    | .eptr b _ q xs j o=>if st.dead b=false∧(b0k (c0e i.nz (ev st.t x)).cells).contains b=false then
      (match l0s (c0e i.nz (ev st.t x)).cells with
      | some new=>c0z xs j o new (λ ys=>k (((st.sweep (c0v b (q.join (f0g (c0e i.nz (ev st.t x)).cells)) ys)).kill (b0k (c0e i.nz (ev st.t x)).cells)).mark (!a0i st.dead (b0k (c0e i.nz (ev st.t x)).cells))))
      | none=>none) else none
    | _=>none) else none
  | none=>none
 | .call ⟨.builtin .append,args,ts⟩=>match args.toList,ts.toList,d with
  | [x,y],[t,t'],some d=>match c.ty t with
   | some ⟨.slice e,_,_,_,_,_,_⟩=>match c.ty e,ev st.t x with
    | some i,.own b s q xs=>match i0g s (ev st.t y) with
     | some (q',ys)=>
      if t' = t∧s=i.size∧i.size ≠ 0∧st.dead b=false∧b ≠ 999 then
       chk ((xs.length+ys.length) * i.bytes≤140737488355328∧xs.length+ys.length≤140737488355328) (k ((({ st.sweep (a0h b) with t:=(st.sweep (a0h b)).t.set d (.own b s (q.join q') (xs++ys)) }:St).kill (m0m q' (ev st.t y))).mark (!a0i st.dead (m0m q' (ev st.t y)) || (m0m q' (ev st.t y)).contains b)))
      else none
     | none=>none
    | _,_=>none
   | _=>none
  | _,_,_=>none
 | _=>none
def m2a (st:St)(d:Nat)(k:St→Option α):Out→Option α
 | .val v=>k { st with t:=st.t.set d v }
 | .box r=>if d < st.t.length∧d < st.h.length∧(st.h.getD d none).isNone=true∧st.freeP d=true∧r.anyP (λ b=>b == d)=false then
   k { st with t:=st.t.set d (.ptr d 0),h:=st.h.set d (some r) } else none
 | .fresh v esc n=>if d < 1000∧n≤1000∧(n=0∨st.freeD d=true) then k ((({ st with t:=st.t.set d v }:St).kill esc).mark (!a0i st.dead esc)) else none
def y0e (c:Cfg)(tab:Nat→List V→(V→Option α)→Option α)(st:St)(o:Oper)(k:St→Option α):Option α:=
 if c0g st o.op then t1e c st o.dst o.op k else
 match o.dst with
 | none=>none
 | some d=>g1d c tab (ev st.t) (λ b=>st.h.getD b none) d o.op (m2a st d k)
def St.skip (st:St)(o:Oper):St:=
 match o.dst with
 | some d=>{ st with t:=st.t.set d d0g }
 | none=>st
def St.know (st:St)(d:Nat)(b:Bool):St:={ st with t:=st.t.set d (.bool b) }
def g1c (c:Cfg)(tab:Nat→List V→(V→Option α)→Option α)(ops:Array Oper):List Oper→St→(St→Option α)→Option α
 | [],st,k=>k st
 | o :: os,st,k=>match o.guard with
  | none=>y0e c tab st o (λ s=>g1c c tab ops os s k)
  | some (j,want)=>match (ops[j]?).bind (·.dst) with
   | none=>g1c c tab ops os (st.skip o) k
   | some dd=>match st.t.getD dd .undef with
    | .bool b=>br b
      (match want with
       | true=>y0e c tab (st.know dd true) o (λ s=>g1c c tab ops os s k)
       | false=>g1c c tab ops os ((st.know dd true).skip o) k)
      (match want with
       | true=>g1c c tab ops os ((st.know dd false).skip o) k
       | false=>y0e c tab (st.know dd false) o (λ s=>g1c c tab ops os s k))
    | .tup []=>g1c c tab ops os (st.skip o) k
    | _=>none
def wrO (g:Wr)(xs:List V)(k:List V→Nat→Option α):Option α:=
 match g.g xs with
 | some (ys,n)=>k ys n
 | none=>none
def wrK (st:St)(d:Option Nat)(g:Wr)(x:Operand)(k:St→Option α):Option α:=
  match ev st.t x,d with
  | .own b s q xs,some d=>if st.dead b=false∧b ≠ 999∧q = .flat∧s=g.s then
      wrO g xs (λ ys n=>k { st.sweep (c0v b .flat ys) with t:=(st.sweep (c0v b .flat ys)).t.set d (match g.v with
        | true=>.view b s .flat (ys.take n)
        | false=>.tup []) }) else none
  | _,_=>none
def ioK (c:Cfg)(tab:Nat→List V→(V→Option α)→Option α)(st:St)(d:Option Nat)(f:Nat)(s:Io)(az:List Operand)(k:St→Option α):Option α:=
 match d with
 | some d=>match m0w c st f s (az.map (ev st.t)) with
  | some p=>tab f (h0e :: p.args) (λ r=>match k0h st d s p r with
   | some s=>k s
   | none=>none)
  | none=>none
 | none=>none
def t0s (c:Cfg)(tab:Nat→List V→(V→Option α)→Option α)(st:St)(o:Oper)(k:St→Option α):Option α:=
 match v1j c o.op with
 | some (g,x)=>wrK st o.dst g x k
 | none=>match i0h c o.op with
  | some (f,s,az)=>ioK c tab (st.head ([],[])) o.dst f s az k
  | none=>y0e c tab st o k
def o0l (c:Cfg)(tab:Nat→List V→(V→Option α)→Option α)(ops:Array Oper):List Oper→St→(St→Option α)→Option α
 | [],st,k=>k st
 | o :: os,st,k=>match o.guard with
  | none=>t0s c tab st o (λ s=>o0l c tab ops os s k)
  | some (j,want)=>match (ops[j]?).bind (·.dst) with
   | none=>o0l c tab ops os (st.skip o) k
   | some dd=>match st.t.getD dd .undef with
    | .bool b=>br b
      (match want with
       | true=>t0s c tab (st.know dd true) o (λ s=>o0l c tab ops os s k)
       | false=>o0l c tab ops os ((st.know dd true).skip o) k)
      (match want with
       | true=>o0l c tab ops os ((st.know dd false).skip o) k
       | false=>t0s c tab (st.know dd false) o (λ s=>o0l c tab ops os s k))
    | .tup []=>o0l c tab ops os (st.skip o) k
    | _=>none
def t0q (c:Cfg)(tab:Nat→List V→(V→Option α)→Option α)(ops:Array Oper)(st:St)(o:Oper)(k:St→Option α):Option α:=
 match i0h c o.op with
 | some (f,s,az)=>ioK c tab (st.head ([],[])) o.dst f s az (λ s'=>match b0t ops [] (s'.head ([],[])) with
  | true=>k (s'.head ([],[]))
  | false=>none)
 | none=>y0e c tab st o k
def o0k (c:Cfg)(tab:Nat→List V→(V→Option α)→Option α)(ops:Array Oper):List Oper→St→(St→Option α)→Option α
 | [],st,k=>k st
 | o :: os,st,k=>match o.guard with
  | none=>t0q c tab ops st o (λ s=>o0k c tab ops os s k)
  | some (j,want)=>match (ops[j]?).bind (·.dst) with
   | none=>o0k c tab ops os (st.skip o) k
   | some dd=>match st.t.getD dd .undef with
    | .bool b=>br b
      (match want with
       | true=>t0q c tab ops (st.know dd true) o (λ s=>o0k c tab ops os s k)
       | false=>o0k c tab ops os ((st.know dd true).skip o) k)
      (match want with
       | true=>o0k c tab ops os ((st.know dd false).skip o) k
       | false=>t0q c tab ops (st.know dd false) o (λ s=>o0k c tab ops os s k))
    | .tup []=>o0k c tab ops os (st.skip o) k
    | _=>none
end
inductive Leaf where
  | b (x:Bool)
  | i (n:Int)
  | s (x:List UInt8)
  | l (xs:List V)
def lB (σ:List Leaf)(n:Nat):Bool:=
 match σ[n]? with
 | some (.b x)=>x
 | _=>false
def lI (σ:List Leaf)(n:Nat):Int:=
 match σ[n]? with
 | some (.i x)=>x
 | _=>0
def lS (σ:List Leaf)(n:Nat):List UInt8:=
 match σ[n]? with
 | some (.s x)=>x
 | _=>[]
def lL (σ:List Leaf)(n:Nat):List V:=
 match σ[n]? with
 | some (.l x)=>x
 | _=>[]
mutual
def V.lv:V→List Leaf
 | .undef=>[]
 | .bool b=>[.b b]
 | .int _ n=>[.i n]
 | .str s=>[.s s]
 | .nil=>[]
 | .sl _ _ xs=>[.l xs]
 | .own _ _ _ xs=>[.l xs]
 | .view _ _ _ xs=>[.l xs]
 | .ptr _ _=>[]
 | .eptr _ _ _ xs i _=>[.l xs,.i i]
 | .vptr _ x _=>V.lv x
 | .iptr x _=>V.lv x
 | .agg cs=>V.lvs cs
 | .tup cs=>V.lvs cs
 | .clo _ cs=>V.lvs cs
def V.lvs:List V→List Leaf
 | []=>[]
 | v :: vs=>V.lv v++V.lvs vs
end
mutual
def V.sk:V→V
 | .undef=>.undef
 | .bool _=>.bool false
 | .int k _=>.int k 0
 | .str _=>.str []
 | .nil=>.nil
 | .sl s f _=>.sl s f []
 | .own b s q _=>.own b s q []
 | .view b s q _=>.view b s q []
 | .ptr d o=>.ptr d o
 | .eptr b s q _ _ o=>.eptr b s q [] 0 o
 | .vptr b x o=>.vptr b (V.sk x) o
 | .iptr x o=>.iptr (V.sk x) o
 | .agg cs=>.agg (V.sks cs)
 | .tup cs=>.tup (V.sks cs)
 | .clo f cs=>.clo f (V.sks cs)
def V.sks:List V→List V
 | []=>[]
 | v :: vs=>V.sk v :: V.sks vs
end
mutual
def V.bd (σ:List Leaf):V→Nat→V × Nat
 | .undef,n=>(.undef,n)
 | .bool _,n=>(.bool (lB σ n),n+1)
 | .int k _,n=>(.int k (lI σ n),n+1)
 | .str _,n=>(.str (lS σ n),n+1)
 | .nil,n=>(.nil,n)
 | .sl s f _,n=>(.sl s f (lL σ n),n+1)
 | .own b s q _,n=>(.own b s q (lL σ n),n+1)
 | .view b s q _,n=>(.view b s q (lL σ n),n+1)
 | .ptr d o,n=>(.ptr d o,n)
 | .eptr b s q _ _ o,n=>(.eptr b s q (lL σ n) (lI σ (n+1)).toNat o,n+2)
 | .vptr b x o,n=>(.vptr b (V.bd σ x n).1 o,(V.bd σ x n).2)
 | .iptr x o,n=>(.iptr (V.bd σ x n).1 o,(V.bd σ x n).2)
 | .agg cs,n=>(.agg (V.bds σ cs n).1,(V.bds σ cs n).2)
 | .tup cs,n=>(.tup (V.bds σ cs n).1,(V.bds σ cs n).2)
 | .clo f cs,n=>(.clo f (V.bds σ cs n).1,(V.bds σ cs n).2)
def V.bds (σ:List Leaf):List V→Nat→List V × Nat
 | [],n=>([],n)
 | v :: vs,n=>((V.bd σ v n).1 :: (V.bds σ vs (V.bd σ v n).2).1,(V.bds σ vs (V.bd σ v n).2).2)
end
mutual
def V.same:V→V→Bool
 | .undef,.undef=>true
 | .bool a,.bool b=>a == b
 | .int k n,.int k' n'=>decide (k=k') && n == n'
 | .str [],.str []=>true
 | .nil,.nil=>true
 | .sl s f [],.sl s' f' []=>s == s' && f == f'
 | .own b s q [],.own b' s' q' []=>b == b' && s == s' && decide (q=q')
 | .view b s q [],.view b' s' q' []=>b == b' && s == s' && decide (q=q')
 | .ptr d o,.ptr d' o'=>d == d' && o == o'
 | .eptr b s q [] i o,.eptr b' s' q' [] i' o'=>b == b' && s == s' && decide (q=q') && i == i' && o == o'
 | .vptr b x o,.vptr b' x' o'=>b == b' && V.same x x' && o == o'
 | .iptr x o,.iptr x' o'=>V.same x x' && o == o'
 | .agg cs,.agg ds=>V.sames cs ds
 | .tup cs,.tup ds=>V.sames cs ds
 | .clo f cs,.clo f' ds=>f == f' && V.sames cs ds
 | _,_=>false
def V.sames:List V→List V→Bool
 | [],[]=>true
 | v :: vs,w :: ws=>V.same v w && V.sames vs ws
 | _,_=>false
end
def lvo:List (Option V)→List Leaf
 | []=>[]
 | some v :: r=>v.lv++lvo r
 | none :: r=>lvo r
def sko:List (Option V)→List (Option V)
 | []=>[]
 | some v :: r=>some v.sk :: sko r
 | none :: r=>none :: sko r
def bdo (σ:List Leaf):List (Option V)→Nat→List (Option V)
 | [],_=>[]
 | some v :: r,n=>some (v.bd σ n).1 :: bdo σ r (v.bd σ n).2
 | none :: r,n=>none :: bdo σ r n
def a1q:List (Option V)→List (Option V)→Bool
 | [],[]=>true
 | some v :: r,some w :: r'=>v.same w && a1q r r'
 | none :: r,none :: r'=>a1q r r'
 | _,_=>false
def St.lv (st:St):List Leaf:=V.lvs st.t++lvo st.h
def St.sk (st:St):List V × List (Option V):=(V.sks st.t,sko st.h)
def s1s (σ:List Leaf)(k:List V × List (Option V)):St:=⟨(V.bds σ k.1 0).1,bdo σ k.2 (V.bds σ k.1 0).2,λ _=>false,false⟩
def x0y (k k':List V × List (Option V)):Bool:=V.sames k.1 k'.1 && a1q k.2 k'.2
section
variable {σ β:Type}
def g0l (step:σ→Option (σ ⊕ β)):Nat→σ→Option β
 | 0,_=>none
 | n+1,s=>match step s with
  | some (.inl s')=>g0l step n s'
  | some (.inr r)=>some r
  | none=>none
theorem y0o {step:σ→Option (σ ⊕ β)}:∀ {n m:Nat} {s:σ} {r:β},n≤m→g0l step n s=some r→g0l step m s=some r:=by
 intro n
 induction n with
 | zero=>intro m s r _ h; cases h
 | succ n ih=>
  intro m s r hm h
  cases m with
  | zero=>omega
  | succ m=>
   rw [g0l] at h ⊢
   cases hs:step s with
   | none=>rw [hs] at h; cases h
   | some x=>
    rw [hs] at h
    cases x with
    | inl s'=>exact ih (by omega) h
    | inr r'=>exact h
open Classical in
noncomputable def d0y (step:σ→Option (σ ⊕ β))(s:σ):Option β:=if h:∃ (r:β) (k:Nat),g0l step k s=some r then some h.choose else none
theorem l0b {step:σ→Option (σ ⊕ β)}{s:σ}{r:β}{k:Nat}(h:g0l step k s=some r):d0y step s=some r:=by
 have hex:∃ (r:β) (k:Nat),g0l step k s=some r:=⟨r,k,h⟩
 unfold d0y
 rw [dif_pos hex]
 obtain ⟨m,hm⟩:=hex.choose_spec
 have h1:=y0o (Nat.le_max_left k m) h
 have h2:=y0o (Nat.le_max_right k m) hm
 rw [h1] at h2
 injection h2 with h2
 rw [← h2]
theorem f0u {step:σ→Option (σ ⊕ β)}{s:σ}{r:β}(h:d0y step s=some r):∃ k,g0l step k s=some r:=by
 unfold d0y at h
 by_cases hex:∃ (r:β) (k:Nat),g0l step k s=some r
 ·rw [dif_pos hex] at h
  obtain ⟨m,hm⟩:=hex.choose_spec
  injection h with h
  rw [h] at hm
  exact ⟨m,hm⟩
 ·rw [dif_neg hex] at h; cases h
theorem h0z (step:σ→Option (σ ⊕ β))(s:σ):d0y step s=match step s with
  | some (.inl s')=>d0y step s'
  | some (.inr r)=>some r
  | none=>none:=by
 cases hs:step s with
 | none=>
  cases hw:d0y step s with
  | none=>rfl
  | some r=>
   obtain ⟨k,hk⟩:=f0u hw
   cases k with
   | zero=>cases hk
   | succ k=>rw [g0l,hs] at hk; cases hk
 | some x=>
  cases x with
  | inr r=>exact l0b (k:=1) (by rw [g0l,hs])
  | inl s'=>
   simp only
   cases hw:d0y step s' with
   | some r=>
    obtain ⟨k,hk⟩:=f0u hw
    exact l0b (k:=k+1) (by rw [g0l,hs]; exact hk)
   | none=>
    cases hw':d0y step s with
    | none=>rfl
    | some r=>
     obtain ⟨k,hk⟩:=f0u hw'
     cases k with
     | zero=>cases hk
     | succ k=>
      rw [g0l,hs] at hk
      rw [l0b hk] at hw
      cases hw
noncomputable def t0w {α:Type}(step:σ→Option (σ ⊕ β))(s:σ)(k:β→Option α):Option α:=
 match d0y step s with
 | some r=>k r
 | none=>none
end
mutual
def p0w {γ:Type}:V→(V→γ)→γ
 | .undef,k=>k .undef
 | .bool b,k=>k (.bool b)
 | .int i n,k=>k (.int i n)
 | .str s,k=>k (.str s)
 | .nil,k=>k .nil
 | .sl s f xs,k=>k (.sl s f xs)
 | .own b s q xs,k=>k (.own b s q xs)
 | .view b s q xs,k=>k (.view b s q xs)
 | .ptr d o,k=>k (.ptr d o)
 | .eptr b s q xs i o,k=>k (.eptr b s q xs i o)
 | .vptr b x o,k=>k (.vptr b x o)
 | .iptr x o,k=>k (.iptr x o)
 | .agg cs,k=>l0t cs λ cs=>k (.agg cs)
 | .tup cs,k=>l0t cs λ cs=>k (.tup cs)
 | .clo f cs,k=>l0t cs λ cs=>k (.clo f cs)
def l0t {γ:Type}:List V→(List V→γ)→γ
 | [],k=>k []
 | v :: vs,k=>p0w v λ v=>l0t vs λ vs=>k (v :: vs)
end
def s0o {γ:Type}:List (Option V)→(List (Option V)→γ)→γ
 | [],k=>k []
 | none :: vs,k=>s0o vs λ vs=>k (none :: vs)
 | some v :: vs,k=>p0w v λ v=>s0o vs λ vs=>k (some v :: vs)
def i1f {γ:Type}(st:St)(k:St→γ):γ:=l0t st.t λ t=>s0o st.h λ h=>match st.dup with
 | true=>k ⟨t,h,st.dead,true⟩
 | false=>k ⟨t,h,st.dead,false⟩
theorem w0y {γ:Type}(v:V):∀ k:V→γ,p0w v k=k v:=
 V.rec (motive_1:=λ v=>∀ k:V→γ,p0w v k=k v) (motive_2:=λ vs=>∀ k:List V→γ,l0t vs k=k vs)
  (λ _=>rfl) (λ _ _=>rfl) (λ _ _ _=>rfl) (λ _ _=>rfl) (λ _=>rfl) (λ _ _ _ _ _=>rfl) (λ _ _ _ _ _ _=>rfl) (λ _ _ _ _ _ _=>rfl) (λ _ _ _=>rfl) (λ _ _ _ _ _ _ _ _=>rfl) (λ _ _ _ _ _=>rfl) (λ _ _ _ _=>rfl)
  (λ _ ih _=>by rw [p0w,ih]) (λ _ ih _=>by rw [p0w,ih]) (λ _ _ ih _=>by rw [p0w,ih]) (λ _=>rfl) (λ _ _ h1 h2 _=>by rw [l0t,h1,h2]) v
theorem i1g {γ:Type}:∀ (vs:List V) (k:List V→γ),l0t vs k=k vs:=by
 intro vs
 induction vs with
 | nil=>intro k; rfl
 | cons v vs ih=>intro k; rw [l0t,w0y,ih]
theorem i1h {γ:Type}:∀ (vs:List (Option V)) (k:List (Option V)→γ),s0o vs k=k vs:=by
 intro vs
 induction vs with
 | nil=>intro k; rfl
 | cons v vs ih=>intro k; cases v with
  | none=>rw [s0o,ih]
  | some v=>rw [s0o,w0y,ih]
theorem u0n {γ:Type}(st:St)(k:St→γ):i1f st k=k st:=by
 unfold i1f
 rw [i1g,i1h]
 obtain ⟨t,h,d,u⟩:=st
 cases u <;> rfl
def Ex.same:Ex→Ex→Bool
 | .normal,.normal=>true
 | .exit i,.exit j=>i == j
 | .ret,.ret=>true
 | _,_=>false
abbrev a0y:=Nat→List (Ex × List V × List (Option V))
def s0n (e:Ex)(k:List V × List (Option V)):Nat→List (Ex × List V × List (Option V))→Option Nat
 | _,[]=>none
 | n,(e',k') :: r=>if e.same e' && x0y k k' then some n else s0n e k (n+1) r
def o1n {α:Type}(lv:List Leaf)(j:Nat)(k:Ex→St→Option α):Nat→List (Ex × List V × List (Option V))→Option α
 | _,[]=>none
 | _,[(e,s)]=>k e (s1s lv s)
 | n,(e,s) :: r=>if j=n then k e (s1s lv s) else o1n lv j k (n+1) r
abbrev Tab:=(β:Type)→Nat→List V→(V→Option β)→Option β
noncomputable def h0k (c:Cfg)(tab:Tab)(g:s1l)(X:a0y):Code→(α:Type)→St→(Ex→St→Option α)→Option α
 | .skip,_,st,k=>k .normal st
 | .region i ops draw,α,st,k=>
  match draw with
  | true=>match z0t c.io ops with
   | true=>i1f (st.head (n0o ops,(g (2000+i)).2.1)) λ st=>if b0t ops [] st && h0q c.io ops st then o0k c (tab α) ops ops.toList st (k .normal) else none
   | false=>i1f (st.head ([],(g (2000+i)).2.1)) λ st=>if b0t ops (g i).2.2 st then g1c c (tab α) ops ops.toList st (k .normal) else none
  | false=>i1f (st.headW (g (2000+i)).2.1) λ st=>o0l c (tab α) ops ops.toList st (k .normal)
 | .seq a b,α,st,k=>h0k c tab g X a α st (λ e s=>match e with
  | .normal=>h0k c tab g X b α s k
  | e=>k e s)
 | .cond x a b,α,st,k=>match x,ev st.t x with
  | .tmp d,.bool t=>br t (h0k c tab g X a α (st.know d true) k) (h0k c tab g X b α (st.know d false) k)
  | _,.bool t=>br t (h0k c tab g X a α st k) (h0k c tab g X b α st k)
  | _,_=>none
 | .block i b,α,st,k=>h0k c tab g X b α st (λ e s=>match e with
  | .exit j=>if j=i then k .normal s else k (.exit j) s
  | e=>k e s)
 | .loop b,_,st,k=>
  t0w (λ σ=>h0k c tab g X b (List Leaf ⊕ (Nat × List Leaf)) (s1s σ (st.head ((g (a0g b)).1,(g (a0g b)).2.1)).sk) (λ e s=>match e with
    | .normal=>if x0y (s.head ((g (a0g b)).1,(g (a0g b)).2.1)).sk (st.head ((g (a0g b)).1,(g (a0g b)).2.1)).sk then some (.inl (s.head ((g (a0g b)).1,(g (a0g b)).2.1)).lv) else none
    | e=>match s0n e (s.head ((g (1000+a0g b)).1,(g (1000+a0g b)).2.1)).sk 0 (X (a0g b)) with
     | some j=>some (.inr (j,(s.head ((g (1000+a0g b)).1,(g (1000+a0g b)).2.1)).lv))
     | none=>none))
   (st.head ((g (a0g b)).1,(g (a0g b)).2.1)).lv
   (λ r=>o1n r.2 r.1 k 0 (X (a0g b)))
 | .exit i,_,st,k=>k (.exit i) st
 | .ret,_,st,k=>k .ret st
 | _,_,_,_=>none
noncomputable def fnK (c:Cfg)(tab:Tab)(X:a0y)(f:Nat)(fn:Func)(α:Type)(args:List V)(k:V→Option α):Option α:=
 match fn.body with
 | none=>none
 | some code=>if d0f c.io (c.fg f) code=false then none else h0k c tab (c.fg f) X code α ⟨args++List.replicate (fn.ntmps - args.length) .undef,List.replicate fn.ntmps none,λ _=>false,false⟩ (λ e s=>match e with
  | .exit _=>none
  | _=>match w0w c (c.rz f) s fn.results.toList with
   | some r=>k r
   | none=>none)
noncomputable def i1e (c:Cfg)(tab:Tab)(X:a0y)(f:Nat)(s:Io)(fn:Func)(α:Type)(args:List V)(k:V→Option α):Option α:=
 match fn.body with
 | none=>none
 | some code=>if d0f c.io (c.fg (1000000+f)) code=false then none else if fn.ntmps=s.nt then h0k c tab (c.fg (1000000+f)) X code α (n1b s args) (λ e st=>match e with
  | .exit _=>none
  | _=>match h0m c (c.rz (1000000+f)) st s fn.results.toList with
   | some r=>k r
   | none=>none) else none
end Go.Am
end
section
set_option linter.unusedVariables false
set_option linter.unusedSimpArgs false
namespace Go.Am
open Go
section
variable {c:Cfg}{den:Nat→List V→Option V}{α:Type}
theorem y1n {k:CK}{v:V}{e:k.T}(h:k.dec v=some e):k.enc e=v:=by
 cases k <;> cases v <;> simp only [CK.dec] at h <;> first | (cases h; done) | skip
 ·injection h with h; subst h; rfl
 ·split at h
  ·rename_i hk
   subst hk
   injection h with h; subst h; rfl
  ·cases h
 ·injection h with h; subst h; rfl
 ·split at h
  ·rename_i hk
   obtain ⟨rfl,rfl⟩:=hk
   injection h with h; subst h; rfl
  ·cases h
theorem p0n:∀ {ks:List CK} {vs:List V} {e:c0k ks},c0w ks vs=some e→d0j ks e=vs∧vs.length=ks.length:=by
 intro ks
 induction ks with
 | nil=>
  intro vs e h
  cases vs with
  | nil=>exact ⟨rfl,rfl⟩
  | cons v vs=>simp [c0w] at h
 | cons k ks ih=>
  intro vs e h
  cases vs with
  | nil=>simp [c0w] at h
  | cons v vs=>
   simp only [c0w] at h
   split at h
   ·rename_i a b ha hb
    injection h with h
    subst h
    obtain ⟨h1,h2⟩:=ih hb
    exact ⟨by show k.enc a :: d0j ks b=_; rw [y1n ha,h1],by simp [h2]⟩
   ·cases h
theorem k1h {ag:Bool}{ks:List CK}{v:V}{e:c0k ks}(h:m0g ag ks v=some e):g0u ag ks e=v:=by
 cases ag with
 | true=>
  cases v <;> simp only [m0g] at h <;> first | (cases h; done) | skip
  simp only [g0u,(p0n h).1]
 | false=>
  cases v <;> simp only [m0g] at h <;> first | (cases h; done) | (simp only [g0u,(p0n h).1]; rfl)
theorem c0l {p:Prop}[Decidable p]{x:Option α}{r:α}(h:chk p x=some r):p∧x=some r:=by
 unfold chk at h
 split at h
 ·exact ⟨‹_›,h⟩
 ·cases h
theorem c1f {ag:Bool}{ks:List CK}{xs:List V}{i:Nat}{k:c0k ks→Option α}{r:α}(h:idx ag ks xs i k=some r):∃ e,xs[i]? = some (g0u ag ks e)∧k e=some r:=by
 unfold idx at h
 split at h
 ·rename_i e he
  cases hx:xs[i]? with
  | none=>rw [hx] at he; cases he
  | some v=>
   rw [hx] at he
   exact ⟨e,by rw [k1h he],h⟩
 ·cases h
theorem d1w {ks:List CK}{xs:List V}{i o:Nat}{k:c0k ks→Option α}{r:α}(h:idxAt ks xs i o k=some r):∃ e v,xs[i]? = some v∧(v.cells.drop o).take ks.length=d0j ks e∧ks.length≤(v.cells.drop o).length∧k e=some r:=by
 unfold idxAt at h
 split at h
 ·rename_i e he
  cases hx:xs[i]? with
  | none=>rw [hx] at he; cases he
  | some v=>
   rw [hx] at he
   obtain ⟨h1,h2⟩:=p0n he
   refine ⟨e,v,rfl,h1.symm,?_,h⟩
   rw [List.length_take] at h2
   omega
 ·cases h
theorem i0r {n:Nat}{lo hi:Option V}{k:Nat→Nat→Option α}{r:α}(h:s1x n lo hi k=some r):∃ l u,n1a n lo hi=some (l,u)∧k l u=some r:=by
 have hB:n1a n lo hi=match b1s 0 lo,b1s n hi with
   | some l,some h=>if 0≤l∧l≤h∧h≤n then some (l.toNat,h.toNat) else none
   | _,_=>none:=by
  unfold n1a
  cases lo with
  | none=>cases hi with
   | none=>rfl
   | some w=>cases w <;> rfl
  | some v=>cases v <;> (cases hi with
   | none=>rfl
   | some w=>cases w <;> rfl)
 unfold s1x at h
 split at h
 ·rename_i l u hl hu
  obtain ⟨h1,h2⟩:=c0l h
  refine ⟨l.toNat,u.toNat,?_,h2⟩
  rw [hB,hl,hu]
  simp only
  rw [if_pos h1]
 ·cases h
theorem h1j {i:TyInfo}{op:BinOp}{x y:V}{k:V→Option α}{r:α}(h:h2t i op x y k=some r):∃ v,w0u i op x y=some v∧k v=some r:=by
 unfold h2t at h
 split at h
 ·rename_i a b
  obtain ⟨h1,h2⟩:=c0l h
  refine ⟨_,?_,h2⟩
  simp only [w0u,f1j]
  rw [if_pos h1]
 ·rename_i kd a kd' b
  split at h
  ·rename_i hk
   obtain ⟨h1,h2⟩:=c0l h
   refine ⟨_,?_,h2⟩
   simp only [w0u,if_pos hk,z0n,h1o,s1q]
   rw [if_neg h1]
   rfl
  ·cases h
 ·rename_i kd a kd' b
  split at h
  ·rename_i hk
   obtain ⟨h1,h2⟩:=c0l h
   refine ⟨_,?_,h2⟩
   simp only [w0u,if_pos hk,z0n]
   rw [if_neg h1]
  ·cases h
 ·split at h
  ·rename_i v hv; exact ⟨v,hv,h⟩
  ·cases h
def g0w (den:Nat→List V→Option V)(tab:Nat→List V→(V→Option α)→Option α):Prop:=∀ g args k r,tab g args k=some r → ∃ v,den g args=some v∧k v=some r
theorem t1s:Le (λ _ _=>none) den:=λ _ _ _ h=>by cases h
theorem v1g {tab:Nat→List V→(V→Option α)→Option α}(ht:g0w den tab){ρ:Operand→V}{η:Nat→Option V}{d:Nat}{op:Op}{k:Out→Option α}{r:α}(h:g1d c tab ρ η d op k=some r):∃ o,a0d c den ρ η d op=some o∧k o=some r:=by
 have dflt:(match a0d c (λ _ _=>none) ρ η d op with
  | some o=>k o
  | none=>none)=some r → ∃ o,a0d c den ρ η d op=some o∧k o=some r:=by
  intro h
  cases hv:a0d c (λ _ _=>none) ρ η d op with
  | none=>rw [hv] at h; cases h
  | some o=>rw [hv] at h; exact ⟨o,d1a t1s hv,h⟩
 cases op with
 | pick x a b=>
  simp only [g1d] at h
  split at h
  ·rename_i t hx
   cases t with
   | true=>exact ⟨_,by simp only [a0d,hx,plain],h⟩
   | false=>exact ⟨_,by simp only [a0d,hx,plain],h⟩
  ·cases h
 | binOp op t x y z=>
  simp only [g1d] at h
  split at h
  ·rename_i i hi
   obtain ⟨v,h1,h2⟩:=h1j h
   exact ⟨_,by simp only [a0d,hi,h1,plain],h2⟩
  ·cases h
 | load t a=>
  simp only [g1d] at h
  split at h
  ·rename_i i b s q xs j o hi ha
   split at h
   ·rename_i ks hks
    split at h
    ·rename_i hl
     obtain ⟨e,v,h1,h2,h3,h4⟩:=d1w h
     refine ⟨_,?_,h4⟩
     obtain ⟨hl,hor⟩:=hl
     simp only [a0d,hi,ha,i0f,c0i,h1,Option.map_some,f0s]
     rw [if_neg (by omega)]
     cases hag:i.d.isAgg with
     | true=>simp only [if_true,← hl,plain,h2]; rfl
     | false=>
      have hz:i.size=1:=hor.resolve_left (by rw [hag]; simp)
      simp only [Bool.false_eq_true,if_false,hz,if_true]
      rw [hl,hz] at h2 h3
      cases hcs:v.cells.drop o with
      | nil=>rw [hcs] at h3; simp at h3
      | cons u us=>
       rw [hcs] at h2
       simp only [List.head?_cons,plain,g0u]
       rw [← h2]
       rfl
    ·cases h
   ·cases h
  ·rename_i i v hi hne
   split at h
   ·rename_i v' hv; exact ⟨_,by simp only [a0d,hi,hv,plain],h⟩
   ·cases h
  ·cases h
 | slice t x lo hi mx=>
  cases mx with
  | some m=>exact dflt h
  | none=>
   simp only [g1d] at h
   split at h
   ·rename_i i hti
    split at h
    ·rename_i hd
     split at h
     ·rename_i s hx
      obtain ⟨l,u,h1,h2⟩:=i0r h
      exact ⟨_,by simp only [a0d,hti,hd,hx,h1,plain],h2⟩
     ·cases h
    ·rename_i e hd
     split at h
     ·rename_i j hj
      split at h
      ·rename_i hx
       obtain ⟨l,u,h1,h2⟩:=i0r h
       exact ⟨_,by simp only [a0d,hti,hd,hj,hx,cut,h1,plain],h2⟩
      ·rename_i s f xs hx
       split at h
       ·rename_i hs
        obtain ⟨l,u,h1,h2⟩:=i0r h
        exact ⟨_,by simp only [a0d,hti,hd,hj,hx,cut,if_pos hs,h1,plain],h2⟩
       ·cases h
      ·rename_i b s q xs hx
       split at h
       ·rename_i hs
        obtain ⟨l,u,h1,h2⟩:=i0r h
        exact ⟨_,by simp only [a0d,hti,hd,hj,hx,cut,if_pos hs,h1,plain],h2⟩
       ·cases h
      ·rename_i b s q xs hx
       split at h
       ·rename_i hs
        obtain ⟨l,u,h1,h2⟩:=i0r h
        exact ⟨_,by simp only [a0d,hti,hd,hj,hx,cut,if_pos hs,h1,plain],h2⟩
       ·cases h
      ·cases h
     ·cases h
    ·cases h
   ·cases h
 | indexAddr t x y=>
  simp only [g1d] at h
  split at h
  ·rename_i i kk n hti hy
   split at h
   ·rename_i e hd
    split at h
    ·rename_i j hj
     split at h
     ·rename_i s f xs hx
      split at h
      ·rename_i ks hks
       split at h
       ·rename_i hs
        obtain ⟨h1,h2⟩:=c0l h
        obtain ⟨e',h3,h4⟩:=c1f h2
        refine ⟨_,?_,h4⟩
        simp only [a0d,hti,hy,hd,hj,hx,n0k]
        rw [if_neg (by omega),if_pos hs,h3]
        rfl
       ·cases h
      ·cases h
     ·rename_i b s q xs hx
      split at h
      ·rename_i ks hks
       split at h
       ·rename_i hs
        obtain ⟨h1,h2⟩:=c0l h
        obtain ⟨e',h3,h4⟩:=c1f h2
        refine ⟨_,?_,h4⟩
        simp only [a0d,hti,hy,hd,hj,hx,n0k]
        rw [if_neg (by omega),if_pos hs,h3]
        rfl
       ·cases h
      ·cases h
     ·rename_i b s q xs hx
      split at h
      ·rename_i hs
       obtain ⟨h1,h2⟩:=c0l h
       refine ⟨_,?_,h2⟩
       simp only [a0d,hti,hy,hd,hj,hx,n0k]
       rw [if_neg (by omega),if_pos hs,if_pos h1.2]
       rfl
      ·cases h
     ·cases h
    ·cases h
   ·rename_i m e hd
    split at h
    ·rename_i j hj
     split at h
     ·rename_i v hv
      obtain ⟨h1,h2⟩:=c0l h
      refine ⟨_,?_,h2⟩
      simp only [a0d,hti,hy,hd,hj,if_pos h1,hv,plain]
     ·cases h
    ·cases h
   ·cases h
  ·cases h
 | index t x y=>
  simp only [g1d] at h
  split at h
  ·rename_i i kk n hti hy
   split at h
   ·rename_i s hd hx
    unfold idxS at h
    obtain ⟨h1,h2⟩:=c0l h
    split at h2
    ·rename_i b hb
     refine ⟨_,?_,h2⟩
     simp only [a0d,hti,hy,hd,hx]
     rw [if_neg (by omega),hb]
     rfl
    ·cases h2
   ·rename_i m e cs hd hx
    split at h
    ·rename_i j hj
     split at h
     ·rename_i v hv
      obtain ⟨h1,h2⟩:=c0l h
      refine ⟨_,?_,h2⟩
      simp only [a0d,hti,hy,hd,hx,hj,if_pos h1,hv,plain]
     ·cases h
    ·cases h
   ·cases h
  ·cases h
 | convert s t x=>
  simp only [g1d] at h
  cases hc:p0q c s t (ρ x) with
  | some v=>
   rw [hc] at h
   exact ⟨_,by simp only [a0d,hc,plain],h⟩
  | none=>
   rw [hc] at h
   simp only at h
   cases hr:l0q c s t (ρ x) with
   | some xs=>
    rw [hr] at h
    simp only [strO] at h
    cases hb:e0f xs with
    | none=>rw [hb] at h; cases h
    | some l=>
     rw [hb] at h
     exact ⟨_,by simp only [a0d,hc,p0p,hr,hb,plain,Option.map_some],h⟩
   | none=>
    rw [hr] at h
    simp only at h
    cases hf:e0e c s t (ρ x) with
    | none=>rw [hf] at h; cases h
    | some v=>
     rw [hf] at h
     exact ⟨_,by simp only [a0d,hc,p0p,hr,hf,Option.map_some],h⟩
 | makeSlice t l kk=>
  simp only [g1d] at h
  split at h
  ·rename_i e sz by_ z0 cm nz_ qz_ hti
   split at h
   ·rename_i i k1 n k2 m hi hl hk
    split at h
    ·rename_i hc
     split at h
     ·rename_i z hz
      obtain ⟨⟨h1,h2,h3,h4⟩,h5⟩:=c0l h
      refine ⟨_,?_,h5⟩
      simp only [a0d,hti,hi,hl,hk]
      rw [if_pos ⟨h1,h2,h3,h4,hc.1,hc.2.1,hc.2.2⟩,hz]
     ·cases h
    ·cases h
   ·cases h
  ·cases h
 | call cl=>
  obtain ⟨callee,args,ts⟩:=cl
  cases callee with
  | invoke f m=>exact dflt h
  | value f=>
   simp only [g1d] at h
   split at h
   ·rename_i g cap hf
    split at h
    ·rename_i vs hvs
     obtain ⟨v,h1,h2⟩:=ht _ _ _ _ h
     split at h2
     ·rename_i o ho
      exact ⟨o,by simp only [a0d,hf,hvs,h1,ho],h2⟩
     ·cases h2
    ·cases h
   ·cases h
  | builtin bi=>
   cases bi with
   | append=>
    simp only [g1d] at h
    split at h
    ·rename_i x y t t' hx ht'
     split at h
     ·rename_i e sz by_ z0 cm nz_ qz_ hti
      split at h
      ·rename_i i hi hxv
       split at h
       ·rename_i q ys hsrc
        split at h
        ·rename_i hc
         obtain ⟨h1,h2⟩:=c0l h
         refine ⟨_,?_,h2⟩
         simp only [a0d,hx,ht',hti,hi,hxv,hsrc]
         rw [if_pos ⟨hc.1,hc.2,h1.1,h1.2⟩]
        ·cases h
       ·cases h
      ·cases h
     ·cases h
    ·cases h
   | _=>exact dflt h
 | _=>exact dflt h
end
end Go.Am
end

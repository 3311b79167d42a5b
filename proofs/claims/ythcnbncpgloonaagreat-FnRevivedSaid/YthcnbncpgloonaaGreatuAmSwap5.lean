/-
  Operations in another order: whole regions.
-/
import Derived.Test.YthcnbncpgloonaaGreatuAmNames2
section
set_option linter.unusedVariables false
set_option linter.unusedSimpArgs false
namespace Go.Am
open Go Go.RowKit
section
variable {P:Program}{c:Cfg}{Γ Γ':Ctx}{st:St}{a:Act}{w w':World}{den:Nat→List V→Option V}{η η':Nat→Option V}{d:Nat}{p q r:Nat→Bool}{ρ ρ':Operand→V}
theorem b1d (hη:∀ b,r b=false→η b=η' b)(v:V):v.anyP r=false→f0a η v=f0a η' v:=by
 refine V.rec (motive_1:=λ v=>v.anyP r=false→f0a η v=f0a η' v) (motive_2:=λ vs=>V.anyPs r vs=false→c0t η vs=c0t η' vs)
  (λ _=>rfl) (λ _ _=>rfl) (λ _ _ _=>rfl) (λ _ _=>rfl) (λ _=>rfl) (λ _ _ _ _ _=>rfl) (λ _ _ _ _ _ _=>rfl) (λ _ _ _ _ _ _=>rfl)
  (λ d o h=>?_) (λ _ _ _ _ _ _ _ _=>rfl) (λ _ _ _ _ _=>rfl) (λ _ _ _ _=>rfl) (λ cs ih h=>?_) (λ cs ih h=>?_) (λ f cs ih h=>?_) (λ _=>rfl) (λ v vs hv hvs h=>?_) v
 ·simp only [f0a,hη d (by simpa [V.anyP] using h)]
 ·simp only [f0a,ih h]
 ·simp only [f0a,ih h]
 ·simp only [f0a,ih h]
 ·rw [V.anyPs,Bool.or_eq_false_iff] at h
  simp only [c0t,hv h.1,hvs h.2]
theorem y0g (hη:∀ b,r b=false→η b=η' b):∀ (vs:List V),(∀ v∈vs,v.anyP r=false)→c0t η vs=c0t η' vs:=by
 intro vs
 induction vs with
 | nil=>intro _; rfl
 | cons v vs ih=>intro h; simp only [c0t,b1d hη v (h v (by simp)),ih (λ u hu=>h u (by simp [hu]))]
theorem z0s (hη:∀ b,r b=false→η b=η' b){i:TyInfo}{v:V}(h:v.anyP r=false):i0f η i v=i0f η' i v:=by
 have:c0i η v=c0i η' v:=by
  cases v <;> first | rfl | skip
  rename_i d o
  simp only [c0i,hη d (by simpa [V.anyP] using h)]
 simp only [i0f,this]
theorem b1h {op:Op}(hρ:∀ x∈op.operands.toList,ρ x=ρ' x)(hη:∀ b,r b=false→η b=η' b)(hr:∀ x∈op.operands.toList,(ρ x).anyP r=false):a0d c den ρ η d op=a0d c den ρ' η' d op:=by
 cases op with
 | move x=>simp only [a0d,hρ x (by simp [Op.operands])]
 | assign x=>simp only [a0d,hρ x (by simp [Op.operands])]
 | pick x y z=>simp only [a0d,hρ x (by simp [Op.operands]),hρ y (by simp [Op.operands]),hρ z (by simp [Op.operands])]
 | alloc e=>rfl
 | box e x=>simp only [a0d,hρ x (by simp [Op.operands])]
 | build t ps=>
  have:ps.toList.map (λ y=>(y.1,ρ y.2))=ps.toList.map (λ y=>(y.1,ρ' y.2)):=List.map_congr_left λ y hy=>by
   rw [hρ y.2 (by simp only [Op.operands]; exact List.mem_map.2 ⟨y,hy,rfl⟩)]
  simp only [a0d,this]
 | buildSlice t n ps=>
  have:ps.toList.map (λ y=>(y.1,ρ y.2))=ps.toList.map (λ y=>(y.1,ρ' y.2)):=List.map_congr_left λ y hy=>by
   rw [hρ y.2 (by simp only [Op.operands]; exact List.mem_map.2 ⟨y,hy,rfl⟩)]
  simp only [a0d,this]
 | load t x=>
  have h1:=hr x (by simp [Op.operands])
  have h2:=hρ x (by simp [Op.operands])
  rw [h2] at h1
  have h3:∀ i,i0f η i (ρ' x)=i0f η' i (ρ' x):=λ i=>z0s hη h1
  simp only [a0d,h2,h3]
 | nilCheck x=>simp only [a0d,hρ x (by simp [Op.operands])]
 | binOp o t x y t'=>simp only [a0d,hρ x (by simp [Op.operands]),hρ y (by simp [Op.operands])]
 | unOp u t x=>cases u <;> simp only [a0d,hρ x (by simp [Op.operands])]
 | convert s t x=>simp only [a0d,hρ x (by simp [Op.operands])]
 | makeFunc fn first cap=>
  have:cap.toList.map ρ=cap.toList.map ρ':=List.map_congr_left λ y hy=>hρ y (by simp only [Op.operands,Array.toList_append,List.mem_append]; exact .inr hy)
  cases fn <;> simp only [a0d,this]
 | makeSlice t l k=>simp only [a0d,hρ l (by simp [Op.operands]),hρ k (by simp [Op.operands])]
 | slice t x lo hi mx=>
  have h1:lo.map ρ=lo.map ρ':=by
   cases lo with
   | none=>rfl
   | some y=>simp only [Option.map_some,hρ y (by simp [Op.operands])]
  have h2:hi.map ρ=hi.map ρ':=by
   cases hi with
   | none=>rfl
   | some y=>simp only [Option.map_some,hρ y (by simp [Op.operands])]
  cases mx <;> simp only [a0d,h1,h2,hρ x (by simp [Op.operands])]
 | fieldAddr t x f=>simp only [a0d,hρ x (by simp [Op.operands])]
 | field t x f=>simp only [a0d,hρ x (by simp [Op.operands])]
 | indexAddr t x y=>simp only [a0d,hρ x (by simp [Op.operands]),hρ y (by simp [Op.operands])]
 | index t x y=>simp only [a0d,hρ x (by simp [Op.operands]),hρ y (by simp [Op.operands])]
 | extract x i=>simp only [a0d,hρ x (by simp [Op.operands])]
 | call cl=>
  obtain ⟨callee,args,ts⟩:=cl
  have hargs:∀ y∈args.toList,ρ y=ρ' y:=λ y hy=>hρ y (by simp only [Op.operands,Call.operands,Array.toList_append,List.mem_append]; exact .inr hy)
  have hra:∀ y∈args.toList,(ρ y).anyP r=false:=λ y hy=>hr y (by simp only [Op.operands,Call.operands,Array.toList_append,List.mem_append]; exact .inr hy)
  cases callee with
  | value f=>
   have hf:=hρ f (by simp [Op.operands,Call.operands])
   have hrf:=hr f (by simp [Op.operands,Call.operands])
   have hmap:args.toList.map ρ=args.toList.map ρ':=List.map_congr_left hargs
   simp only [a0d,← hf]
   cases hfv:ρ f with
   | clo g cap=>
    simp only
    rw [hfv] at hrf
    rw [y0g hη (args.toList.map ρ++cap) (λ v hv=>?_),hmap]
    rcases List.mem_append.1 hv with hv | hv
    ·obtain ⟨y,hy,rfl⟩:=List.mem_map.1 hv
     exact hra y hy
    ·exact c0o hrf v hv
   | _=>rfl
  | invoke f m=>rfl
  | builtin bi=>
   have two:∀ x y,args.toList=[x,y]→ρ x=ρ' x∧ρ y=ρ' y:=λ x y h=>⟨hargs x (by rw [h]; simp),hargs y (by rw [h]; simp)⟩
   have one:∀ x,args.toList=[x]→ρ x=ρ' x:=λ x h=>hargs x (by rw [h]; simp)
   cases bi <;> first | rfl | skip
   all_goals
    simp only [a0d]
    cases hl:args.toList with
    | nil=>rfl
    | cons x xs=>
     cases xs with
     | nil=>
      have e:=one x hl
      rcases hts:ts.toList with _ | ⟨t1,_ | ⟨t2,_ | ⟨t3,tr⟩⟩⟩ <;> first | rfl | simp only [e] | simp only [hl,hts,e]
     | cons y ys=>
      cases ys with
      | nil=>
       obtain ⟨e1,e2⟩:=two x y hl
       rcases hts:ts.toList with _ | ⟨t1,_ | ⟨t2,_ | ⟨t3,tr⟩⟩⟩ <;> first | rfl | simp only [e1,e2] | simp only [hl,hts,e1,e2]
      | cons _ _=>rfl
 | _=>rfl
theorem e0s {st st2:St}{op:Op}(h:∀ x∈op.operands.toList,ev st2.t x=ev st.t x):c0g st2 op=c0g st op:=by
 cases op with
 | call cl=>
  obtain ⟨callee,args,ts⟩:=cl
  cases callee with
  | builtin bi=>
   cases bi <;> first | rfl | skip
   simp only [c0g]
   cases hl:args.toList with
   | nil=>rfl
   | cons x xs=>
    simp only
    rw [h x (by simp only [Op.operands,Call.operands,Array.toList_append,List.mem_append]; exact .inr (by rw [hl]; simp))]
  | _=>rfl
 | _=>rfl
theorem j0o {ops:Array Oper}{o:Oper}{st st2:St}(h:∀ x∈b0h ops o,st2.t.getD x .undef=st.t.getD x .undef):∀ x∈o.op.operands.toList,ev st2.t x=ev st.t x:=by
 intro x hx
 cases x with
 | tmp t=>
  refine h t ?_
  unfold b0h
  refine List.mem_append.2 (.inl (List.mem_filterMap.2 ⟨.tmp t,hx,rfl⟩))
 | _=>rfl
theorem c0a {ops:Array Oper}{o:Oper}{st st2:St}(h:∀ x∈b0h ops o,st2.t.getD x .undef=st.t.getD x .undef):wanted ops st2.t o=wanted ops st.t o:=by
 unfold wanted
 cases hg:o.guard with
 | none=>rfl
 | some jw=>
  obtain ⟨j,want⟩:=jw
  simp only
  cases hd:(ops[j]?).bind (·.dst) with
  | none=>rfl
  | some d=>
   simp only
   rw [h d (by unfold b0h; rw [hg]; exact List.mem_append.2 (.inr (by simp [hd])))]
end
end Go.Am
namespace Go.Am
open Go Go.RowKit
def a0m (c:Cfg)(den:Nat→List V→Option V)(ops:Array Oper)(st:St)(o:Oper):Option St:=
 match wanted ops st.t o with
 | none=>none
 | some true=>step c den st o
 | some false=>match o.dst with
  | some d=>some { st with t:=st.t.set d d0g }
  | none=>some st
theorem a1o (c:Cfg)(den:Nat→List V→Option V)(ops:Array Oper)(o:Oper)(os:List Oper)(st:St):b0x c den ops (o :: os) st=(a0m c den ops st o).bind (b0x c den ops os):=by
 simp only [b0x,a0m]
 cases wanted ops st.t o with
 | none=>rfl
 | some b=>
  cases b with
  | true=>
   simp only
   cases step c den st o <;> rfl
  | false=>
   simp only
   cases o.dst <;> rfl
def St.upd (st:St)(d:Nat)(v:V)(bx:Option V)(esc:List Nat):St:=
 ⟨st.t.set d v,(match bx with
  | some r=>st.h.set d (some r)
  | none=>st.h),λ b=>esc.contains b || st.dead b,!a0i st.dead esc || st.dup⟩
theorem j0t {dead:Nat→Bool}:∀ {l:List Nat},a0i dead l=true↔a0i (λ _=>false) l=true ∧ ∀ b∈l,b ≠ 999→dead b=false:=by
 intro l
 induction l with
 | nil=>exact ⟨λ _=>⟨rfl,λ b h=>by cases h⟩,λ _=>rfl⟩
 | cons a l ih=>
  simp only [a0i,Bool.and_eq_true,ih,Bool.or_eq_true,beq_iff_eq,Bool.not_eq_true',List.mem_cons,forall_eq_or_imp]
  constructor
  ·rintro ⟨h1,h2,h3⟩
   refine ⟨⟨h1.imp id (λ h=>⟨trivial,h.2⟩),h2⟩,λ h9=>?_,h3⟩
   rcases h1 with h1 | h1
   ·exact absurd h1 h9
   ·exact h1.1
  ·rintro ⟨⟨h1,h2⟩,h3,h4⟩
   refine ⟨?_,h2,h4⟩
   rcases Nat.decEq a 999 with h9 | h9
   ·exact .inr ⟨h3 h9,(h1.resolve_left h9).2⟩
   ·exact .inl h9
theorem z0u (dead:Nat→Bool)(l l':List Nat):(a0i dead l=true∧a0i (λ b=>l.contains b || dead b) l' = true)↔(a0i dead l' = true∧a0i (λ b=>l'.contains b || dead b) l=true):=by
 rw [j0t (dead:=dead) (l:=l),j0t (dead:=dead) (l:=l'),j0t (dead:=λ b=>l.contains b || dead b) (l:=l'),j0t (dead:=λ b=>l'.contains b || dead b) (l:=l)]
 simp only [Bool.or_eq_false_iff,List.contains_eq_mem,decide_eq_false_iff_not]
 constructor
 ·rintro ⟨⟨h1,h2⟩,h3,h4⟩
  exact ⟨⟨h3,λ b hb h9=>(h4 b hb h9).2⟩,h1,λ b hb h9=>⟨λ hb'=>(h4 b hb' h9).1 hb,h2 b hb h9⟩⟩
 ·rintro ⟨⟨h1,h2⟩,h3,h4⟩
  exact ⟨⟨h3,λ b hb h9=>(h4 b hb h9).2⟩,h1,λ b hb h9=>⟨λ hb'=>(h4 b hb' h9).1 hb,h2 b hb h9⟩⟩
theorem n0v (dead:Nat→Bool)(dup:Bool)(l l':List Nat):(!a0i (λ b=>l.contains b || dead b) l' || (!a0i dead l || dup))=(!a0i (λ b=>l'.contains b || dead b) l || (!a0i dead l' || dup)):=by
 have h:=z0u dead l l'
 cases e1:a0i dead l <;> cases e2:a0i (λ b=>l.contains b || dead b) l' <;> cases e3:a0i dead l' <;> cases e4:a0i (λ b=>l'.contains b || dead b) l <;> simp_all
theorem p1m (st:St){d e:Nat}(h:d ≠ e)(v v':V)(bx bx':Option V)(esc esc':List Nat):(st.upd d v bx esc).upd e v' bx' esc' = (st.upd e v' bx' esc').upd d v bx esc:=by
 unfold St.upd
 congr 1
 ·exact List.set_comm _ _ h
 ·cases bx <;> cases bx' <;> first | rfl | exact List.set_comm _ _ h
 ·funext b
  simp only
  cases esc.contains b <;> cases esc'.contains b <;> rfl
 ·exact n0v _ _ _ _
section
variable {P:Program}{c:Cfg}{Γ Γ':Ctx}{st st2 st':St}{a:Act}{w w':World}{den:Nat→List V→Option V}{η η':Nat→Option V}{d:Nat}{p q r:Nat→Bool}{ops:Array Oper}{o:Oper}
structure Alike (ops:Array Oper) (r:Nat→Bool) (o:Oper) (st st2:St):Prop where
  rd:∀ x∈b0h ops o,st2.t.getD x .undef=st.t.getD x .undef
  hb:∀ b,r b=false→st2.h.getD b none=st.h.getD b none
  hr:∀ x∈o.op.operands.toList,(ev st.t x).anyP r=false
  hl:st2.h.length=st.h.length
  tl:st2.t.length=st.t.length
  hd:∀ d,o.dst=some d→r d=false∧st2.freeD d=true∧(l0z o.op=true→st2.freeP d=true)
theorem y1k {v:V}(h:a0d c den (ev st.t) η d o.op=some (.box v)):l0z o.op=true:=by
 cases hop:o.op with
 | alloc e=>rfl
 | box e x=>rfl
 | call cl=>
  exfalso
  rw [hop] at h
  obtain ⟨callee,args,ts⟩:=cl
  cases callee with
  | value f=>
   simp only [a0d] at h
   repeat' split at h
   all_goals first | (cases h; done) | skip
   obtain ⟨_,_,_,e⟩:=l0a h
   cases e
  | invoke f m=>simp only [a0d] at h; cases h
  | builtin bi=>
   cases bi <;> simp only [a0d,plain] at h <;> first | (cases h; done) | skip
   all_goals (repeat' split at h) <;> cases h
 | unOp u _ _=>
  exfalso
  rw [hop] at h
  cases u <;> simp only [a0d,plain] at h <;> first | (cases h; done) | ((repeat' split at h) <;> cases h)
 | makeFunc fn _ _=>
  exfalso
  rw [hop] at h
  cases fn <;> simp only [a0d,plain] at h <;> first | (cases h; done) | ((repeat' split at h) <;> cases h)
 | convert s t x=>
  exfalso
  rw [hop] at h
  simp only [a0d,plain] at h
  cases hc:p0q c s t (ev st.t x) with
  | some u=>rw [hc] at h; cases h
  | none=>
   rw [hc] at h
   simp only at h
   cases hb:p0p c s t (ev st.t x) with
   | some u=>rw [hb] at h; cases h
   | none=>
    rw [hb] at h
    simp only at h
    cases hf:e0e c s t (ev st.t x) <;> rw [hf] at h <;> cases h
 | slice _ _ _ _ mx=>
  exfalso
  rw [hop] at h
  cases mx <;> simp only [a0d,plain] at h <;> first | (cases h; done) | ((repeat' split at h) <;> cases h)
 | _=>
  exfalso
  rw [hop] at h
  first
   | (simp only [a0d,plain] at h; cases h; done)
   | (simp only [a0d,plain] at h; (repeat' split at h) <;> cases h)
theorem j1o (h:a0m c den ops st o=some st')(hne:c0g st o.op=false∨wanted ops st.t o=some false){d:Nat}(hd:o.dst=some d) :
  ∃ v bx esc,st' = st.upd d v bx esc∧((∃ out,wanted ops st.t o=some true∧a0d c den (ev st.t) (λ b=>st.h.getD b none) d o.op=some out ∧
    ((out = .val v∧bx=none)∨(∃ rr,out = .box rr∧v = .ptr d 0∧bx=some rr)∨(∃ n,out = .fresh v esc n∧bx=none)))∨(v=d0g∧bx=none)) ∧
   (bx.isSome=true→l0z o.op=true) ∧ ∀ r st2,Alike ops r o st st2→a0m c den ops st2 o=some (st2.upd d v bx esc):=by
 unfold a0m at h
 cases hw:wanted ops st.t o with
 | none=>rw [hw] at h; cases h
 | some b=>
  rw [hw] at h
  cases b with
  | false=>
   simp only [hd,sj_] at h
   subst h
   refine ⟨d0g,none,[],rfl,.inr ⟨rfl,rfl⟩,λ h=>(by cases h),λ r st2 hal=>?_⟩
   unfold a0m
   rw [c0a hal.rd,hw]
   simp only [hd]
   rfl
  | true=>
   simp only at h
   have hne':c0g st o.op=false:=by
    rcases hne with h | h
    ·exact h
    ·rw [hw] at h; cases h
   unfold step at h
   rw [if_neg (by rw [hne']; simp),hd] at h
   simp only at h
   have tr:∀ r st2,Alike ops r o st st2→c0g st2 o.op=false∧a0d c den (ev st2.t) (λ b=>st2.h.getD b none) d o.op=a0d c den (ev st.t) (λ b=>st.h.getD b none) d o.op:=λ r st2 hal=>
    ⟨by rw [e0s (j0o hal.rd)]; exact hne',(b1h (r:=r) (λ x hx=>(j0o hal.rd x hx).symm) (λ b hb=>(hal.hb b hb).symm) hal.hr).symm⟩
   cases hv:a0d c den (ev st.t) (λ b=>st.h.getD b none) d o.op with
   | none=>rw [hv] at h; cases h
   | some out=>
    rw [hv] at h
    cases out with
    | val v=>
     simp only [sj_] at h
     subst h
     refine ⟨v,none,[],rfl,.inl ⟨_,rfl,rfl,.inl ⟨rfl,rfl⟩⟩,λ h=>(by cases h),λ r st2 hal=>?_⟩
     obtain ⟨t1,t2⟩:=tr r st2 hal
     unfold a0m
     rw [c0a hal.rd,hw]
     simp only
     unfold step
     rw [if_neg (by rw [t1]; simp),hd]
     simp only
     rw [t2,hv]
     rfl
    | box rr=>
     simp only at h
     split at h
     ·rename_i hc
      simp only [sj_] at h
      subst h
      have hmk:=y1k hv
      refine ⟨.ptr d 0,some rr,[],rfl,.inl ⟨_,rfl,rfl,.inr (.inl ⟨rr,rfl,rfl,rfl⟩)⟩,λ _=>hmk,λ r st2 hal=>?_⟩
      obtain ⟨t1,t2⟩:=tr r st2 hal
      obtain ⟨d1,d2,d3⟩:=hal.hd d hd
      unfold a0m
      rw [c0a hal.rd,hw]
      simp only
      unfold step
      rw [if_neg (by rw [t1]; simp),hd]
      simp only
      rw [t2,hv]
      simp only
      rw [if_pos ⟨by rw [hal.tl]; exact hc.1,by rw [hal.hl]; exact hc.2.1,by rw [hal.hb d d1]; exact hc.2.2.1,d3 hmk,hc.2.2.2.2⟩]
      rfl
     ·cases h
    | fresh v esc n=>
     simp only at h
     split at h
     ·rename_i hc
      simp only [sj_] at h
      subst h
      refine ⟨v,none,esc,rfl,.inl ⟨_,rfl,rfl,.inr (.inr ⟨n,rfl,rfl⟩)⟩,λ h=>(by cases h),λ r st2 hal=>?_⟩
      obtain ⟨t1,t2⟩:=tr r st2 hal
      obtain ⟨d1,d2,d3⟩:=hal.hd d hd
      unfold a0m
      rw [c0a hal.rd,hw]
      simp only
      unfold step
      rw [if_neg (by rw [t1]; simp),hd]
      simp only
      rw [t2,hv]
      simp only
      rw [if_pos ⟨hc.1,hc.2.1,.inr d2⟩]
      rfl
     ·cases h
end
end Go.Am
namespace Go.Am
open Go Go.RowKit
section
variable {P:Program}{c:Cfg}{Γ Γ':Ctx}{st st2 st' s1 s2:St}{a:Act}{w w':World}{den:Nat→List V→Option V}{η η':Nat→Option V}{d:Nat}{p q r:Nat→Bool}{ops:Array Oper}{o:Oper}
def CleanAt (d:Nat)(bx:Bool)(st:St):Prop:=∀ v,(v∈st.t∨some v∈st.h)→Av (λ b=>b / 1000 == d) (λ d'=>bx && d' == d) v
theorem n1l {p:Nat→Bool}:∀ {l:List (Option V)},(∀ v,some v∈l→v.anyB p=false)→k0r p l=false:=by
 intro l
 induction l with
 | nil=>intro _; rfl
 | cons x l ih=>
  intro h
  cases x with
  | none=>exact ih λ v hv=>h v (by simp [hv])
  | some y=>rw [k0r,h y (by simp),ih (λ v hv=>h v (by simp [hv]))]; rfl
theorem n1m {p:Nat→Bool}:∀ {l:List (Option V)},(∀ v,some v∈l→v.anyP p=false)→l0j p l=false:=by
 intro l
 induction l with
 | nil=>intro _; rfl
 | cons x l ih=>
  intro h
  cases x with
  | none=>exact ih λ v hv=>h v (by simp [hv])
  | some y=>rw [l0j,h y (by simp),ih (λ v hv=>h v (by simp [hv]))]; rfl
theorem CleanAt.freeD {bx:Bool}(h:CleanAt d bx st):st.freeD d=true:=by
 unfold St.freeD
 rw [j0k (λ v hv=>?_),n1l (λ v hv=>(h v (.inr hv)).1)]
 ·rfl
 ·rcases List.mem_or_eq_of_mem_set hv with hv | rfl
  ·exact (h v (.inl hv)).1
  ·rfl
theorem CleanAt.freeP (h:CleanAt d true st):st.freeP d=true:=by
 unfold St.freeP
 rw [l0l (λ v hv=>?_),n1m (λ v hv=>by simpa using (h v (.inr hv)).2)]
 ·rfl
 ·rcases List.mem_or_eq_of_mem_set hv with hv | rfl
  ·simpa using (h v (.inl hv)).2
  ·rfl
theorem CleanAt.ev {bx:Bool}(h:CleanAt d bx st)(x:Operand):Av (λ b=>b / 1000 == d) (λ d'=>bx && d' == d) (ev st.t x):=by
 cases x with
 | tmp t=>
  show Av _ _ (st.t.getD t .undef)
  rw [List.getD_eq_getElem?_getD]
  cases ht:st.t[t]? with
  | none=>exact ⟨rfl,rfl⟩
  | some v=>exact h v (.inl (a0a ht))
 | const v=>
  show Av _ _ (v0a v)
  unfold v0a
  split <;> exact ⟨rfl,rfl⟩
 | func f=>exact ⟨rfl,rfl⟩
 | global g=>exact ⟨rfl,rfl⟩
theorem CleanAt.box {bx:Bool}(h:CleanAt d bx st)(b:Nat)(rr:V)(hb:st.h.getD b none=some rr):Av (λ b=>b / 1000 == d) (λ d'=>bx && d' == d) rr:=by
 rw [List.getD_eq_getElem?_getD] at hb
 cases ht:st.h[b]? with
 | none=>rw [ht] at hb; cases hb
 | some v=>
  rw [ht] at hb
  simp only [Option.getD_some] at hb
  subst hb
  exact h rr (.inr (a0a ht))
theorem Av.map {f:V→Option V}(hf:∀ u z,f u=some z→Av p q u→Av p q z)(v:V):Av p q v→Av p q (v.mapB f):=by
 have leaf:∀ u:V,Av p q u→Av p q ((f u).getD u):=by
  intro u hu
  cases h:f u with
  | none=>exact hu
  | some z=>exact hf u z h hu
 refine V.rec (motive_1:=λ v=>Av p q v→Av p q (v.mapB f)) (motive_2:=λ vs=>(∀ u∈vs,Av p q u) → ∀ u∈V.mapBs f vs,Av p q u)
  (leaf _) (λ _=>leaf _) (λ _ _=>leaf _) (λ _=>leaf _) (leaf _) (λ _ _ _ _=>leaf _) (λ _ _ _ _ _=>leaf _) (λ _ _ _ _ _=>leaf _) (λ _ _=>leaf _) (λ _ _ _ _ _ _ _=>leaf _) (λ _ _ _ _=>leaf _) (λ _ _ _=>leaf _)
  (λ _ ih h=>.agg (ih h.agg_inv)) (λ _ ih h=>.tup (ih h.tup_inv)) (λ _ _ ih h=>.clo (ih h.clo_inv)) (λ _ u hu=>(by cases hu)) ?_ v
 intro v vs hv hvs h u hu
 rw [V.mapBs] at hu
 rcases List.mem_cons.1 hu with rfl | hu
 ·exact hv (h v (by simp))
 ·exact hvs (λ u hu=>h u (by simp [hu])) u hu
theorem x0i {f:V→Option V}:∀ {l:List (Option V)} {v:V},some v∈d0c f l → ∃ u,some u∈l∧v=u.mapB f:=by
 intro l
 induction l with
 | nil=>intro v h; cases h
 | cons x l ih=>
  intro v h
  cases x with
  | none=>
   rw [d0c] at h
   obtain ⟨u,hu,e⟩:=ih ((List.mem_cons.1 h).resolve_left (by simp))
   exact ⟨u,by simp [hu],e⟩
  | some y=>
   rw [d0c] at h
   rcases List.mem_cons.1 h with h | h
   ·injection h with h; exact ⟨y,by simp,h⟩
   ·obtain ⟨u,hu,e⟩:=ih h
    exact ⟨u,by simp [hu],e⟩
theorem j1k {f:V→Option V}:∀ {l:List V} {v:V},v∈V.mapBs f l → ∃ u,u∈l∧v=u.mapB f:=by
 intro l
 induction l with
 | nil=>intro v h; cases h
 | cons y l ih=>
  intro v h
  rw [V.mapBs] at h
  rcases List.mem_cons.1 h with h | h
  ·exact ⟨y,by simp,h⟩
  ·obtain ⟨u,hu,e⟩:=ih h
   exact ⟨u,by simp [hu],e⟩
theorem CleanAt.sweep {bx:Bool}{f:V→Option V}(h:CleanAt d bx st)(hf:∀ u z,f u=some z→Av (λ b=>b / 1000 == d) (λ d'=>bx && d' == d) u→Av (λ b=>b / 1000 == d) (λ d'=>bx && d' == d) z):CleanAt d bx (st.sweep f):=by
 rintro v (hv | hv)
 ·obtain ⟨u,hu,rfl⟩:=j1k hv
  exact (h u (.inl hu)).map hf
 ·obtain ⟨u,hu,rfl⟩:=x0i hv
  exact (h u (.inr hu)).map hf
theorem q0m (b:Nat):∀ u z,a0h b u=some z→Av p q u→Av p q z:=by
 intro u z h _
 cases u <;> simp only [a0h] at h <;> first
  | (cases h; done)
  | (split at h <;> first
    | (simp only [sj_] at h; subst h; exact ⟨rfl,rfl⟩)
    | cases h)
theorem o1w (b:Nat)(k:Q)(ys:List V):∀ u z,c0v b k ys u=some z→Av p q u→Av p q z:=by
 intro u z h hu
 cases u <;> simp only [c0v] at h <;> first
  | (cases h; done)
  | (split at h <;> first
    | (simp only [sj_] at h; subst h; exact ⟨rfl,rfl⟩)
    | skip)
 ·rename_i b' s k' zs hbb
  simp only [sj_] at h
  subst h
  subst hbb
  exact hu
 all_goals cases h
theorem h1n {bx:Bool}{dst:Option Nat}{op:Op}(h:b0b c st dst op=some st')(hc:CleanAt d bx st):CleanAt d bx st':=by
 cases op with
 | store t ad x=>
  simp only [b0b] at h
  split at h
  ·rename_i i hi
   split at h
   ·rename_i hcc
    split at h
    ·rename_i b o had
     split at h
     ·rename_i rr hb
      split at h
      ·rename_i cs hov
       simp only [sj_] at h
       subst h
       have hcs:=j1z hov (hc.box b rr hb).cells (hc.ev x).cells
       rintro v (hv | hv)
       ·exact hc v (.inl hv)
       ·rcases List.mem_or_eq_of_mem_set hv with hv | hv
        ·exact hc v (.inr hv)
        ·injection hv with hv
         subst hv
         unfold h0u
         split
         ·exact .agg hcs
         ·cases cs with
          | nil=>exact ⟨rfl,rfl⟩
          | cons y ys=>exact hcs y (by simp)
      ·cases h
     ·cases h
    ·repeat' split at h
     all_goals first | (cases h; done) | skip
     simp only [sj_] at h
     subst h
     exact hc.sweep (o1w _ _ _)
    ·cases h
   ·cases h
  ·cases h
 | call cl=>
  obtain ⟨callee,args,ts⟩:=cl
  cases callee with
  | builtin bi=>
   cases bi with
   | append=>
    simp only [b0b] at h
    split at h
    ·rename_i x y t t' dd hx ht2
     split at h
     ·split at h
      ·rename_i i b s k xs hi hxv
       split at h
       ·split at h
        ·simp only [sj_] at h
         subst h
         have hsw:=hc.sweep (f:=a0h b) (q0m b)
         have hxx:=hc.ev x
         rintro v (hv | hv)
         ·rcases List.mem_or_eq_of_mem_set hv with hv | rfl
          ·exact hsw v (.inl hv)
          ·rw [hxv] at hxx
           exact hxx
         ·exact hsw v (.inr hv)
        ·cases h
       ·cases h
      ·cases h
     ·cases h
    ·cases h
   | _=>simp only [b0b] at h; cases h
  | _=>simp only [b0b] at h; cases h
 | _=>simp only [b0b] at h; cases h
end
end Go.Am
namespace Go.Am
open Go Go.RowKit
section
variable {P:Program}{c:Cfg}{Γ Γ':Ctx}{st st2 st' s1 s2:St}{a:Act}{w w':World}{den:Nat→List V→Option V}{η η':Nat→Option V}{d:Nat}{p q r:Nat→Bool}{ops:Array Oper}{o:Oper}
def g0y (ops:Array Oper)(st:St)(o:Oper):Prop:=c0g st o.op=false∨wanted ops st.t o=some false
theorem n0b (hA:b0l P c)(hD:a0r P den)(hs:b1n st)(h:a0m c den ops st o=some st'):b1n st':=by
 unfold a0m at h
 split at h
 ·cases h
 ·exact x0q hA hD hs h
 ·obtain ⟨Γ,a,w,hs⟩:=hs
  split at h
  ·rename_i d hd
   simp only [sj_] at h
   subst h
   exact ⟨Γ,_,w,q0u hs d⟩
  ·simp only [sj_] at h
   subst h
   exact ⟨Γ,a,w,hs⟩
theorem l1d {v z:V}{bx:Option V}{esc:List Nat}(h:z∈(st.upd d v bx esc).t∨some z∈(st.upd d v bx esc).h):z∈st.t∨some z∈st.h∨z=v∨bx=some z:=by
 unfold St.upd at h
 rcases h with h | h
 ·rcases List.mem_or_eq_of_mem_set h with h | h
  ·exact .inl h
  ·exact .inr (.inr (.inl h))
 ·simp only at h
  split at h
  ·rcases List.mem_or_eq_of_mem_set h with h | h
   ·exact .inr (.inl h)
   ·exact .inr (.inr (.inr (by simpa using h.symm)))
  ·exact .inr (.inl h)
theorem k0t (hA:b0l P c)(hs:b1n st)(h:a0m c den ops st o=some st'){d:Nat}{bx:Bool}(hd:∀ e,o.dst=some e→e ≠ d∧e < 1000)(hc:CleanAt d bx st):CleanAt d bx st':=by
 obtain ⟨Γ,a,w,hs⟩:=hs
 by_cases hst:g0y ops st o
 ·cases hod:o.dst with
  | none=>
   unfold a0m at h
   cases hw:wanted ops st.t o with
   | none=>rw [hw] at h; cases h
   | some b=>
    rw [hw] at h
    cases b with
    | false=>simp only [hod,sj_] at h; subst h; exact hc
    | true=>
     simp only at h
     have hne:c0g st o.op=false:=by
      rcases hst with h | h
      ·exact h
      ·rw [hw] at h; cases h
     unfold step at h
     rw [if_neg (by rw [hne]; simp),hod] at h
     cases h
  | some e=>
   obtain ⟨he,hlt⟩:=hd e hod
   obtain ⟨v,bx',esc,rfl,hinfo,_,_⟩:=j1o h hst hod
   intro z hz
   rcases l1d hz with hz | hz | hz
   ·exact hc z (.inl hz)
   ·exact hc z (.inr hz)
   ·rcases hinfo with ⟨out,_,hv,ho⟩ | ⟨rfl,rfl⟩
    ·have hav:=c1h (p:=λ b=>b / 1000 == d) (q:=λ d'=>bx && d' == d) hA hs (λ b rr hb=>hc.box b rr hb) (λ j hj=>by rw [f0p hlt hj]; simpa using he) (λ x _=>hc.ev x) hv
     rcases ho with ⟨rfl,rfl⟩ | ⟨rr,rfl,rfl,rfl⟩ | ⟨n,rfl,rfl⟩
     ·rcases hz with rfl | hz
      ·exact hav
      ·cases hz
     ·rcases hz with rfl | hz
      ·exact ⟨rfl,by simp [V.anyP,he]⟩
      ·injection hz with hz
       subst hz
       exact hav
     ·rcases hz with rfl | hz
      ·exact hav
      ·cases hz
    ·rcases hz with rfl | hz
     ·exact ⟨rfl,rfl⟩
     ·cases hz
 ·have h1:c0g st o.op=true:=by
   cases hi:c0g st o.op with
   | true=>rfl
   | false=>exact absurd (.inl hi) hst
  unfold a0m at h
  cases hw:wanted ops st.t o with
  | none=>rw [hw] at h; cases h
  | some b=>
   rw [hw] at h
   cases b with
   | false=>exact absurd (.inr hw) hst
   | true=>
    simp only at h
    unfold step at h
    rw [if_pos h1] at h
    exact h1n h hc
theorem b0o {l:List V}{i j:Nat}{v:V}(h:j ≠ i):(l.set i v).getD j .undef=l.getD j .undef:=by
 rw [List.getD_eq_getElem?_getD,List.getD_eq_getElem?_getD,List.getElem?_set,if_neg (λ e=>h e.symm)]
theorem v1c {l:List (Option V)}{i j:Nat}{v:Option V}(h:j ≠ i):(l.set i v).getD j none=l.getD j none:=by
 rw [List.getD_eq_getElem?_getD,List.getD_eq_getElem?_getD,List.getElem?_set,if_neg (λ e=>h e.symm)]
theorem l1c {v:V}{bx:Option V}{esc:List Nat}{b:Nat}(h:bx.isSome=true→b ≠ d):(st.upd d v bx esc).h.getD b none=st.h.getD b none:=by
 unfold St.upd
 cases bx with
 | none=>rfl
 | some rr=>exact v1c (h rfl)
theorem updH_len {v:V}{bx:Option V}{esc:List Nat}:(st.upd d v bx esc).h.length=st.h.length:=by
 unfold St.upd
 cases bx with
 | none=>rfl
 | some rr=>simp
theorem updT_len {v:V}{bx:Option V}{esc:List Nat}:(st.upd d v bx esc).t.length=st.t.length:=by
 unfold St.upd
 cases bx <;> simp [St.kill,St.mark]
theorem b0j {t:Nat}(h:Operand.tmp t∈o.op.operands.toList):t∈b0h ops o:=by
 unfold b0h
 exact List.mem_append.2 (.inl (List.mem_filterMap.2 ⟨.tmp t,h,rfl⟩))
theorem f1k (hA:b0l P c)(hD:a0r P den)(hs:b1n st){x y:Oper}(hx:a0m c den ops st x=some s1)(hy:a0m c den ops s1 y=some s2)(sx:g0y ops st x)(sy:g0y ops s1 y)
  {dx dy:Nat} (hdx:x.dst=some dx) (hdy:y.dst=some dy) (hne:dx ≠ dy) (lx:dx < 1000) (ly:dy < 1000) (rx:dy ∉ b0h ops x) (ry:dx ∉ b0h ops y) (cx:CleanAt dx (l0z x.op) st) (cy:CleanAt dy (l0z y.op) st) :
  ∃ s,a0m c den ops st y=some s∧a0m c den ops s x=some s2:=by
 obtain ⟨v,bx,esc,rfl,_,mx,tx⟩:=j1o hx sx hdx
 obtain ⟨v',bx',esc',rfl,_,my,ty⟩:=j1o hy sy hdy
 have h1:a0m c den ops st y=some (st.upd dy v' bx' esc'):=by
  refine ty (λ b=>bx.isSome && b == dx) st ⟨λ z hz=>?_,λ b hb=>?_,λ z hz=>?_,updH_len.symm,updT_len.symm,λ e he=>?_⟩
  ·have:z ≠ dx:=λ e=>ry (e ▸ hz)
   exact (b0o this).symm
  ·exact (l1c (λ e=>by simpa [e] using hb)).symm
  ·have hev:ev (st.upd dx v bx esc).t z=ev st.t z:=by
    cases z with
    | tmp t=>exact b0o (λ e=>ry (e ▸ b0j hz))
    | _=>rfl
   rw [hev]
   cases hb:bx.isSome with
   | false=>simp only [Bool.false_and]; exact a0z _
   | true=>
    have:=(cx.ev z).2
    rw [mx hb] at this
    exact this
  ·rw [hdy] at he
   injection he with he
   subst he
   refine ⟨by simp; exact λ _ e=>hne e.symm,cy.freeD,λ hm=>?_⟩
   rw [hm] at cy
   exact cy.freeP
 refine ⟨_,h1,?_⟩
 have hr1:=n0b hA hD hs h1
 have cx':CleanAt dx (l0z x.op) (st.upd dy v' bx' esc'):=k0t hA hs h1 (λ e he=>by rw [hdy] at he; injection he with he; subst he; exact ⟨λ e=>hne e.symm,ly⟩) cx
 rw [p1m st hne]
 refine tx (λ b=>bx'.isSome && b == dy) _ ⟨λ z hz=>?_,λ b hb=>?_,λ z hz=>?_,updH_len,updT_len,λ e he=>?_⟩
 ·have:z ≠ dy:=λ e=>rx (e ▸ hz)
  exact b0o this
 ·exact l1c (λ e=>by simpa [e] using hb)
 ·cases hb:bx'.isSome with
  | false=>simp only [Bool.false_and]; exact a0z _
  | true=>
   have:=(cy.ev z).2
   rw [my hb] at this
   exact this
 ·rw [hdx] at he
  injection he with he
  subst he
  refine ⟨by simp [hne],cx'.freeD,λ hm=>?_⟩
  rw [hm] at cx'
  exact cx'.freeP
end
end Go.Am
end
section
set_option linter.unusedVariables false
set_option linter.unusedSimpArgs false
namespace Go.Am
open Go Go.RowKit
section
variable {P:Program}{c:Cfg}{Γ Γ':Ctx}{st st2 st' s1 s2:St}{a:Act}{w w':World}{den:Nat→List V→Option V}{η η':Nat→Option V}{d:Nat}{p q r:Nat→Bool}{ops:Array Oper}{o:Oper}
def w0i (v:V):Prop:=(∃ d n,v = .ptr d n)∨v=d0g ∨ ∃ b,v = .bool b
def St.slot (st:St)(d:Nat)(v:V):St:={ st with t:=st.t.set d v }
theorem n0p {v:V}(h:w0i v)(b:Nat):v.mapB (a0h b)=v:=by
 rcases h with ⟨d,n,rfl⟩ | rfl | ⟨b,rfl⟩ <;> rfl
theorem p0y {v:V}(h:w0i v)(b:Nat)(k:Q)(ys:List V):v.mapB (c0v b k ys)=v:=by
 rcases h with ⟨d,n,rfl⟩ | rfl | ⟨b,rfl⟩ <;> rfl
theorem q0e (f:V→Option V):∀ (l:List V) (d:Nat) (v:V),V.mapBs f (l.set d v)=(V.mapBs f l).set d (v.mapB f):=by
 intro l
 induction l with
 | nil=>intro d v; rfl
 | cons x l ih=>
  intro d v
  cases d with
  | zero=>rfl
  | succ d=>simp only [List.set_cons_succ,V.mapBs,ih]
theorem t0o {v:V}{f:V→Option V}(h:v.mapB f=v):(st.slot d v).sweep f=(st.sweep f).slot d v:=by
 unfold St.slot St.sweep
 simp only [q0e,h]
theorem e0h {v:V}{x:Operand}(h:∀ t,x = .tmp t→t ≠ d):ev (st.slot d v).t x=ev st.t x:=by
 cases x with
 | tmp t=>exact b0o (h t rfl)
 | _=>rfl
theorem s0m {v:V}(hv:w0i v){dst:Option Nat}{op:Op}(hr:∀ t,Operand.tmp t∈op.operands.toList→t ≠ d)(hd:dst ≠ some d):b0b c (st.slot d v) dst op=(b0b c st dst op).map (λ s=>s.slot d v):=by
 cases op with
 | store t ad x=>
  have h1:ev (st.slot d v).t ad=ev st.t ad:=e0h (λ t e=>hr t (by simp [Op.operands,e]))
  have h2:ev (st.slot d v).t x=ev st.t x:=e0h (λ t e=>hr t (by simp [Op.operands,e]))
  simp only [b0b,h1,h2]
  cases c.ty t with
  | none=>rfl
  | some i=>
   simp only
   split
   ·cases ev st.t ad with
    | ptr b o=>
     simp only
     show (match st.h.getD b none with
      | some r=>_
      | none=>none)=_
     cases st.h.getD b none with
     | none=>rfl
     | some rr=>
      simp only
      cases o0v rr.cells o (ev st.t x).cells <;> rfl
    | eptr b s k xs i' o=>
     have hdd:(st.slot d v).dead=st.dead:=rfl
     simp only [hdd]
     by_cases hcc:st.dead b=false∧(b0k (c0e i.nz (ev st.t x)).cells).contains b=false
     ·rw [if_pos hcc,if_pos hcc]
      cases l0s (c0e i.nz (ev st.t x)).cells with
      | none=>rfl
      | some new=>
       simp only
       cases g0v xs i' o new with
       | none=>rfl
       | some ys=>
        simp only [Option.map_some,t0o (p0y hv _ _ _)]
        rfl
     ·rw [if_neg hcc,if_neg hcc]
      rfl
    | _=>rfl
   ·rfl
 | call cl=>
  obtain ⟨callee,args,ts⟩:=cl
  cases callee with
  | builtin bi=>
   cases bi with
   | append=>
    simp only [b0b]
    rcases hl:args.toList with _ | ⟨x,_ | ⟨y,_ | ⟨z,zs⟩⟩⟩
    ·rfl
    ·rfl
    ·have h1:ev (st.slot d v).t x=ev st.t x:=e0h (λ t e=>hr t (by simp [Op.operands,Call.operands,hl,e]))
     have h2:ev (st.slot d v).t y=ev st.t y:=e0h (λ t e=>hr t (by simp [Op.operands,Call.operands,hl,e]))
     rcases hts:ts.toList with _ | ⟨t1,_ | ⟨t2,_ | ⟨t3,tr⟩⟩⟩
     ·rfl
     ·rfl
     ·cases dst with
      | none=>rfl
      | some e=>
       have he:e ≠ d:=λ h=>hd (by rw [h])
       simp only [h1,h2]
       cases c.ty t1 with
       | none=>rfl
       | some i=>
        obtain ⟨dd,sz,by_,z0,cm⟩:=i
        cases dd with
        | slice e'=>
         simp only
         cases c.ty e' with
         | none=>rfl
         | some j=>
          cases ev st.t x with
          | own b s k xs=>
           simp only
           cases i0g s (ev st.t y) with
           | none=>rfl
           | some qq=>
            obtain ⟨k',ys⟩:=qq
            have hdd:(st.slot d v).dead=st.dead:=rfl
            simp only [hdd]
            by_cases hcc:t2=t1∧s=j.size∧j.size ≠ 0∧st.dead b=false∧(xs.length+ys.length) * j.bytes≤140737488355328∧xs.length+ys.length≤140737488355328∧b ≠ 999
            ·rw [if_pos hcc,if_pos hcc]
             simp only [Option.map_some,t0o (n0p hv _)]
             unfold St.slot St.kill St.mark
             simp only [List.set_comm _ _ he]
            ·rw [if_neg hcc,if_neg hcc]
             rfl
          | _=>rfl
        | _=>rfl
     ·rfl
    ·rfl
   | _=>rfl
  | _=>rfl
 | _=>rfl
end
end Go.Am
namespace Go.Am
open Go Go.RowKit
section
variable {P:Program}{c:Cfg}{Γ Γ':Ctx}{st st2 st' s1 s2:St}{a:Act}{w w':World}{den:Nat→List V→Option V}{η η':Nat→Option V}{d:Nat}{p q r:Nat→Bool}{ops:Array Oper}{o:Oper}
theorem j0c (v:V):v.mapB (λ _=>none)=v:=
 V.rec (motive_1:=λ v=>v.mapB (λ _=>none)=v) (motive_2:=λ vs=>V.mapBs (λ _=>none) vs=vs)
  rfl (λ _=>rfl) (λ _ _=>rfl) (λ _=>rfl) rfl (λ _ _ _ _=>rfl) (λ _ _ _ _ _=>rfl) (λ _ _ _ _ _=>rfl) (λ _ _=>rfl) (λ _ _ _ _ _ _ _=>rfl) (λ _ _ _ _=>rfl) (λ _ _ _=>rfl)
  (λ _ h=>by rw [V.mapB,h]) (λ _ h=>by rw [V.mapB,h]) (λ _ _ h=>by rw [V.mapB,h]) rfl (λ _ _ h1 h2=>by rw [V.mapBs,h1,h2]) v
def w0g (f:V→Option V):Prop:=(∀ u:V,w0i u→u.mapB f=u)∧(∀ u:V,w0i (u.mapB f)→u.mapB f=u)∧f .undef=none
theorem z0m:w0g (λ _=>none):=⟨λ u _=>j0c u,λ u _=>j0c u,rfl⟩
theorem q0v {f:V→Option V}{cs:List V}(h:V.tup (V.mapBs f cs)=d0g):cs=[]:=by
 unfold d0g at h
 injection h with h
 cases cs with
 | nil=>rfl
 | cons v vs=>rw [V.mapBs] at h; cases h
theorem u0q (b:Nat):w0g (a0h b):=by
 refine ⟨λ u h=>n0p h b,λ u h=>?_,rfl⟩
 cases u with
 | agg cs=>rcases h with ⟨_,_,h⟩ | h | ⟨_,h⟩ <;> cases h
 | clo g cs=>rcases h with ⟨_,_,h⟩ | h | ⟨_,h⟩ <;> cases h
 | tup cs=>
  rcases h with ⟨_,_,h⟩ | h | ⟨_,h⟩
  ·cases h
  ·rw [q0v h]; rfl
  ·cases h
 | own b' s k xs=>
  simp only [V.mapB,a0h] at h ⊢
  split at h
  ·rcases h with ⟨_,_,h⟩ | h | ⟨_,h⟩ <;> cases h
  ·rename_i hb; rw [if_neg hb]; rfl
 | view b' s k xs=>
  simp only [V.mapB,a0h] at h ⊢
  split at h
  ·rcases h with ⟨_,_,h⟩ | h | ⟨_,h⟩ <;> cases h
  ·rename_i hb; rw [if_neg hb]; rfl
 | eptr b' s k xs i n=>
  simp only [V.mapB,a0h] at h ⊢
  split at h
  ·rcases h with ⟨_,_,h⟩ | h | ⟨_,h⟩ <;> cases h
  ·rename_i hb; rw [if_neg hb]; rfl
 | vptr b' x n=>
  simp only [V.mapB,a0h] at h ⊢
  split at h
  ·rcases h with ⟨_,_,h⟩ | h | ⟨_,h⟩ <;> cases h
  ·rename_i hb; rw [if_neg hb]; rfl
 | _=>rfl
theorem w0z (b:Nat)(kk:Q)(ys:List V):w0g (c0v b kk ys):=by
 refine ⟨λ u h=>p0y h b kk ys,λ u h=>?_,rfl⟩
 cases u with
 | agg cs=>rcases h with ⟨_,_,h⟩ | h | ⟨_,h⟩ <;> cases h
 | clo g cs=>rcases h with ⟨_,_,h⟩ | h | ⟨_,h⟩ <;> cases h
 | tup cs=>
  rcases h with ⟨_,_,h⟩ | h | ⟨_,h⟩
  ·cases h
  ·rw [q0v h]; rfl
  ·cases h
 | own b' s k xs=>
  simp only [V.mapB,c0v] at h ⊢
  split at h
  ·rcases h with ⟨_,_,h⟩ | h | ⟨_,h⟩ <;> cases h
  ·rename_i hb; rw [if_neg hb]; rfl
 | view b' s k xs=>
  simp only [V.mapB,c0v] at h ⊢
  split at h
  ·rcases h with ⟨_,_,h⟩ | h | ⟨_,h⟩ <;> cases h
  ·rename_i hb; rw [if_neg hb]; rfl
 | eptr b' s k xs i n=>
  simp only [V.mapB,c0v] at h ⊢
  split at h
  ·rcases h with ⟨_,_,h⟩ | h | ⟨_,h⟩ <;> cases h
  ·rename_i hb; rw [if_neg hb]; rfl
 | vptr b' x n=>
  simp only [V.mapB,c0v] at h ⊢
  split at h
  ·rcases h with ⟨_,_,h⟩ | h | ⟨_,h⟩ <;> cases h
  ·rename_i hb; rw [if_neg hb]; rfl
 | _=>rfl
theorem b0i {f:V→Option V}(hu:f .undef=none)(l:List V)(z:Nat):(V.mapBs f l).getD z .undef=(l.getD z .undef).mapB f:=by
 rw [List.getD_eq_getElem?_getD,List.getD_eq_getElem?_getD,a0e]
 cases l[z]? with
 | none=>show V.undef=(f .undef).getD .undef; rw [hu]; rfl
 | some v=>rfl
theorem p0s {dst:Option Nat}{op:Op}(h:b0b c st dst op=some st'):∃ f,w0g f ∧ ∀ z,dst ≠ some z→st'.t.getD z .undef=(st.t.getD z .undef).mapB f:=by
 cases op with
 | store t ad x=>
  simp only [b0b] at h
  repeat' split at h
  all_goals first | (cases h; done) | skip
  ·simp only [sj_] at h
   subst h
   exact ⟨_,z0m,λ z _=>(j0c _).symm⟩
  ·simp only [sj_] at h
   subst h
   exact ⟨_,w0z _ _ _,λ z _=>b0i rfl _ _⟩
 | call cl=>
  obtain ⟨callee,args,ts⟩:=cl
  cases callee with
  | builtin bi=>
   cases bi with
   | append=>
    simp only [b0b] at h
    repeat' split at h
    all_goals first | (cases h; done) | skip
    simp only [sj_] at h
    subst h
    exact ⟨_,u0q _,λ z hz=>(b0o (λ e=>hz (by rw [e]))).trans (b0i rfl _ _)⟩
   | _=>simp only [b0b] at h; cases h
  | _=>simp only [b0b] at h; cases h
 | _=>simp only [b0b] at h; cases h
end
end Go.Am
namespace Go.Am
open Go Go.RowKit
section
variable {P:Program}{c:Cfg}{Γ Γ':Ctx}{st st2 st' s1 s2:St}{a:Act}{w w':World}{den:Nat→List V→Option V}{η η':Nat→Option V}{d:Nat}{p q r:Nat→Bool}{ops:Array Oper}{o:Oper}
theorem f0v {x:Nat}(h:d0v o=some x):∃ t k,o.op = .fieldAddr t (.tmp x) k:=by
 unfold d0v at h
 split at h
 ·rename_i t y k _ hop _
  simp only [sj_] at h
  subst h
  exact ⟨t,k,hop⟩
 ·cases h
theorem n0l {x:Nat}(h:d0v o=some x):o.dst ≠ none:=by
 unfold d0v at h
 split at h
 ·rename_i hd
  rw [hd]; simp
 ·cases h
theorem w0n {x df:Nat}(ha:d0v o=some x)(hd:o.dst=some df){e n:Nat}(hp:st.t.getD x .undef = .ptr e n)(h:a0m c den ops st o=some st') :
  ∃ v,w0i v∧st' = st.slot df v ∧ ∀ st2:St,wanted ops st2.t o=wanted ops st.t o→st2.t.getD x .undef = .ptr e n→a0m c den ops st2 o=some (st2.slot df v):=by
 obtain ⟨t,k,hop⟩:=f0v ha
 unfold a0m at h
 cases hw:wanted ops st.t o with
 | none=>rw [hw] at h; cases h
 | some b=>
  rw [hw] at h
  cases b with
  | false=>
   simp only [hd,sj_] at h
   subst h
   refine ⟨d0g,.inr (.inl rfl),rfl,λ st2 h1 _=>?_⟩
   unfold a0m
   rw [h1]
   simp only [hd]
   rfl
  | true=>
   simp only at h
   have he:∀ s:St,c0g s o.op=false:=λ s=>by rw [hop]; rfl
   have hv:∀ (s:St),s.t.getD x .undef = .ptr e n → ∀ η,a0d c den (ev s.t) η df o.op=a0d c den (λ _=>.ptr e n) (λ _=>none) df o.op:=by
    intro s hs η
    rw [hop]
    have:ev s.t (.tmp x) = .ptr e n:=hs
    simp only [a0d,this]
   unfold step at h
   rw [if_neg (by rw [he st]; simp),hd] at h
   simp only at h
   rw [hv st hp] at h
   have inert:∀ out,a0d c den (λ _=>V.ptr e n) (λ _=>none) df o.op=some out → ∃ m,out = .val (.ptr e m):=by
    intro out ho
    rw [hop] at ho
    simp only [a0d,plain,f0f] at ho
    repeat' split at ho
    all_goals first | (cases ho; done) | skip
    simp only [sj_] at ho
    exact ⟨_,ho.symm⟩
   cases ho:a0d c den (λ _=>V.ptr e n) (λ _=>none) df o.op with
   | none=>rw [ho] at h; cases h
   | some out=>
    obtain ⟨m,rfl⟩:=inert out ho
    rw [ho] at h
    simp only [sj_] at h
    subst h
    refine ⟨.ptr e m,.inl ⟨_,_,rfl⟩,rfl,λ st2 h1 h2=>?_⟩
    unfold a0m
    rw [h1]
    simp only
    unfold step
    rw [if_neg (by rw [he st2]; simp),hd]
    simp only
    rw [hv st2 h2,ho]
    rfl
theorem x0f {st:St}{op:Op}(h:c0g st op=true):n0u op=true:=by
 cases op with
 | store t a x=>rfl
 | call cl=>
  obtain ⟨callee,args,ts⟩:=cl
  cases callee with
  | builtin bi=>cases bi <;> first | rfl | cases h
  | _=>cases h
 | _=>cases h
theorem t0v {f:V→Option V}(hg:w0g f){s:St}(hsl:∀ z,z∈b0h ops o→s.t.getD z .undef=(st.t.getD z .undef).mapB f):∀ b,(wanted ops st.t o=some b↔wanted ops s.t o=some b):=by
 intro b
 unfold wanted
 cases hgd:o.guard with
 | none=>exact Iff.rfl
 | some jw=>
  obtain ⟨j,want⟩:=jw
  simp only
  cases hd:(ops[j]?).bind (·.dst) with
  | none=>exact Iff.rfl
  | some d=>
   simp only
   rw [hsl d (by unfold b0h; rw [hgd]; exact List.mem_append.2 (.inr (by simp [hd])))]
   generalize st.t.getD d .undef=u
   constructor
   ·intro h
    have hi:w0i u:=by
     split at h
     ·exact .inr (.inr ⟨_,rfl⟩)
     ·exact .inr (.inl rfl)
     ·cases h
    rw [hg.1 u hi]
    exact h
   ·intro h
    have hi:w0i (u.mapB f):=by
     split at h
     ·rename_i b' hb; rw [hb]; exact .inr (.inr ⟨_,rfl⟩)
     ·rename_i hb; rw [hb]; exact .inr (.inl rfl)
     ·cases h
    rw [hg.2.1 u hi] at h
    exact h
theorem h0y {v:V}(h:d ∉ b0h ops o):wanted ops (st.slot d v).t o=wanted ops st.t o:=
 c0a (st:=st) (st2:=st.slot d v) λ x hx=>b0o (λ e=>h (e ▸ hx))
theorem v0p {x y:Oper}(hx:a0m c den ops st x=some s1)(hy:a0m c den ops s1 y=some s2)(sx:¬ g0y ops st x){z dy e n:Nat}(ha:d0v y=some z)(hdy:y.dst=some dy)(hp:st.t.getD z .undef = .ptr e n)
  (hne:x.dst ≠ some dy) (rx:dy ∉ b0h ops x) (ry:∀ e,x.dst=some e→e ∉ b0h ops y):∃ s,a0m c den ops st y=some s∧a0m c den ops s x=some s2:=by
 have h1:c0g st x.op=true:=by
  cases hi:c0g st x.op with
  | true=>rfl
  | false=>exact absurd (.inl hi) sx
 have hw:wanted ops st.t x=some true:=by
  unfold a0m at hx
  cases hw:wanted ops st.t x with
  | none=>rw [hw] at hx; cases hx
  | some b=>
   cases b with
   | true=>rfl
   | false=>exact absurd (.inr hw) sx
 have hx':b0b c st x.dst x.op=some s1:=by
  unfold a0m at hx
  rw [hw] at hx
  simp only at hx
  unfold step at hx
  rw [if_pos h1] at hx
  exact hx
 obtain ⟨f,hg,hsl⟩:=p0s hx'
 obtain ⟨t,k,hop⟩:=f0v ha
 have hzr:z∈b0h ops y:=b0j (by rw [hop]; simp [Op.operands])
 have hp1:s1.t.getD z .undef = .ptr e n:=by
  rw [hsl z (λ h=>ry z h hzr),hp]
  exact hg.1 _ (.inl ⟨_,_,rfl⟩)
 obtain ⟨v,hv,rfl,hty⟩:=w0n ha hdy hp1 hy
 have hwy:wanted ops st.t y=wanted ops s1.t y:=by
  have:=t0v (ops:=ops) (o:=y) (st:=st) (s:=s1) hg (λ q hq=>hsl q (λ h=>ry q h hq))
  cases hq:wanted ops s1.t y with
  | none=>
   cases hq2:wanted ops st.t y with
   | none=>rfl
   | some b=>rw [(this b).1 hq2] at hq; cases hq
  | some b=>exact (this b).2 hq
 refine ⟨_,hty st hwy hp,?_⟩
 unfold a0m
 rw [h0y rx,hw]
 simp only
 unfold step
 have hr:∀ t,Operand.tmp t∈x.op.operands.toList→t ≠ dy:=λ t ht e=>rx (e ▸ b0j ht)
 rw [e0s (st:=st) (λ q hq=>e0h (λ t e=>hr t (e ▸ hq))),if_pos h1,s0m hv hr hne,hx']
 rfl
theorem v0o {x y:Oper}(hx:a0m c den ops st x=some s1)(hy:a0m c den ops s1 y=some s2)(sy:¬ g0y ops s1 y){z dx e n:Nat}(ha:d0v x=some z)(hdx:x.dst=some dx)(hp:st.t.getD z .undef = .ptr e n)
  (hne:y.dst ≠ some dx) (ry:dx ∉ b0h ops y) (rx:∀ e,y.dst=some e→e ∉ b0h ops x):∃ s,a0m c den ops st y=some s∧a0m c den ops s x=some s2:=by
 have h1:c0g s1 y.op=true:=by
  cases hi:c0g s1 y.op with
  | true=>rfl
  | false=>exact absurd (.inl hi) sy
 have hw:wanted ops s1.t y=some true:=by
  unfold a0m at hy
  cases hw:wanted ops s1.t y with
  | none=>rw [hw] at hy; cases hy
  | some b=>
   cases b with
   | true=>rfl
   | false=>exact absurd (.inr hw) sy
 have hy':b0b c s1 y.dst y.op=some s2:=by
  unfold a0m at hy
  rw [hw] at hy
  simp only at hy
  unfold step at hy
  rw [if_pos h1] at hy
  exact hy
 obtain ⟨v,hv,rfl,htx⟩:=w0n ha hdx hp hx
 have hr:∀ t,Operand.tmp t∈y.op.operands.toList→t ≠ dx:=λ t ht e=>ry (e ▸ b0j ht)
 rw [s0m hv hr hne] at hy'
 cases hs:b0b c st y.dst y.op with
 | none=>rw [hs] at hy'; cases hy'
 | some s=>
  rw [hs] at hy'
  simp only [Option.map_some,sj_] at hy'
  subst hy'
  obtain ⟨f,hg,hsl⟩:=p0s hs
  obtain ⟨t,k,hop⟩:=f0v ha
  have hzr:z∈b0h ops x:=b0j (by rw [hop]; simp [Op.operands])
  have hp1:s.t.getD z .undef = .ptr e n:=by
   rw [hsl z (λ h=>rx z h hzr),hp]
   exact hg.1 _ (.inl ⟨_,_,rfl⟩)
  refine ⟨s,?_,htx s ?_ hp1⟩
  ·unfold a0m
   rw [← h0y ry,hw]
   simp only
   unfold step
   rw [← e0s (st:=st) (st2:=st.slot dx v) (λ q hq=>e0h (λ t e=>hr t (e ▸ hq))),if_pos h1,hs]
  ·have:=t0v (ops:=ops) (o:=x) (st:=st) (s:=s) hg (λ q hq=>hsl q (λ h=>rx q h hq))
   cases hq:wanted ops s.t x with
   | none=>
    cases hq2:wanted ops st.t x with
    | none=>rfl
    | some b=>rw [(this b).1 hq2] at hq; cases hq
   | some b=>exact ((this b).2 hq).symm
end
end Go.Am
end

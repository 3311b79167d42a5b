/-
  What the machine is told of this seat's translation, by program (cfg.py). Not trusted: the types are checked against the program here by one reckoning.
-/
import Derived.Test.YthcnbncpgloonaaGreatuAmPut
import Derived.Test.YthcnbncpgloonaaGreatuAmDraw
import Derived.Test.YthcnbncpgloonaaGreatuAmEvOk
import Derived.Test.YthcnbncpgloonaaGreatProg
section
set_option linter.unusedVariables false
set_option linter.unusedSimpArgs false
namespace Go.Am
open Go Go.RowKit
def FSrc (w:World)(m:Nat)(sv:Value)(fs:List V):Prop:=(fs=[] ∧ ∃ a c,sv = .slice a 0 c) ∨
 ∃ k o c zs,sv = .slice (some ⟨k,o,none⟩) fs.length c∧0 < fs.length∧FlatN m fs zs∧k < w.heap.size ∧ ∀ (j:Nat) (u:Value),zs[j]? = some u→w.cell? ⟨k,o+j,none⟩=some u
def SSrc (w:World)(m:Nat)(v:Value)(ys:List Sv):Prop:=(ys=[] ∧ ∃ a c,v = .slice a 0 c) ∨
 ∃ k o c,v = .slice (some ⟨k,o,none⟩) ys.length c∧0 < ys.length∧k < w.heap.size ∧ ∀ (i:Nat) (h:List UInt8) (fs:List V),ys[i]? = some (h,fs) → ∃ hb sv,hb.data.toList=h∧w.cell? ⟨k,o+i * 2,none⟩=some (.string hb)∧w.cell? ⟨k,o+i * 2+1,none⟩=some sv∧FSrc w m sv fs
theorem t1n {w:World}{R:Nat→Prop}{m:Nat}{fs:List V}{sv:Value}(h:Rd w R (.sl m true fs) sv)(hR:∀ k,R k→k < w.heap.size):FSrc w m sv fs:=by
 cases h with
 | empty=>exact .inl ⟨rfl,_,_,rfl⟩
 | sl _ _ _ k o cap g hl hcap hS hsz hf hg hr=>
  refine .inr ⟨k,o,cap,(List.range (fs.length * m)).map (λ p=>g (p / m) (p % m)),rfl,hl,⟨by simp,hsz,λ i x j c hx hc=>?_⟩,hR k hS,λ j u hu=>?_⟩
  ·have hi:=(gs_ hx).1
   have hj:j < m:=by
    have:=(gs_ hc).1
    rwa [hsz x (List.mem_of_getElem? hx)] at this
   have hp:i * m+j < fs.length * m:=by
    have:=Nat.mul_le_mul_right m (show i+1≤fs.length from hi)
    rw [Nat.add_mul,Nat.one_mul] at this
    omega
   refine ⟨g i j,?_,h2w (hr i x j c hx hc) (hf rfl x (List.mem_of_getElem? hx) c (List.mem_of_getElem? hc)) (hg i j hi hj).2⟩
   rw [List.getElem?_map,List.getElem?_range hp]
   have e1:(i * m+j) / m=i:=by rw [Nat.mul_comm,Nat.mul_add_div (by omega),Nat.div_eq_of_lt hj,Nat.add_zero]
   have e2:(i * m+j) % m=j:=by rw [Nat.mul_comm,Nat.mul_add_mod,Nat.mod_eq_of_lt hj]
   rw [Option.map_some,e1,e2]
  ·rw [List.getElem?_map] at hu
   have hj:j < fs.length * m:=by
    rcases Nat.lt_or_ge j (fs.length * m) with h | h
    ·exact h
    ·rw [List.getElem?_eq_none (by simpa using h)] at hu; cases hu
   rw [List.getElem?_range hj,Option.map_some] at hu
   injection hu with hu
   subst hu
   obtain ⟨d1,d2,d3⟩:j / m < fs.length∧j % m < m∧j / m * m+j % m=j:=by
    have hm:0 < m:=by
     rcases Nat.eq_zero_or_pos m with e | e
     ·rw [e,Nat.mul_zero] at hj; omega
     ·exact e
    exact ⟨Nat.div_lt_of_lt_mul (by rw [Nat.mul_comm]; exact hj),Nat.mod_lt _ hm,Nat.div_add_mod' j m⟩
   have:=(hg (j / m) (j % m) d1 d2).1
   rwa [Nat.add_assoc,d3] at this
theorem v1e {w:World}{R:Nat→Prop}{m:Nat}{ys:List Sv}{v:Value}(h:Rd w R (.sl 2 false (ys.map (svV m))) v)(hR:∀ k,R k→k < w.heap.size):SSrc w m v ys:=by
 generalize hxs:ys.map (svV m)=xs at h
 cases h with
 | empty=>
  cases ys with
  | nil=>exact .inl ⟨rfl,_,_,rfl⟩
  | cons y ys=>cases hxs
 | sl _ _ _ k o cap g hl hcap hS hsz hf hg hr=>
  have hlen:xs.length=ys.length:=by rw [← hxs,List.length_map]
  refine .inr ⟨k,o,cap,by rw [hlen],by omega,hR k hS,λ i hh fs hi=>?_⟩
  have hx:xs[i]? = some (svV m (hh,fs)):=by rw [← hxs,List.getElem?_map,hi]; rfl
  have hil:=(gs_ hx).1
  have h0:=hr i _ 0 _ hx rfl
  have h1:=hr i _ 1 _ hx rfl
  obtain ⟨hb,e,hb'⟩:=t0h h0
  refine ⟨hb,g i 1,hb',?_,(hg i 1 hil (by omega)).1,t1n h1 hR⟩
  rw [← e]
  exact (hg i 0 hil (by omega)).1
theorem FSrc.kept {w w':World}{m:Nat}{sv:Value}{fs:List V}(h:FSrc w m sv fs)(hk:Kept w w'):FSrc w' m sv fs:=by
 rcases h with h | ⟨k,o,c,zs,h1,h2,h3,h4,h5⟩
 ·exact .inl h
 ·exact .inr ⟨k,o,c,zs,h1,h2,h3,Nat.lt_of_lt_of_le h4 hk.2.2.2.1,λ j u hu=>by rw [← h5 j u hu]; simp only [World.cell?,hk.2.2.2.2 k h4]⟩
theorem SSrc.kept {w w':World}{m:Nat}{v:Value}{ys:List Sv}(h:SSrc w m v ys)(hk:Kept w w'):SSrc w' m v ys:=by
 rcases h with h | ⟨k,o,c,h1,h2,h3,h4⟩
 ·exact .inl h
 ·refine .inr ⟨k,o,c,h1,h2,Nat.lt_of_lt_of_le h3 hk.2.2.2.1,λ i hh fs hi=>?_⟩
  obtain ⟨hb,sv,e1,e2,e3,e4⟩:=h4 i hh fs hi
  exact ⟨hb,sv,e1,by rw [← e2]; simp only [World.cell?,hk.2.2.2.2 k h3],by rw [← e3]; simp only [World.cell?,hk.2.2.2.2 k h3],e4.kept hk⟩
end Go.Am
end
section
set_option linter.unusedVariables false
set_option linter.unusedSimpArgs false
namespace Go.Am
open Go Go.RowKit
section
variable {P:Program}{c:Cfg}
def y0i:List V→Option (List Sv)
 | []=>some []
 | .agg [.str h,.sl 7 true fs] :: vs=>(y0i vs).map ((h,fs) :: ·)
 | _ :: _=>none
theorem k1z:∀ {xs:List V} {l:List Sv},y0i xs=some l→xs=l.map (svV 7):=by
 intro xs
 induction xs with
 | nil=>intro l h; simp only [y0i,sj_] at h; subst h; rfl
 | cons x xs ih=>
  intro l h
  unfold y0i at h
  split at h
  ·rename_i h0; cases h0
  ·rename_i a b vs h0
   injection h0 with h1 h2
   subst h1 h2
   obtain ⟨m,hm,e⟩:=Option.map_eq_some_iff.1 h
   rw [← e,List.map_cons,← ih hm]
   rfl
  ·cases h
def l1a (ys:List Sv):Bool:=decide (ys.length≤1099511627776) && ys.all λ y=>decide (y.2.length≤1099511627776)
def t0g (ys:List Sv)(k:Int)(h:List UInt8):Option (List Sv × Nat × Sv):=if k < 0 then some (ys++[(h,[])],ys.length,h,[]) else (ys[k.toNat]?).map λ y=>(ys,k.toNat,y)
def g0j (ys:List Sv)(s:List Sv × Nat × Sv)(f:V)(b:Bool):List Sv × Bool:=if s.1.length≤4∧b=true then (s.1.set s.2.1 (s.2.2.1,s.2.2.2++[f]),true) else (ys,false)
def d2t (dS dF dI:List V→Option V)(xs:List V)(h p:List UInt8)(fl:V):Option V:=match y0i xs with
 | some ys=>if l1a ys=true then match dS [.sl 2 false xs,.str h] with
  | some (.int .i64 k)=>match t0g ys k h with
   | some s=>match dF [svV 7 s.2.2,.str p] with
    | some (.int .i64 i)=>if i < 0 then match dI [svV 7 (s.2.2.1,s.2.2.2++[fl])] with
     | some (.bool b)=>some (.tup [.own 0 2 .clean ((g0j ys s fl b).1.map (svV 7)),.bool (g0j ys s fl b).2])
     | _=>none else none
    | _=>none
   | none=>none
  | _=>none else none
 | none=>none
def d2s (dS dF dI:List V→Option V):List V→Option V
 | [.sl 2 false xs,.agg [.str h,.str p],.agg [.int .i64 st,.int .i64 kd,.str bd,.int .i64 ag,.bool sh,.str po]]=>d2t dS dF dI xs h p (.agg [.str p,.int .i64 st,.int .i64 kd,.str bd,.int .i64 ag,.bool sh,.str po])
 | _=>none
abbrev TS0:Type 1:=(β:Type)→List V→List UInt8→(Int→Option β)→Option β
abbrev TF0:Type 1:=(β:Type)→List UInt8→List V→List UInt8→(Int→Option β)→Option β
abbrev TI0:Type 1:=(β:Type)→List UInt8→List V→(Bool→Option β)→Option β
def b2q (Fsv:TS0)(FF:TF0)(FI:TI0):(β:Type)→List V→List UInt8→List UInt8→Int→Int→List UInt8→Int→Bool→List UInt8→(List V→Bool→Option β)→Option β:=λ β xs h p st kd bd ag sh po k=>
 match y0i xs with
 | some ys=>chk (l1a ys=true) (Fsv β xs h (λ kk=>match t0g ys kk h with
  | some s=>FF β s.2.2.1 s.2.2.2 p (λ i=>chk (i < 0) (FI β s.2.2.1 (s.2.2.2++[.agg [.str p,.int .i64 st,.int .i64 kd,.str bd,.int .i64 ag,.bool sh,.str po]]) (λ b=>
    k ((g0j ys s (.agg [.str p,.int .i64 st,.int .i64 kd,.str bd,.int .i64 ag,.bool sh,.str po]) b).1.map (svV 7)) (g0j ys s (.agg [.str p,.int .i64 st,.int .i64 kd,.str bd,.int .i64 ag,.bool sh,.str po]) b).2)))
  | none=>none))
 | none=>none
theorem b2g {ext d1:Nat→List V→Option V}{f gS gF gI:Nat}{Fsv:TS0}{FF:TF0}{FI:TI0}(hE:∀ args,ext f args=d2s (d1 gS) (d1 gF) (d1 gI) args)
  (hS:a0l d1 gS (wrap [(false,[.sl 2 false]),(false,[.str])] (λ β e k=>Fsv β e.1.1 e.2.1.1 (λ y=>k (.int .i64 y)))))
  (hF:a0l d1 gF (wrap [(true,[.str,.sl 7 true]),(false,[.str])] (λ β e k=>FF β e.1.1 e.1.2.1 e.2.1.1 (λ y=>k (.int .i64 y)))))
  (hI:a0l d1 gI (wrap [(true,[.str,.sl 7 true])] (λ β e k=>FI β e.1.1 e.1.2.1 (λ y=>k (.bool y))))) :
  a0l (den P c ext) f (wrap [(false,[.sl 2 false]),(true,[.str,.str]),(true,[.int .i64,.int .i64,.str,.int .i64,.bool,.str])] (λ β e k=>b2q Fsv FF FI β e.1.1 e.2.1.1 e.2.1.2.1 e.2.2.1.1 e.2.2.1.2.1 e.2.2.1.2.2.1 e.2.2.1.2.2.2.1 e.2.2.1.2.2.2.2.1 e.2.2.1.2.2.2.2.2.1 (λ y1 y2=>k (.tup [.own 0 2 .clean y1,.bool y2])))):=by
 refine i1b hE (λ β x k r hr=>?_)
 obtain ⟨⟨xs,_⟩,⟨h,p,_⟩,⟨st,kd,bd,ag,sh,po,_⟩,_⟩:=x
 replace hr:b2q Fsv FF FI β xs h p st kd bd ag sh po (λ y1 y2=>k (.tup [.own 0 2 .clean y1,.bool y2]))=some r:=hr
 show ∃ v,d2t (d1 gS) (d1 gF) (d1 gI) xs h p (.agg [.str p,.int .i64 st,.int .i64 kd,.str bd,.int .i64 ag,.bool sh,.str po])=some v∧k v=some r
 unfold b2q at hr
 generalize V.agg [.str p,.int .i64 st,.int .i64 kd,.str bd,.int .i64 ag,.bool sh,.str po]=fl at hr ⊢
 unfold d2t
 split at hr
 ·rename_i ys hys
  obtain ⟨hok,hr⟩:=c0l hr
  obtain ⟨v1,e1,hr⟩:=hS β [.sl 2 false xs,.str h] (λ v=>match v with
   | .int .i64 kk=>(match t0g ys kk h with
    | some s=>FF β s.2.2.1 s.2.2.2 p (λ i=>chk (i < 0) (FI β s.2.2.1 (s.2.2.2++[fl]) (λ b=>k (.tup [.own 0 2 .clean ((g0j ys s fl b).1.map (svV 7)),.bool (g0j ys s fl b).2]))))
    | none=>none)
   | _=>none) r hr
  split at hr
  ·rename_i kk
   split at hr
   ·rename_i s hs
    obtain ⟨v2,e2,hr⟩:=hF β [svV 7 s.2.2,.str p] (λ v=>match v with
     | .int .i64 i=>chk (i < 0) (FI β s.2.2.1 (s.2.2.2++[fl]) (λ b=>k (.tup [.own 0 2 .clean ((g0j ys s fl b).1.map (svV 7)),.bool (g0j ys s fl b).2])))
     | _=>none) r hr
    split at hr
    ·rename_i i
     obtain ⟨hi,hr⟩:=c0l hr
     obtain ⟨v3,e3,hr⟩:=hI β [svV 7 (s.2.2.1,s.2.2.2++[fl])] (λ v=>match v with
      | .bool b=>k (.tup [.own 0 2 .clean ((g0j ys s fl b).1.map (svV 7)),.bool (g0j ys s fl b).2])
      | _=>none) r hr
     split at hr
     ·rename_i b
      refine ⟨_,?_,hr⟩
      simp only [hok,if_true,e1,hs,e2,hi,e3]
     ·cases hr
    ·cases hr
   ·cases hr
  ·cases hr
 ·cases hr
end
end Go.Am
end
section
set_option linter.unusedVariables false
namespace Go.Am
open Go
def b0c {α:Type}(k:Nat)(d:α):List (Nat × α)→α
 | []=>d
 | (i,a) :: r=>if i=k then a else b0c k d r
def r2v:List V:=[.nil,.int .i64 0,.int .i64 0]
def r2u:List V:=[.undef,.undef,.own 0 2 .flat []]
def r2t:List V:=[.str [],.str [],.int .i64 0,.nil]
def r2s:List V:=[.int .i64 0,.str [],.nil,.str []]
def q1v:List V:=[.undef,.undef,.view 999 2 .flat []]
def r2r:List V:=[.bool false,.nil,.nil,.nil,.str []]
def f1x:List V:=[.view 999 4 .clean [],.view 999 1 .flat []]
def c2u:List V:=[.undef,.undef,.undef,.view 999 2 .flat []]
def r2q:List V:=[.int .i64 0,.str [],.str [],.str [],.str []]
def r2p:List V:=[.int .i64 0,.int .i64 0,.bool false,.int .u8 0]
def r2o:List V:=[.str [],.str [],.bool false,.int .i64 0,.str []]
def h2v:List V:=[.undef,.own 0 1 .flat [],.own 0 1 .flat [],.own 0 1 .flat []]
def r2n:List V:=[.int .i64 0,.int .i64 0,.str [],.int .i64 0,.bool false,.str []]
def cv9:List V:=[.undef,.view 999 1 .flat [],.view 999 1 .flat [],.view 999 1 .flat []]
def cv8:List V:=[.str [],.int .i64 0,.int .i64 0,.str [],.int .i64 0,.bool false,.str []]
def cv7:List V:=[.int .i64 0,.str [],.str [],.str [],.int .i64 0,.bool false,.int .i64 0,.str []]
def cv6:List V:=[.str [],.str [],.bool false,.nil,.nil,.nil,.str [],.str [],.nil,.bool false,.nil,.nil,.nil,.nil,.nil,.int .i64 0,.int .i64 0,.int .i64 0,.int .i64 0,.nil,.nil,.bool false]
def cv5:List V:=[.str [],.str [],.str [],.str [],.bool false,.nil,.nil,.nil,.str [],.str [],.nil,.bool false,.nil,.nil,.nil,.nil,.nil,.int .i64 0,.int .i64 0,.int .i64 0,.int .i64 0,.nil,.nil,.bool false,.bool false]
def cv4:List V:=[.undef,.undef,.undef,.own 0 1 .flat [],.own 0 1 .flat [],.own 0 1 .flat [],.undef,.undef,.own 0 4 .clean [],.undef,.own 0 4 .clean [],.own 0 1 .flat [],.own 0 8 .flat [],.own 0 5 .flat [],.own 0 2 .flat [],.undef,.undef,.undef,.undef,.own 0 2 .flat [],.own 0 1 .flat []]
def cv3:List V:=[.undef,.undef,.undef,.own 0 1 .flat [],.own 0 1 .flat [],.own 0 1 .flat [],.undef,.undef,.view 0 4 .clean [],.undef,.own 0 4 .clean [],.view 0 1 .flat [],.own 0 8 .flat [],.own 0 5 .flat [],.own 0 2 .flat [],.undef,.undef,.undef,.undef,.own 0 2 .flat [],.own 0 1 .flat []]
def cv2:List V:=[.undef,.undef,.undef,.own 0 1 .flat [],.own 0 1 .flat [],.own 0 1 .flat [],.undef,.undef,.own 0 4 .clean [],.undef,.own 0 4 .clean [],.own 0 1 .flat [],.own 0 8 .flat [],.own 0 5 .flat [],.own 0 2 .flat [],.undef,.undef,.undef,.undef,.own 0 2 .flat [],.own 0 1 .flat [],.undef,.own 0 1 .flat []]
def cv1:List V:=[.undef,.undef,.undef,.view 999 1 .flat [],.view 999 1 .flat [],.view 999 1 .flat [],.undef,.undef,.view 999 4 .clean [],.undef,.view 999 4 .clean [],.view 999 1 .flat [],.view 999 8 .flat [],.view 999 5 .flat [],.view 999 2 .flat [],.undef,.undef,.undef,.undef,.view 999 2 .flat [],.view 999 1 .flat []]
def cv0:List V:=[.undef,.undef,.undef,.undef,.undef,.view 999 1 .flat [],.view 999 1 .flat [],.view 999 1 .flat [],.undef,.undef,.view 999 4 .clean [],.undef,.view 999 4 .clean [],.view 999 1 .flat [],.view 999 8 .flat [],.view 999 5 .flat [],.view 999 2 .flat [],.undef,.undef,.undef,.undef,.view 999 2 .flat [],.view 999 1 .flat []]
def tys:List (Option TyInfo):=[
 none,
 none,
 some ⟨.int .i64,1,8,.int .i64 0,false,[],.flat⟩,
 some ⟨.int .i64,1,8,.int .i64 0,false,[],.flat⟩,
 some ⟨.bool,1,1,.bool false,false,[],.flat⟩,
 some ⟨.int .u8,1,1,.int .u8 0,false,[],.flat⟩,
 some ⟨.int .u8,1,1,.int .u8 0,false,[],.flat⟩,
 some ⟨.struct [(0,2),(1,3),(2,4),(3,6)],4,24,.agg r2p,false,[],.flat⟩,
 some ⟨.struct [(0,2),(1,3),(2,4),(3,6)],4,24,.agg r2p,false,[],.flat⟩,
 some ⟨.str,1,16,.str [],false,[],.flat⟩,
 some ⟨.str,1,16,.str [],false,[],.flat⟩,
 some ⟨.str,1,16,.str [],false,[],.flat⟩,
 some ⟨.int .u64,1,8,.int .u64 0,false,[],.flat⟩,
 some ⟨.struct [(0,9),(1,12)],2,24,.agg [.str [],.int .u64 0],false,[],.flat⟩,
 some ⟨.struct [(0,9),(1,12)],2,24,.agg [.str [],.int .u64 0],false,[],.flat⟩,
 some ⟨.ptr 230,1,8,.undef,false,[],.flat⟩,
 some ⟨.ptr 233,1,8,.undef,false,[],.flat⟩,
 some ⟨.ptr 243,1,8,.undef,false,[],.flat⟩,
 some ⟨.struct [(0,17)],1,8,.agg [.undef],false,[],.flat⟩,
 some ⟨.struct [(0,17)],1,8,.agg [.undef],false,[],.flat⟩,
 none,
 some ⟨.int .i32,1,4,.int .i32 0,false,[],.flat⟩,
 some ⟨.slice 5,1,24,.nil,false,[.view 999 1 .flat []],.clean⟩,
 none,
 some ⟨.slice 49,1,24,.nil,false,[.view 999 25 .clean []],.clean⟩,
 some ⟨.struct [(0,24),(1,3)],2,32,.agg [.nil,.int .i64 0],false,[.view 999 25 .clean []],.clean⟩,
 some ⟨.struct [(0,24),(1,3)],2,32,.agg [.nil,.int .i64 0],false,[.view 999 25 .clean []],.clean⟩,
 none,
 none,
 none,
 none,
 some ⟨.struct [(0,9),(1,9)],2,32,.agg [.str [],.str []],false,[],.flat⟩,
 some ⟨.struct [(0,9),(1,9)],2,32,.agg [.str [],.str []],true,[],.flat⟩,
 some ⟨.slice 9,1,24,.nil,false,[.view 999 1 .flat []],.clean⟩,
 some ⟨.struct [(0,4),(1,33),(2,33),(3,33),(4,9)],5,96,.agg r2r,false,cv9,.clean⟩,
 some ⟨.struct [(0,4),(1,33),(2,33),(3,33),(4,9)],5,96,.agg r2r,false,cv9,.clean⟩,
 some ⟨.struct [(0,9)],1,16,.agg [.str []],false,[],.flat⟩,
 some ⟨.struct [(0,9)],1,16,.agg [.str []],true,[],.flat⟩,
 some ⟨.slice 68,1,24,.nil,false,[.view 999 4 .clean []],.clean⟩,
 some ⟨.slice 89,1,24,.nil,false,[.view 999 4 .clean []],.clean⟩,
 some ⟨.slice 3,1,24,.nil,false,[.view 999 1 .flat []],.clean⟩,
 some ⟨.struct [(0,39),(1,40)],2,48,.agg [.nil,.nil],false,f1x,.clean⟩,
 some ⟨.struct [(0,39),(1,40)],2,48,.agg [.nil,.nil],false,f1x,.clean⟩,
 some ⟨.slice 73,1,24,.nil,false,[.view 999 8 .flat []],.clean⟩,
 some ⟨.slice 76,1,24,.nil,false,[.view 999 5 .flat []],.clean⟩,
 some ⟨.slice 32,1,24,.nil,false,[.view 999 2 .flat []],.clean⟩,
 some ⟨.struct [(0,32),(2,35),(7,37),(8,38),(9,4),(10,42),(12,43),(13,44),(14,45),(15,3),(16,3),(17,3),(18,3),(19,45),(20,33),(21,4)],22,384,.agg cv6,false,cv1,.clean⟩,
 some ⟨.struct [(0,32),(2,35),(7,37),(8,38),(9,4),(10,42),(12,43),(13,44),(14,45),(15,3),(16,3),(17,3),(18,3),(19,45),(20,33),(21,4)],22,384,.agg cv6,false,cv1,.clean⟩,
 some ⟨.struct [(0,32),(2,47),(24,4)],25,424,.agg cv5,false,cv0,.clean⟩,
 some ⟨.struct [(0,32),(2,47),(24,4)],25,424,.agg cv5,false,cv0,.clean⟩,
 none,
 none,
 none,
 none,
 none,
 none,
 none,
 none,
 none,
 none,
 none,
 none,
 none,
 none,
 none,
 none,
 some ⟨.slice 86,1,24,.nil,false,[.view 999 2 .flat []],.clean⟩,
 some ⟨.struct [(0,3),(1,9),(2,66),(3,9)],4,64,.agg r2s,false,q1v,.clean⟩,
 some ⟨.struct [(0,3),(1,9),(2,66),(3,9)],4,64,.agg r2s,false,q1v,.clean⟩,
 none,
 none,
 none,
 some ⟨.struct [(0,3),(1,32),(3,9),(4,3),(5,4),(6,3),(7,9)],8,96,.agg cv7,false,[],.flat⟩,
 some ⟨.struct [(0,3),(1,32),(3,9),(4,3),(5,4),(6,3),(7,9)],8,96,.agg cv7,true,[],.flat⟩,
 none,
 some ⟨.struct [(0,32),(2,4),(3,3),(4,9)],5,64,.agg r2o,false,[],.flat⟩,
 some ⟨.struct [(0,32),(2,4),(3,3),(4,9)],5,64,.agg r2o,true,[],.flat⟩,
 none,
 none,
 none,
 some ⟨.ptr 97,1,8,.undef,false,[],.flat⟩,
 none,
 none,
 none,
 none,
 some ⟨.struct [(0,9),(1,9)],2,32,.agg [.str [],.str []],false,[],.flat⟩,
 some ⟨.struct [(0,9),(1,9)],2,32,.agg [.str [],.str []],true,[],.flat⟩,
 none,
 some ⟨.struct [(0,9),(1,9),(2,3),(3,66)],4,64,.agg r2t,false,c2u,.clean⟩,
 some ⟨.struct [(0,9),(1,9),(2,3),(3,66)],4,64,.agg r2t,false,c2u,.clean⟩,
 none,
 none,
 none,
 none,
 none,
 none,
 some ⟨.struct [(0,22),(1,3),(2,3)],3,40,.agg r2v,false,[.view 999 1 .flat []],.clean⟩,
 some ⟨.struct [(0,22),(1,3),(2,3)],3,40,.agg r2v,false,[.view 999 1 .flat []],.clean⟩,
 none,
 none,
 none,
 some ⟨.slice 135,1,24,.nil,false,[.view 999 2 .clean []],.clean⟩,
 none,
 none,
 none,
 none,
 none,
 none,
 none,
 none,
 some ⟨.int .u64,1,8,.int .u64 0,false,[],.flat⟩,
 none,
 none,
 some ⟨.slice 116,1,24,.nil,false,[.view 999 5 .flat []],.clean⟩,
 none,
 some ⟨.struct [(0,3),(1,32),(3,9),(4,9)],5,72,.agg r2q,false,[],.flat⟩,
 some ⟨.struct [(0,3),(1,32),(3,9),(4,9)],5,72,.agg r2q,true,[],.flat⟩,
 none,
 some ⟨.struct [(0,3),(1,3),(2,9),(3,3),(4,4),(5,9)],6,64,.agg r2n,false,[],.flat⟩,
 some ⟨.struct [(0,3),(1,3),(2,9),(3,3),(4,4),(5,9)],6,64,.agg r2n,true,[],.flat⟩,
 none,
 none,
 none,
 none,
 none,
 none,
 none,
 none,
 none,
 none,
 none,
 none,
 none,
 some ⟨.slice 137,1,24,.nil,false,[.view 999 7 .flat []],.clean⟩,
 some ⟨.struct [(0,9),(1,133)],2,40,.agg [.str [],.nil],false,[.undef,.view 999 7 .flat []],.clean⟩,
 some ⟨.struct [(0,9),(1,133)],2,40,.agg [.str [],.nil],false,[.undef,.view 999 7 .flat []],.clean⟩,
 some ⟨.struct [(0,9),(1,119)],7,80,.agg cv8,false,[],.flat⟩,
 some ⟨.struct [(0,9),(1,119)],7,80,.agg cv8,true,[],.flat⟩,
 none,
 none,
 none,
 none,
 none,
 none,
 none,
 none,
 none,
 none,
 none,
 none,
 none,
 none,
 none,
 none,
 none,
 none,
 none,
 none,
 none,
 none,
 none,
 none,
 none,
 none,
 none,
 none,
 none,
 none,
 none,
 none,
 none,
 some ⟨.slice 196,1,24,.nil,false,[.view 999 2 .flat []],.clean⟩,
 none,
 none,
 none,
 none,
 some ⟨.slice 203,1,24,.nil,false,[.view 999 1 .clean []],.clean⟩,
 none,
 none,
 none,
 none,
 none,
 none,
 none,
 none,
 none,
 none,
 none,
 none,
 none,
 none,
 none,
 none,
 none,
 none,
 none,
 some ⟨.struct [(0,3),(1,9)],2,24,.agg [.int .i64 0,.str []],true,[],.flat⟩,
 none,
 none,
 none,
 none,
 some ⟨.slice 224,1,24,.nil,false,[.view 999 2 .flat []],.clean⟩,
 none,
 some ⟨.struct [(0,201)],1,24,.agg [.nil],false,[.view 999 2 .flat []],.clean⟩,
 none,
 none,
 none,
 none,
 none,
 none,
 none,
 none,
 none,
 none,
 none,
 none,
 none,
 none,
 none,
 none,
 none,
 none,
 none,
 none,
 some ⟨.struct [(0,9),(1,3)],2,24,.agg [.str [],.int .i64 0],true,[],.flat⟩,
 none,
 none,
 none,
 none,
 none,
 some ⟨.struct [(0,17),(1,17),(2,17),(3,9)],4,40,.agg [.undef,.undef,.undef,.str []],false,[],.flat⟩,
 some ⟨.array 0 16,0,0,.agg [],false,[],.flat⟩,
 none,
 some ⟨.struct [(0,231)],0,0,.agg [],false,[],.flat⟩,
 none,
 some ⟨.int .u32,1,4,.int .u32 0,false,[],.flat⟩,
 some ⟨.int .u8,1,1,.int .u8 0,false,[],.flat⟩,
 some ⟨.int .u8,1,1,.int .u8 0,false,[],.flat⟩,
 none,
 some ⟨.ptr 5,1,8,.undef,false,[],.flat⟩,
 some ⟨.int .i32,1,4,.int .i32 0,false,[],.flat⟩,
 some ⟨.int .i32,1,4,.int .i32 0,false,[],.flat⟩]
def pzL:List (Nat × List (List V)):=[(3,[[.view 999 1 .flat []]]),
 (4,[[.view 999 1 .flat []]]),
 (5,[[.view 999 1 .flat []]]),
 (6,[[.view 999 25 .clean []]]),
 (7,[[.view 999 25 .clean []],[.view 999 25 .clean []]]),
 (8,[[.view 999 25 .clean []]]),
 (9,[[.view 999 25 .clean []]]),
 (10,[cv1,cv1]),
 (11,[[.view 999 1 .flat []]]),
 (12,[[.view 999 25 .clean []],cv1]),
 (13,[[.view 999 25 .clean []]]),
 (14,[[.view 999 25 .clean []]]),
 (15,[[.view 999 1 .flat []]]),
 (16,[[.view 999 25 .clean []],[]]),
 (17,[cv1]),
 (18,[[.view 999 25 .clean []],cv1]),
 (19,[[.view 999 1 .flat []]]),
 (20,[[.view 999 25 .clean []]]),
 (21,[[.view 999 25 .clean []]]),
 (23,[cv0,cv0]),
 (24,[[.view 999 25 .clean []]]),
 (26,[cv1]),
 (27,[[.view 999 25 .clean []],[]]),
 (28,[[.view 999 25 .clean []]]),
 (29,[cv9,cv9]),
 (31,[q1v,q1v]),
 (32,[f1x,f1x]),
 (33,[[.view 999 8 .flat []],[.view 999 8 .flat []]]),
 (34,[[.view 999 5 .flat []],[.view 999 5 .flat []]]),
 (35,[[.view 999 2 .flat []],[.view 999 2 .flat []]]),
 (36,[[.view 999 1 .flat []],[.view 999 1 .flat []]]),
 (37,[[.view 999 1 .flat []]]),
 (38,[cv1]),
 (39,[[.view 999 25 .clean []]]),
 (40,[[.view 999 25 .clean []]]),
 (41,[[.view 999 1 .flat []]]),
 (44,[cv1]),
 (45,[cv1]),
 (46,[cv1]),
 (47,[[.view 999 2 .flat []],[.view 999 2 .flat []]]),
 (49,[c2u,c2u]),
 (50,[[.view 999 1 .flat []],[.view 999 1 .flat []]]),
 (52,[cv9]),
 (53,[[.view 999 4 .clean []]]),
 (54,[f1x]),
 (56,[[],[.view 999 1 .flat []]]),
 (59,[cv9]),
 (60,[[.view 999 4 .clean []]]),
 (61,[f1x]),
 (64,[q1v]),
 (66,[[.view 999 25 .clean []],cv1]),
 (68,[[.view 999 25 .clean []],[]]),
 (70,[[.view 999 2 .flat []]]),
 (73,[cv1]),
 (74,[cv1]),
 (75,[cv1,[],[]]),
 (76,[[.view 999 2 .clean []],[]]),
 (77,[[],[.view 999 1 .flat []]]),
 (80,[[.view 999 2 .clean []],[],[]]),
 (82,[cv1,[]]),
 (85,[cv1]),
 (86,[cv1]),
 (87,[cv1]),
 (88,[cv1]),
 (89,[cv1,[]]),
 (90,[cv1]),
 (91,[cv1,[]]),
 (92,[cv1,[],[]]),
 (93,[cv1,[],[]]),
 (94,[[.view 999 2 .clean []],[]]),
 (96,[[.undef,.view 999 7 .flat []],[]]),
 (98,[[.undef,.view 999 7 .flat []]]),
 (100,[cv9]),
 (106,[cv1]),
 (107,[cv1,[],[]]),
 (108,[f1x,[]]),
 (109,[cv1]),
 (110,[cv1]),
 (111,[cv1]),
 (112,[cv1,[]]),
 (113,[cv1,[]]),
 (114,[cv1,[]]),
 (116,[cv1,[]]),
 (117,[cv9,[],[]]),
 (118,[cv9,[],[]]),
 (119,[cv1,[]]),
 (120,[cv1,[]]),
 (121,[cv1,[],[]]),
 (126,[cv9]),
 (127,[[],[.view 999 1 .flat []]]),
 (135,[f1x,[.view 999 1 .clean []],[.view 999 2 .flat []]]),
 (136,[cv1]),
 (138,[f1x,q1v]),
 (139,[cv1,q1v,[]]),
 (140,[cv1,[]]),
 (141,[cv1,[]]),
 (142,[cv1,[]]),
 (144,[[.view 999 2 .flat []],[]]),
 (146,[cv9,[]]),
 (151,[[.view 999 1 .flat []]]),
 (154,[[.view 999 2 .flat []],[]]),
 (156,[f1x,[.view 999 1 .clean []],[]]),
 (158,[f1x,[]]),
 (160,[cv1,[],[],[],[]]),
 (161,[cv9,[]]),
 (162,[cv1,[]]),
 (163,[cv1,[],[.view 999 2 .flat []],[.view 999 2 .flat []]]),
 (166,[cv9,[],[]]),
 (171,[f1x,[]]),
 (172,[[.view 999 1 .clean []],[]]),
 (174,[[.view 999 1 .flat []],[]]),
 (175,[[.view 999 1 .flat []]]),
 (176,[[.view 999 1 .flat []]]),
 (1000041,[[],[.view 999 1 .flat []]]),
 (1000042,[[.own 0 1 .flat []]]),
 (1000043,[[.own 0 1 .flat []],[]]),
 (1000051,[[.own 0 1 .flat []]]),
 (1000055,[[.own 0 1 .flat []]]),
 (1000056,[[.own 0 1 .flat []],[.view 999 1 .flat []]]),
 (1000057,[[.own 0 1 .flat []]]),
 (1000058,[[.own 0 1 .flat []]]),
 (1000062,[[.own 0 1 .flat []]]),
 (1000063,[[.own 0 1 .flat []]]),
 (1000067,[[.own 0 1 .flat []],[]]),
 (1000069,[[.own 0 1 .flat []]]),
 (1000071,[[.own 0 1 .flat []]]),
 (1000072,[[.own 0 1 .flat []]]),
 (1000077,[[.own 0 1 .flat []],[.view 999 1 .flat []]]),
 (1000081,[[.own 0 1 .flat []],[]]),
 (1000083,[[.own 0 1 .flat []]]),
 (1000084,[[.own 0 1 .flat []]]),
 (1000099,[[.own 0 1 .flat []],[]]),
 (1000101,[[.own 0 1 .flat []]]),
 (1000104,[[.own 0 1 .flat []],[]]),
 (1000114,[cv4,[]]),
 (1000124,[[.own 0 1 .flat []]]),
 (1000125,[[.own 0 1 .flat []],[]]),
 (1000128,[[.own 0 1 .flat []]]),
 (1000139,[cv4,q1v,[]]),
 (1000140,[cv4,[]]),
 (1000150,[[.own 0 1 .flat []]]),
 (1000158,[[.own 0 4 .clean [],.own 0 1 .flat []],[]]),
 (1000163,[[.own 0 2 .flat [],.own 0 2 .flat []],cv1,[]])]
def rzL:List (Nat × List V):=[(5,[.own 0 25 .clean []]),
 (6,[.own 0 25 .clean []]),
 (8,[.own 0 25 .clean []]),
 (11,[.own 0 25 .clean [],.undef,.undef,.undef,.undef,.own 0 1 .flat [],.own 0 1 .flat [],.own 0 1 .flat [],.undef,.undef,.own 0 4 .clean [],.undef,.own 0 4 .clean [],.own 0 1 .flat [],.own 0 8 .flat [],.own 0 5 .flat [],.own 0 2 .flat [],.undef,.undef,.undef,.undef,.own 0 2 .flat [],.own 0 1 .flat []]),
 (12,[.own 0 25 .clean []]),
 (13,cv4),
 (14,cv4),
 (15,[.own 0 25 .clean []]),
 (16,[.own 0 25 .clean []]),
 (18,[.own 0 25 .clean []]),
 (19,[.own 0 25 .clean []]),
 (20,[.own 0 25 .clean []]),
 (24,[.own 0 25 .clean []]),
 (27,[.own 0 25 .clean []]),
 (37,[.own 0 25 .clean [],.undef,.undef,.undef,.undef,.own 0 1 .flat [],.own 0 1 .flat [],.own 0 1 .flat [],.undef,.undef,.own 0 4 .clean [],.undef,.own 0 4 .clean [],.own 0 1 .flat [],.own 0 8 .flat [],.own 0 5 .flat [],.own 0 2 .flat [],.undef,.undef,.undef,.undef,.own 0 2 .flat [],.own 0 1 .flat []]),
 (38,cv4),
 (39,cv4),
 (40,cv4),
 (42,[.own 0 25 .clean []]),
 (45,cv4),
 (51,cv4),
 (52,h2v),
 (53,[.own 0 4 .clean []]),
 (54,[.own 0 4 .clean [],.own 0 1 .flat []]),
 (55,[.own 0 25 .clean []]),
 (59,h2v),
 (60,[.own 0 4 .clean []]),
 (61,[.own 0 4 .clean [],.own 0 1 .flat []]),
 (62,[.undef,.undef,.undef,.own 0 1 .flat [],.own 0 1 .flat [],.own 0 1 .flat [],.undef,.undef,.own 0 4 .clean [],.undef,.own 0 4 .clean [],.own 0 1 .flat [],.own 0 8 .flat [],.own 0 5 .flat [],.own 0 2 .flat [],.undef,.undef,.undef,.undef,.own 0 2 .flat [],.own 0 1 .flat [],.undef,.own 0 2 .clean []]),
 (64,r2u),
 (65,[.own 0 25 .clean []]),
 (66,[.view 0 25 .clean []]),
 (68,[.own 0 25 .clean []]),
 (70,[.own 0 2 .flat []]),
 (71,[.own 0 2 .clean []]),
 (72,cv4),
 (73,cv4),
 (74,[.own 0 5 .flat []]),
 (75,cv4),
 (80,[.own 0 2 .clean []]),
 (82,cv4),
 (83,cv4),
 (85,cv4),
 (86,cv3),
 (87,cv4),
 (88,[.own 0 1 .flat []]),
 (90,[.own 0 1 .flat []]),
 (92,cv4),
 (93,cv4),
 (101,h2v),
 (102,[.own 0 4 .clean []]),
 (103,[.undef,.undef,.undef,.view 0 1 .flat [],.view 0 1 .flat [],.view 0 1 .flat [],.undef,.undef,.own 0 4 .clean [],.undef,.own 0 4 .clean [],.own 0 1 .flat [],.own 0 8 .flat [],.own 0 5 .flat [],.own 0 2 .flat [],.undef,.undef,.undef,.undef,.own 0 2 .flat [],.own 0 1 .flat []]),
 (105,[.own 0 4 .clean []]),
 (107,cv4),
 (109,cv3),
 (111,[.own 0 1 .flat []]),
 (113,cv4),
 (114,cv4),
 (119,[.own 0 2 .flat []]),
 (120,cv4),
 (121,cv4),
 (128,[.own 0 1 .flat []]),
 (130,r2u),
 (131,[.undef,.view 0 1 .flat [],.view 0 1 .flat [],.view 0 1 .flat []]),
 (133,[.own 0 4 .clean [],.own 0 1 .flat []]),
 (134,[.own 0 2 .flat []]),
 (135,[.own 0 4 .clean [],.own 0 1 .flat [],.undef,.own 0 1 .flat []]),
 (136,[.own 0 1 .clean []]),
 (137,[.own 0 4 .clean []]),
 (138,[.own 0 4 .clean [],.view 0 1 .flat []]),
 (139,cv4),
 (140,cv4),
 (141,[.own 0 2 .flat []]),
 (145,[.own 0 2 .flat [],.own 0 2 .flat []]),
 (153,[.own 0 1 .flat []]),
 (156,[.own 0 4 .clean [],.own 0 1 .flat []]),
 (157,[.own 0 2 .flat []]),
 (158,[.own 0 4 .clean [],.own 0 1 .flat []]),
 (160,cv4),
 (162,cv4),
 (163,[.own 0 2 .flat [],.own 0 2 .flat []]),
 (169,[.own 0 1 .flat []]),
 (176,[.own 0 1 .flat []]),
 (1000041,[.own 0 1 .flat []]),
 (1000042,[.view 0 25 .clean [],.undef,.own 0 1 .flat []]),
 (1000043,[.undef,.own 0 1 .flat []]),
 (1000051,cv2),
 (1000055,[.own 0 25 .clean [],.undef,.own 0 1 .flat []]),
 (1000056,[.undef,.own 0 1 .flat []]),
 (1000057,[.undef,.undef,.own 0 1 .flat []]),
 (1000058,[.undef,.own 0 1 .flat []]),
 (1000062,[.undef,.undef,.undef,.own 0 1 .flat [],.own 0 1 .flat [],.own 0 1 .flat [],.undef,.undef,.own 0 4 .clean [],.undef,.own 0 4 .clean [],.own 0 1 .flat [],.own 0 8 .flat [],.own 0 5 .flat [],.own 0 2 .flat [],.undef,.undef,.undef,.undef,.own 0 2 .flat [],.own 0 1 .flat [],.undef,.own 0 2 .clean [],.own 0 1 .flat []]),
 (1000063,[.undef,.own 0 1 .flat []]),
 (1000067,[.undef,.own 0 1 .flat []]),
 (1000069,[.undef,.own 0 1 .flat []]),
 (1000071,[.own 0 2 .clean [],.own 0 1 .flat []]),
 (1000072,cv2),
 (1000077,[.undef,.own 0 1 .flat []]),
 (1000081,[.undef,.undef,.undef,.undef,.undef,.undef,.own 0 1 .flat []]),
 (1000083,cv2),
 (1000084,[.undef,.own 0 1 .flat []]),
 (1000099,[.undef,.own 0 1 .flat []]),
 (1000101,[.undef,.own 0 1 .flat [],.own 0 1 .flat [],.own 0 1 .flat [],.undef,.own 0 1 .flat []]),
 (1000104,[.undef,.own 0 1 .flat []]),
 (1000114,cv4),
 (1000124,[.undef,.own 0 1 .flat []]),
 (1000125,[.undef,.own 0 1 .flat []]),
 (1000128,[.own 0 1 .flat [],.own 0 1 .flat []]),
 (1000139,cv3),
 (1000140,cv3),
 (1000150,[.undef,.own 0 1 .flat []]),
 (1000158,[.own 0 4 .clean [],.view 0 1 .flat []]),
 (1000163,[.own 0 2 .flat [],.own 0 2 .flat []])]
def fgL:List (Nat × List (Nat × List Nat × List Nat × List Nat)):=[(3,[(8,[1,2,6,7,8,9,10,11,12,13,14,15,16,17,18,19,20,21,22,23,24,25,26,27,28,29,30,31,32,33,34,35,36,37,38,39,40,41,42,43,44,45,46,47,48,49,50,51,52,53,54,55,56,57,58,59,60,61,62,63,64,65,66,67,68,69,70,71,72,73,74,75,76,77,78,79,80,81,82,83,84,85,86,87,88,89,90,91,92,93,94,95,96,97,98,99,100,101,102,103,104,105,106,107,108,109,110,111,112,113,114,115,116,117,118,119,120,121,122,123,124,125,126,127,128,129,130,131,132,133,134,135,136,137,138,139,140,141,142,143,144,145,146,147,148,149,150],[6,7,8,9,11,13,15],[]),(1008,[1,3,4,5,6,7,8,9,10,11,12,13,14,15,16,17,18,19,20,21,22,23,24,25,26,27,28,29,30,31,32,33,34,35,36,37,38,39,40,41,42,43,44,45,46,47,48,49,50,51,52,53,54,55,56,57,58,59,60,61,62,63,64,65,66,67,68,69,70,71,72,73,74,75,76,77,78,79,80,81,82,83,84,85,86,87,88,89,90,91,92,93,94,95,96,97,98,99,100,101,102,103,104,105,106,107,108,109,110,111,112,113,114,115,116,117,118,119,120,121,122,123,124,125,126,127,128,129,130,131,132,133,134,135,136,137,138,139,140,141,142,143,144,145,146,147,148,149,150],[3,4,6,7,8,9,11,13,15],[])]),
 (6,[(5,[0,1,5,6,7,8,9,10,11,12,13,14,15,16,17,18,19,20,21,22,23,24,25,26,27,28,29,30,31,32,33,34,35,36,37,38,39,40,41,42,43,44,45,46,47,48,49,50,51],[1],[]),(1005,[0,1,4,5,6,7,8,9,10,11,12,13,14,15,16,17,18,19,20,21,22,23,24,25,26,27,28,29,30,31,32,33,34,35,36,37,38,39,40,41,42,43,44,45,46,47,48,49,50,51],[1],[])]),
 (8,[(5,[0,5,6,7,8,9,10,11,12,13,14,15,16,17,18,19,20,21,22,23,24,25,26,27,28,29,30,31,32,33,34,35,36,37,38,39,40,41,42,43,44,45,46,47,48,49,50,51,52,53,54,55,56],[],[]),(1005,[0,1,4,5,6,7,8,9,10,11,12,13,14,15,16,17,18,19,20,21,22,23,24,25,26,27,28,29,30,31,32,33,34,35,36,37,38,39,40,41,42,43,44,45,46,47,48,49,50,51,52,53,54,55,56],[1],[])]),
 (9,[(3,[0,1,2,4,5,6,10,11,12,13,14,15,16,17,18],[1,5],[]),(1003,[0,1,2,4,5,6,7,8,9,10,11,12,13,14,15,16,17,18],[1,5],[])]),
 (12,[(3,[],[],[0,2,4])]),
 (15,[(3,[],[],[2])]),
 (18,[(4,[],[],[0,2,4])]),
 (20,[(3,[0,1,4,5,6,7,8,9,13,14,15,16,17,18,19,20,21,22,23,24,25,26,27],[1,5,1002006000051],[]),(1003,[0,1,4,5,6,7,8,9,10,11,12,13,14,15,16,17,18,19,20,21,22,23,24,25,26,27],[1,5],[])]),
 (22,[(4,[0,3,4,5,6,7,8,9,10,11,12,13,14,18,19,20,21,22,23,24,25,26,27,28,29,30,31],[8,9],[]),(1004,[0,1,2,3,4,5,7,8,9,10,11,12,13,14,15,16,17,18,19,20,21,22,23,24,25,26,27,28,29,30,31],[8,9],[])]),
 (24,[(3,[0,5,6,7,8,9,10,11,12,13,14,15,16,17,18,19,20,21,22,23,24,25,26,27,28,29,30,31,32,33,34,35],[5,1002006000051],[]),(1003,[0,1,4,5,6,7,8,9,10,11,12,13,14,15,16,17,18,19,20,21,22,23,24,25,26,27,28,29,30,31,32,33,34,35],[1,5],[])]),
 (28,[(3,[0,2,5,6,7,8,9,10,11,12,13,14,15,16,17,18,19,20],[],[]),(1003,[0,1,2,4,5,6,7,8,9,10,11,12,13,14,15,16,17,18,19,20],[1],[])]),
 (30,[(4,[0,3,4,5,6,7,8,9,10,11,12,13,14,18,19,20,21,22,23,24,25,26,27,28,29,30,31],[8,9],[]),(1004,[0,1,2,3,4,5,7,8,9,10,11,12,13,14,15,16,17,18,19,20,21,22,23,24,25,26,27,28,29,30,31],[8,9],[])]),
 (33,[(4,[2,3,4,5,6,7,8,9,10,11,14,15,16,17,18,19,20,21,22,23,24,25],[],[]),(1004,[0,1,2,3,5,6,7,8,9,10,11,12,13,14,15,16,17,18,19,20,21,22,23,24,25],[],[])]),
 (34,[(4,[2,3,4,5,6,7,8,9,10,11,14,15,16,17,18,19,20,21,22,23,24,25],[],[]),(1004,[0,1,2,3,5,6,7,8,9,10,11,12,13,14,15,16,17,18,19,20,21,22,23,24,25],[],[])]),
 (35,[(4,[2,3,4,5,6,7,8,9,10,11,14,15,16,17,18,19,20,21,22,23,24,25],[],[]),(1004,[0,1,2,3,5,6,7,8,9,10,11,12,13,14,15,16,17,18,19,20,21,22,23,24,25],[],[])]),
 (36,[(4,[2,3,4,5,6,7,8,9,10,11,14,15,16,17,18,19,20,21,22,23,24,25],[],[]),(1004,[0,1,2,3,5,6,7,8,9,10,11,12,13,14,15,16,17,18,19,20,21,22,23,24,25],[],[])]),
 (41,[(3,[1,2,5,6,7,8,9,10,11,12,13,14,15,16,17,18,19,20,21,22,23,24,25,26,27,28,29,30,31],[31],[]),(1003,[1,2,4,5,6,7,8,9,10,11,12,13,14,15,16,17,18,19,20,21,22,23,24,25,26,27,28,29,30,31],[31],[])]),
 (42,[(7,[],[],[0])]),
 (47,[(4,[2,3,4,5,6,7,8,9,10,11,14,15,16,17,18,19,20,21,22,23,24,25],[],[]),(1004,[0,1,2,3,5,6,7,8,9,10,11,12,13,14,15,16,17,18,19,20,21,22,23,24,25],[],[])]),
 (48,[(4,[0,3,4,5,6,7,8,9,10,11,12,13,14,18,19,20,21,22,23,24,25,26,27,28,29,30,31],[8,9],[]),(1004,[0,1,2,3,4,5,7,8,9,10,11,12,13,14,15,16,17,18,19,20,21,22,23,24,25,26,27,28,29,30,31],[8,9],[])]),
 (50,[(4,[2,3,4,5,6,7,8,9,10,11,14,15,16,17,18,19,20,21,22,23,24,25],[],[]),(1004,[0,1,2,3,5,6,7,8,9,10,11,12,13,14,15,16,17,18,19,20,21,22,23,24,25],[],[])]),
 (53,[(3,[0,1,2,4,5,6,10,11,12,13,14,15,16,17,18,19],[5],[]),(1003,[0,1,2,4,5,6,7,8,9,10,11,12,13,14,15,16,17,18,19],[5],[])]),
 (54,[(3,[0,1,4,5,6,7,8,9,10,11,15,16,17,18,19,20,21,22,23,24,25,26,27,28,29,30],[1,5,1002006000009],[]),(1003,[0,1,4,5,6,7,8,9,10,11,12,13,14,15,16,17,18,19,20,21,22,23,24,25,26,27,28,29,30],[1,5],[])]),
 (55,[(3,[1,5,6,7,8,9,10,11,12,13,14,15,16,17,18,19,20,21,22,23,24],[],[]),(1003,[0,1,4,5,6,7,8,9,10,11,12,13,14,15,16,17,18,19,20,21,22,23,24],[],[])]),
 (59,[(1,[],[],[0,3,7,11,14])]),
 (60,[(3,[1,2,5,6,7,8,9,10,11,12,13,14,15,16,17,18,19,20,21,22,23,24,25,26,27,28],[5],[]),(1003,[0,1,2,4,5,6,7,8,9,10,11,12,13,14,15,16,17,18,19,20,21,22,23,24,25,26,27,28],[5],[])]),
 (61,[(3,[0,5,6,7,8,9,10,11,12,13,14,15,16,17,18,19,20,21,22,23,24,25,26,27,28,29,30,31,32,33,34,35,36,37],[5,1002006000009],[]),(1003,[0,1,4,5,6,7,8,9,10,11,12,13,14,15,16,17,18,19,20,21,22,23,24,25,26,27,28,29,30,31,32,33,34,35,36,37],[1,5],[])]),
 (62,[(6,[1,3,7,8,9,10,11,12,13,14,15,16,17,18,19,20,21,22,23,24,25,26,27,28,29,30,31,32,33,34,35,36,37,38,39,40,41,42,43,44,45,46,47,48,49,50,51,52,53,54,55,56,57,58,59,60,61,62,63],[8],[]),(1006,[1,3,6,7,8,9,10,11,12,13,14,15,16,17,18,19,20,21,22,23,24,25,26,27,28,29,30,31,32,33,34,35,36,37,38,39,40,41,42,43,44,45,46,47,48,49,50,51,52,53,54,55,56,57,58,59,60,61,62,63],[8],[])]),
 (66,[(2,[],[],[0,2,5,12]),(3,[],[],[0,2,9]),(2003,[],[1010010000051],[])]),
 (71,[(3,[1,2,4,5,6,7,8,9,13,14,15,16,17,18,19,20,21,22,23,24,25,26,27,28,29,30,31,32,33,34,35,36,37,38,39,40,41,42,43,44,45,46,47,48,49,50,51,52,53,54,55,56,57,58,59,60,61,62,63,64,65,66,67,68,69,70,71,72,73,74,75,76,77,78,79,80,81,82,83,84],[],[]),(6,[1,2,4,6,7,8,9,13,14,15,19,20,21,22,23,24,25,26,27,28,29,30,31,32,33,34,35,36,37,38,39,40,41,42,43,44,45,46,47,48,49,50,51,52,53,54,55,56,57,58,59,60,61,62,63,64,65,66,67,68,69,70,71,72,73,74,75,76,77,78,79,80,81,82,83,84],[],[]),(1003,[1,2,4,5,6,7,8,9,10,11,12,13,14,15,16,17,18,19,20,21,22,23,24,25,26,27,28,29,30,31,32,33,34,35,36,37,38,39,40,41,42,43,44,45,46,47,48,49,50,51,52,53,54,55,56,57,58,59,60,61,62,63,64,65,66,67,68,69,70,71,72,73,74,75,76,77,78,79,80,81,82,83,84],[],[]),(1006,[1,2,4,6,7,8,9,13,14,15,16,17,18,19,20,21,22,23,24,25,26,27,28,29,30,31,32,33,34,35,36,37,38,39,40,41,42,43,44,45,46,47,48,49,50,51,52,53,54,55,56,57,58,59,60,61,62,63,64,65,66,67,68,69,70,71,72,73,74,75,76,77,78,79,80,81,82,83,84],[],[])]),
 (73,[(3,[0,1,5,6,7,8,9,10,11,12,13,14,15,16,17,18,19,20,21,22,23,24,25,26,27,28,29],[1,5,1006006016009,1006006022002],[]),(1003,[0,1,4,5,6,7,8,9,10,11,12,13,14,15,16,17,18,19,20,21,22,23,24,25,26,27,28,29],[1,5],[])]),
 (74,[(4,[0,2,6,7,8,9,10,11,12,13,14,15,16,17,18,19,20,21,22,23,24,25,26,27,28,29,30,31,32,33,34,35,36,37,38,39,40,41,42,43],[],[]),(9,[0,2,4,5,8,9,10,11,12,13,14,15,16,17,18,19,20,21,22,23,24,25,26,27,28,29,30,31,32,33,34,35,36,37,38,39,40,41,42,43],[],[]),(1004,[0,2,4,5,6,7,8,9,10,11,12,13,14,15,16,17,18,19,20,21,22,23,24,25,26,27,28,29,30,31,32,33,34,35,36,37,38,39,40,41,42,43],[],[]),(1009,[0,1,2,4,5,6,7,8,9,10,11,12,13,14,15,16,17,18,19,20,21,22,23,24,25,26,27,28,29,30,31,32,33,34,35,36,37,38,39,40,41,42,43],[1],[])]),
 (80,[(9,[],[],[7])]),
 (84,[(3,[1,2,5,6,7,8,9,10,11,12,13,14,15,16,17,18,19,20,21,22,23,24,25,26,27],[],[]),(1003,[1,2,4,5,6,7,8,9,10,11,12,13,14,15,16,17,18,19,20,21,22,23,24,25,26,27],[],[])]),
 (85,[(4,[],[],[0,2,6])]),
 (86,[(4,[],[],[1,3]),(17,[],[],[1])]),
 (87,[(10,[],[],[1])]),
 (88,[(3,[0,2,5,6,7,8,9,10,11,12,13,14,15,16,17,18,19,20,21,22,23,24],[],[]),(1003,[0,1,2,4,5,6,7,8,9,10,11,12,13,14,15,16,17,18,19,20,21,22,23,24],[1],[])]),
 (89,[(4,[],[],[0,3,5,8])]),
 (90,[(3,[0,2,5,6,7,8,9,10,11,12,13,14,15,16,17,18,19,20,21,22,23,24],[],[]),(1003,[0,1,2,4,5,6,7,8,9,10,11,12,13,14,15,16,17,18,19,20,21,22,23,24],[1],[])]),
 (91,[(3,[],[],[0,6])]),
 (92,[(7,[],[],[0,3]),(8,[],[],[0,3]),(11,[0,1,2,3,4,5,8,9,11,13,14,15,16,17,18,19,20,21,22,23,24,25,26,27,28,29,30,31,32,33,34,35,36,37,38,39,40,41,42,43,44,45,46,47,48,49,50,51,52,53,54,55,56,57,58,59,60,61,62,63,64,65,66,67,68,69,70,71,72,73,74,75,76,77,78],[3,4,5,9],[]),(1011,[0,1,2,3,4,5,8,9,10,11,12,13,14,15,16,17,18,19,20,21,22,23,24,25,26,27,28,29,30,31,32,33,34,35,36,37,38,39,40,41,42,43,44,45,46,47,48,49,50,51,52,53,54,55,56,57,58,59,60,61,62,63,64,65,66,67,68,69,70,71,72,73,74,75,76,77,78],[3,4,5,9],[])]),
 (93,[(3,[0,1,2,9,10,11,12,13,14,15,16,17,18,19,20,21,22,23,24,25,26,27,28,29,30,31,32,33,34,35,36,37,38,39],[],[]),(1003,[0,1,2,3,4,5,8,9,10,11,12,13,14,15,16,17,18,19,20,21,22,23,24,25,26,27,28,29,30,31,32,33,34,35,36,37,38,39],[3,4,5],[])]),
 (94,[(2,[2,3,4,6,7,8,9,10,11,12,13,14,15,16,17,18,19],[],[]),(1002,[0,1,2,3,5,6,7,8,9,10,11,12,13,14,15,16,17,18,19],[],[])]),
 (96,[(2,[0,3,4,6,7,8,9,10,11,12,13,14,15,16,17,18,19,20,21],[],[]),(1002,[0,1,2,3,5,6,7,8,9,10,11,12,13,14,15,16,17,18,19,20,21],[2],[])]),
 (98,[(2,[0,2,4,5,6,7,8,9,10,11,12,13,14,15,16,17,18,19,20,21,22,23,24,25,26,27,28,29,30,31,32,33,34,35,36,37,38,39,40,41,42,43,44,45,46,47,48,49,50,51,52,53,54,55,56],[],[]),(7,[0,2,5,6,7,8,9,10,11,12,13,14,15,16,17,18,19,20,21,22,23,24,25,26,27,28,29,30,31,32,33,34,35,36,37,38,39,40,41,42,43,44,45,46,47,48,49,50,51,52,53,54,55,56],[],[]),(1002,[0,3,4,5,6,7,8,9,10,11,12,13,14,15,16,17,18,19,20,21,22,23,24,25,26,27,28,29,30,31,32,33,34,35,36,37,38,39,40,41,42,43,44,45,46,47,48,49,50,51,52,53,54,55,56],[],[]),(1007,[0,4,5,6,7,8,9,10,11,12,13,14,15,16,17,18,19,20,21,22,23,24,25,26,27,28,29,30,31,32,33,34,35,36,37,38,39,40,41,42,43,44,45,46,47,48,49,50,51,52,53,54,55,56],[],[])]),
 (102,[(3,[0,1,2,3,4,8,9,10,11,12,13,14,15,16,17,18,19,20,21,22,23,24,25,26,27,28,29,30,31,32,33,34,35,36,37,38,39,40,41,42,43,44,45,46,47,48,49,50,51,52,53,54,55,56,57,58,59,60,61,62,63,64,65],[2,10],[]),(1003,[0,1,2,3,6,7,8,9,10,11,12,13,14,15,16,17,18,19,20,21,22,23,24,25,26,27,28,29,30,31,32,33,34,35,36,37,38,39,40,41,42,43,44,45,46,47,48,49,50,51,52,53,54,55,56,57,58,59,60,61,62,63,64,65],[2,10],[])]),
 (104,[(3,[1,2,3,4,7,8,9,10,11,12,13,14,15,16,17,18,19,20,21,22,23,24],[],[]),(1003,[0,1,2,3,4,6,7,8,9,10,11,12,13,14,15,16,17,18,19,20,21,22,23,24],[],[])]),
 (106,[(2,[0,2,4,5,6,7,8,9,10,11,12,13,14,15,16,17,18,19,20,21,22,23,24,25,26],[],[]),(1002,[0,1,3,4,5,6,7,8,9,10,11,12,13,14,15,16,17,18,19,20,21,22,23,24,25,26],[1],[])]),
 (107,[(7,[],[],[0]),(10,[0,1,3,4,5,8,9,10,14,15,16,17,18,19,20,21,22,23,24,25,26,27,28,29,30,31,32,33,34,35,36,37,38,39,40,41,42,43,44,45,46,47,48,49,50,51,52,53,54,55,56,57,58,59,60,61,62,63,64,65,66,67,68,69,70,71,72,73],[3,10],[]),(12,[],[],[0,8]),(14,[],[],[2,5]),(1010,[0,1,3,4,5,8,9,10,12,13,14,15,16,17,18,19,20,21,22,23,24,25,26,27,28,29,30,31,32,33,34,35,36,37,38,39,40,41,42,43,44,45,46,47,48,49,50,51,52,53,54,55,56,57,58,59,60,61,62,63,64,65,66,67,68,69,70,71,72,73],[3,10],[])]),
 (108,[(3,[0,3,4,7,8,9,10,11,12,13,14,15,16,17,18,19,20,21,22,23,24,25,26,27,28,29,30,31,32,33,34,35,36,37,38,39],[],[]),(1003,[0,1,2,3,4,6,7,8,9,10,11,12,13,14,15,16,17,18,19,20,21,22,23,24,25,26,27,28,29,30,31,32,33,34,35,36,37,38,39],[2],[])]),
 (111,[(3,[0,2,5,6,7,8,9,10,11,12,13,14,15,16,17,18,19,20,21,22,23,24],[],[]),(1003,[0,1,2,4,5,6,7,8,9,10,11,12,13,14,15,16,17,18,19,20,21,22,23,24],[1],[])]),
 (112,[(3,[0,1,3,4,7,8,9,10,11,12,13,14,15,16,17,18,19,20,21,22,23,24,25,26,27,28,29,30,31,32,33],[3],[]),(1003,[0,1,2,3,5,6,7,8,9,10,11,12,13,14,15,16,17,18,19,20,21,22,23,24,25,26,27,28,29,30,31,32,33],[2,3],[])]),
 (113,[(6,[0,1,2,3,8,9,10,11,12,13,14,15,16,17,18,19,20,21,22,23,24,25,26,27,28,29,30,31,32,33,34,35,36,37,38,39,40,41,42,43,44,45,46,47,48,49,50,51,52,53,54,55,56,57,58,59,60,61,62,63,64,65,66,67,68,69,70,71,72,73,74,75,76,77,78,79,80,81,82,83,84,85,86,87,88,89,90,91,92,93,94,95],[2,3,11],[]),(9,[],[],[0,8]),(11,[],[],[0]),(14,[0,1,2,3,8,9,10,11,12,15,16,17,18,19,20,21,22,23,24,25,26,27,28,29,30,31,32,33,34,35,36,37,38,39,40,41,42,43,44,45,46,47,48,49,50,51,52,53,54,55,56,57,58,59,60,61,62,63,64,65,66,67,68,69,70,71,72,73,74,75,76,77,78,79,80,81,82,83,84,85,86,87,88,89,90,91,92,93,94,95],[2,3,11],[]),(1006,[0,1,2,3,6,7,8,9,10,11,12,13,14,15,16,17,18,19,20,21,22,23,24,25,26,27,28,29,30,31,32,33,34,35,36,37,38,39,40,41,42,43,44,45,46,47,48,49,50,51,52,53,54,55,56,57,58,59,60,61,62,63,64,65,66,67,68,69,70,71,72,73,74,75,76,77,78,79,80,81,82,83,84,85,86,87,88,89,90,91,92,93,94,95],[2,3,11],[]),(1014,[0,1,2,3,8,9,10,11,12,13,14,15,16,17,18,19,20,21,22,23,24,25,26,27,28,29,30,31,32,33,34,35,36,37,38,39,40,41,42,43,44,45,46,47,48,49,50,51,52,53,54,55,56,57,58,59,60,61,62,63,64,65,66,67,68,69,70,71,72,73,74,75,76,77,78,79,80,81,82,83,84,85,86,87,88,89,90,91,92,93,94,95],[2,3,11],[])]),
 (116,[(2,[0,1,4,6,7,8,9,10,11,12,13,14,15,16,17,18,19,20,21],[],[]),(1002,[0,1,2,3,5,6,7,8,9,10,11,12,13,14,15,16,17,18,19,20,21],[2,3],[])]),
 (120,[(3,[0,1,7,8,9,10,11,12,13,14,15,16,17,18,19,20,21,22,23,24,25,26,27,28,29,30,31,32,33,34,35,36,37,38,39,40,41,42,43,44,45,46,47,48,49,50,51,52,53,54,55,56,57,58,59,60,61,62,63,64,65,66,67,68,69,70,71,72,73,74,75],[7],[]),(1003,[0,1,7,8,9,10,11,12,13,14,15,16,17,18,19,20,21,22,23,24,25,26,27,28,29,30,31,32,33,34,35,36,37,38,39,40,41,42,43,44,45,46,47,48,49,50,51,52,53,54,55,56,57,58,59,60,61,62,63,64,65,66,67,68,69,70,71,72,73,74,75],[7],[])]),
 (121,[(6,[],[],[0,3]),(7,[],[],[0,3])]),
 (122,[(2,[1,2,4,5,6,7,8,9,10,11,12,13,14,15,16,17,18,19,20,21,22],[],[]),(1002,[1,3,4,5,6,7,8,9,10,11,12,13,14,15,16,17,18,19,20,21,22],[],[])]),
 (124,[(3,[1,2,5,6,7,8,9,10,11,12,13,14,15,16,17,18,19,20,21,22],[],[]),(1003,[0,1,2,4,5,6,7,8,9,10,11,12,13,14,15,16,17,18,19,20,21,22],[],[])]),
 (125,[(3,[1,2,3,4,7,8,9,10,11,12,13,14,15,16,17,18,19,20,21,22,23,24,25,26,27,28,29,30,31,32,33,34,35],[],[]),(1003,[1,2,3,4,6,7,8,9,10,11,12,13,14,15,16,17,18,19,20,21,22,23,24,25,26,27,28,29,30,31,32,33,34,35],[],[])]),
 (127,[(2,[2,3,4,6,7,8,9,10,11,12,13,14,15,16,17,18,19],[],[]),(1002,[1,2,3,4,5,6,7,8,9,10,11,12,13,14,15,16,17,18,19],[],[])]),
 (128,[(3,[1,2,4,5,6,10,11,12,13,14,15,16,17,18,19,20],[],[]),(1003,[0,1,2,4,5,6,7,8,9,10,11,12,13,14,15,16,17,18,19,20],[],[])]),
 (129,[(2,[2,3,4,6,7,8,9,10,11,12,13,14,15,16,17,18,19],[],[]),(1002,[1,2,3,5,6,7,8,9,10,11,12,13,14,15,16,17,18,19],[],[])]),
 (130,[(10,[0,1,3,7,8,9,10,11,12,13,14,15,16,17,18,19,20,21,22,23,24,25,26,27,28,29,30,31,32,33,34,35,36,37,38,39,40,41,42,43,44,45,46,47,48,49,50,51,52,53,54,55,56,57,58,59,60,61,62,63,64,65,66,67,68,69,70,71,72,73,74,75,76,77,78,79,80,81,82,83,84,85,86,87,88,89,90,91,92,93,94,95,96,97,98,99],[1002010004004],[]),(18,[],[],[0,11]),(1010,[0,1,4,6,7,8,9,10,11,12,13,14,15,16,17,18,19,20,21,22,23,24,25,26,27,28,29,30,31,32,33,34,35,36,37,38,39,40,41,42,43,44,45,46,47,48,49,50,51,52,53,54,55,56,57,58,59,60,61,62,63,64,65,66,67,68,69,70,71,72,73,74,75,76,77,78,79,80,81,82,83,84,85,86,87,88,89,90,91,92,93,94,95,96,97,98,99],[],[])]),
 (134,[(6,[0,1,2,3,7,8,9,10,11,12,13,14,15,16,17,18,19,20,21,22,23,24,25,26,27,28,29,30,31,32,33,34,35,36,37,38,39,40,41],[7],[]),(1006,[0,1,5,6,7,8,9,10,11,12,13,14,15,16,17,18,19,20,21,22,23,24,25,26,27,28,29,30,31,32,33,34,35,36,37,38,39,40,41],[7],[])]),
 (135,[(5,[0,3,4,5,7,8,13,14,15,16,17,18,19,20,21,22,23,24,25,26,27,28,29,30,31,32,33,34,35,36,37,38,39,40,41,42,43,44,45,46,47,48],[3,13],[]),(1005,[0,1,2,3,4,5,7,8,12,13,14,15,16,17,18,19,20,21,22,23,24,25,26,27,28,29,30,31,32,33,34,35,36,37,38,39,40,41,42,43,44,45,46,47,48],[3,13],[])]),
 (136,[(3,[0,2,5,6,7,8,9,10,11,12,13,14,15,16,17,18,19,20,21,22,23,24,25,26,27,28,29,30,31,32,33,34,35,36,37],[5],[]),(1003,[0,1,2,4,5,6,7,8,9,10,11,12,13,14,15,16,17,18,19,20,21,22,23,24,25,26,27,28,29,30,31,32,33,34,35,36,37],[1,5],[])]),
 (142,[(3,[0,1,3,4,7,8,9,10,11,12,13,14,15,16,17,18,19,20,21,22,23,24,25,26,27,28],[3],[]),(1003,[0,1,2,3,5,6,7,8,9,10,11,12,13,14,15,16,17,18,19,20,21,22,23,24,25,26,27,28],[2,3],[])]),
 (144,[(2,[1,2,4,6,7,8,9,10,11,12,13,14,15,16,17],[],[]),(1002,[0,1,2,3,5,6,7,8,9,10,11,12,13,14,15,16,17],[3],[])]),
 (145,[(3,[0,2,3,4,5,6,9,10,11,12,13,14,15,16,17,18,19,20,21,22,23,24,25,26,27,28,29,30,31,32,33,34,35,36,37,38,39,40,41,42,43,44,45,46,47,48,49,50,51,52,53,54,55,56,57,58,59],[10],[]),(1003,[0,1,2,3,9,10,11,12,13,14,15,16,17,18,19,20,21,22,23,24,25,26,27,28,29,30,31,32,33,34,35,36,37,38,39,40,41,42,43,44,45,46,47,48,49,50,51,52,53,54,55,56,57,58,59],[10],[])]),
 (151,[(2,[1,2,4,5,6,7,8,9,10,11,12,13,14,15,16,17,18],[],[]),(1002,[1,3,4,5,6,7,8,9,10,11,12,13,14,15,16,17,18],[],[])]),
 (152,[(2,[1,2,4,5,6,7,8,9,10,11,12,13,14,15,16,17,18,19,20,21,22,23,24,25,26,27,28,29,30,31,32,33,34,35,36,37,38,39,40],[],[]),(1002,[1,3,4,5,6,7,8,9,10,11,12,13,14,15,16,17,18,19,20,21,22,23,24,25,26,27,28,29,30,31,32,33,34,35,36,37,38,39,40],[],[])]),
 (153,[(4,[2,3,4,8,9,10,11,12,13,14,15,16,17,18,19,20,21,22,23,24,25,26,27,28,29,30,31,32,33,34,35],[],[]),(1004,[0,1,2,3,4,6,7,8,9,10,11,12,13,14,15,16,17,18,19,20,21,22,23,24,25,26,27,28,29,30,31,32,33,34,35],[],[])]),
 (154,[(2,[2,3,4,5,7,8,9,10,11,12,13,14,15,16,17,18,19,20,21,22,23,24],[],[]),(1002,[0,1,2,3,6,7,8,9,10,11,12,13,14,15,16,17,18,19,20,21,22,23,24],[],[])]),
 (155,[(3,[1,3,6,7,8,9,10,11,12,13,14,15,16,17,18,19,20,21,22,23,24,25,26,27,28,29,30,31,32,33,34,35,36,37,38,39,40,41,42,43,44,45,46,47,48,49,50,51,52,53,54,55,56,57,58,59,60,61,62],[7],[]),(9,[],[],[3,12]),(1003,[0,1,4,5,6,7,8,9,10,11,12,13,14,15,16,17,18,19,20,21,22,23,24,25,26,27,28,29,30,31,32,33,34,35,36,37,38,39,40,41,42,43,44,45,46,47,48,49,50,51,52,53,54,55,56,57,58,59,60,61,62],[7],[])]),
 (156,[(4,[],[],[1]),(10,[],[],[1,6]),(12,[],[],[1,6]),(14,[],[],[1])]),
 (157,[(4,[0,1,6,7,8,9,10,11,12,13,14,15,16,17,18,19,20,21,22,23,24,25,26,27,28,29,30,31,32,33,34,35,36,37,38,39,40,41,42,43,44,45,46,47,48,49,50,51,52,53,54,55,56,57,58,59,60,61],[1002006000004],[]),(10,[],[],[0,9]),(1004,[0,1,4,5,6,7,8,9,10,11,12,13,14,15,16,17,18,19,20,21,22,23,24,25,26,27,28,29,30,31,32,33,34,35,36,37,38,39,40,41,42,43,44,45,46,47,48,49,50,51,52,53,54,55,56,57,58,59,60,61],[],[])]),
 (158,[(2,[0,3,6,7,8,9,10,11,12,13,14,15,16,17,18,19,20,21,22,23,24,25,26,27,28,29,30,31,32,33,34,35,36,37,38,39,40,41,42],[],[]),(1002,[0,1,3,5,6,7,8,9,10,11,12,13,14,15,16,17,18,19,20,21,22,23,24,25,26,27,28,29,30,31,32,33,34,35,36,37,38,39,40,41,42],[],[])]),
 (163,[(6,[0,1,6,7,8,9,11,13,14,15,16,17,18,19,20,21,22,23,24,25,26,27,28,29,30,31,32,33,34,35,36,37,38,39,40,41,42,43,44,45,46,47,48,49,50,51,52,53],[],[]),(1006,[0,1,4,6,7,8,9,10,11,12,13,14,15,16,17,18,19,20,21,22,23,24,25,26,27,28,29,30,31,32,33,34,35,36,37,38,39,40,41,42,43,44,45,46,47,48,49,50,51,52,53],[4],[])]),
 (164,[(3,[1,2,3,5,8,9,10,11,12,13,14,15,16,17,18,19,20,21,22,23,24,25,26,27,28,29,30,31,32,33],[],[]),(1003,[0,1,2,3,5,7,8,9,10,11,12,13,14,15,16,17,18,19,20,21,22,23,24,25,26,27,28,29,30,31,32,33],[],[])]),
 (167,[(5,[1,2,5,6,7,8,9,10,11,12,13,14,15,16,17,18,19,20,21,22,23,24,25,26,27,28,29,30],[],[]),(1005,[1,2,4,5,6,7,8,9,10,11,12,13,14,15,16,17,18,19,20,21,22,23,24,25,26,27,28,29,30],[],[])]),
 (170,[(3,[0,1,2,5,6,7,8,9,10,11,12,13,14,15,16,17,18,19,20,21,22,23,24,25,26,27,28],[],[]),(1003,[0,1,2,4,5,6,7,8,9,10,11,12,13,14,15,16,17,18,19,20,21,22,23,24,25,26,27,28],[],[])]),
 (171,[(3,[0,3,4,7,8,9,10,11,12,13,14,15,16,17,18,19,20,21,22,23,24],[],[]),(1003,[0,1,2,3,4,6,7,8,9,10,11,12,13,14,15,16,17,18,19,20,21,22,23,24],[2],[])]),
 (172,[(2,[2,3,4,6,7,8,9,10,11,12,13,14,15,16,17,18,19,20,21,22,23,24,25,26,27,28,29,30,31,32,33,34,35,36,37,38,39,40,41,42,43,44],[],[]),(5,[2,3,4,7,8,9,10,11,12,13,14,15,16,17,18,19,20,21,22,23,24,25,26,27,28,29,30,31,32,33,34,35,36,37,38,39,40,41,42,43,44],[],[]),(1002,[0,1,2,3,5,6,7,8,9,10,11,12,13,14,15,16,17,18,19,20,21,22,23,24,25,26,27,28,29,30,31,32,33,34,35,36,37,38,39,40,41,42,43,44],[],[]),(1005,[2,3,6,7,8,9,10,11,12,13,14,15,16,17,18,19,20,21,22,23,24,25,26,27,28,29,30,31,32,33,34,35,36,37,38,39,40,41,42,43,44],[],[])]),
 (173,[(5,[1,2,3,6,7,8,9,10,11,12,13,14,15,16,17,18,19,20,21,22,23,24,25,26,27,28,29,30,31,32,33,34,35,36,37,38],[],[]),(1005,[1,5,6,7,8,9,10,11,12,13,14,15,16,17,18,19,20,21,22,23,24,25,26,27,28,29,30,31,32,33,34,35,36,37,38],[],[])]),
 (174,[(2,[2,3,4,6,7,8,9,10,11,12,13,14,15,16,17],[],[]),(1002,[0,1,2,3,5,6,7,8,9,10,11,12,13,14,15,16,17],[],[])]),
 (175,[(3,[1,2,5,6,7,8,9,10,11,12,13,14,15,16,17,18,19,20,21],[],[]),(1003,[0,1,2,4,5,6,7,8,9,10,11,12,13,14,15,16,17,18,19,20,21],[],[])]),
 (176,[(3,[1,2,5,6,7,8,9,10,11,12,13,14,15,16,17,18,19,20,21,22],[],[]),(1003,[0,1,2,4,5,6,7,8,9,10,11,12,13,14,15,16,17,18,19,20,21,22],[],[])]),
 (1000041,[(3,[1,2,5,6,7,8,9,10,11,12,13,14,15,16,17,18,19,20,21,22,23,24,25,26,27,28,29,30,31],[31],[]),(1003,[1,2,4,5,6,7,8,9,10,11,12,13,14,15,16,17,18,19,20,21,22,23,24,25,26,27,28,29,30,31],[31],[])]),
 (1000042,[(7,[],[],[0]),(2007,[],[1010006000051],[]),(2010,[],[1010006000051],[])]),
 (1000055,[(3,[1,5,6,7,8,9,10,11,12,13,14,15,16,17,18,19,20,21,22,23,24],[1006006000051],[]),(1003,[0,1,4,5,6,7,8,9,10,11,12,13,14,15,16,17,18,19,20,21,22,23,24],[],[])]),
 (1000062,[(6,[1,3,7,8,9,10,11,12,13,14,15,16,17,18,19,20,21,22,23,24,25,26,27,28,29,30,31,32,33,34,35,36,37,38,39,40,41,42,43,44,45,46,47,48,49,50,51,52,53,54,55,56,57,58,59,60,61,62,63],[8,1006010016009,1006010022002],[]),(1006,[1,3,6,7,8,9,10,11,12,13,14,15,16,17,18,19,20,21,22,23,24,25,26,27,28,29,30,31,32,33,34,35,36,37,38,39,40,41,42,43,44,45,46,47,48,49,50,51,52,53,54,55,56,57,58,59,60,61,62,63],[8],[])]),
 (1000071,[(3,[1,2,4,5,6,7,8,9,13,14,15,16,17,18,19,20,21,22,23,24,25,26,27,28,29,30,31,32,33,34,35,36,37,38,39,40,41,42,43,44,45,46,47,48,49,50,51,52,53,54,55,56,57,58,59,60,61,62,63,64,65,66,67,68,69,70,71,72,73,74,75,76,77,78,79,80,81,82,83,84],[],[]),(6,[1,2,4,6,7,8,9,13,14,15,19,20,21,22,23,24,25,26,27,28,29,30,31,32,33,34,35,36,37,38,39,40,41,42,43,44,45,46,47,48,49,50,51,52,53,54,55,56,57,58,59,60,61,62,63,64,65,66,67,68,69,70,71,72,73,74,75,76,77,78,79,80,81,82,83,84],[],[]),(1003,[1,2,4,5,6,7,8,9,10,11,12,13,14,15,16,17,18,19,20,21,22,23,24,25,26,27,28,29,30,31,32,33,34,35,36,37,38,39,40,41,42,43,44,45,46,47,48,49,50,51,52,53,54,55,56,57,58,59,60,61,62,63,64,65,66,67,68,69,70,71,72,73,74,75,76,77,78,79,80,81,82,83,84],[],[]),(1006,[1,2,4,6,7,8,9,13,14,15,16,17,18,19,20,21,22,23,24,25,26,27,28,29,30,31,32,33,34,35,36,37,38,39,40,41,42,43,44,45,46,47,48,49,50,51,52,53,54,55,56,57,58,59,60,61,62,63,64,65,66,67,68,69,70,71,72,73,74,75,76,77,78,79,80,81,82,83,84],[],[])]),
 (1000084,[(3,[1,2,5,6,7,8,9,10,11,12,13,14,15,16,17,18,19,20,21,22,23,24,25,26,27],[],[]),(1003,[1,2,4,5,6,7,8,9,10,11,12,13,14,15,16,17,18,19,20,21,22,23,24,25,26,27],[],[])]),
 (1000104,[(3,[1,2,3,4,7,8,9,10,11,12,13,14,15,16,17,18,19,20,21,22,23,24],[],[]),(1003,[0,1,2,3,4,6,7,8,9,10,11,12,13,14,15,16,17,18,19,20,21,22,23,24],[],[])]),
 (1000124,[(3,[1,2,5,6,7,8,9,10,11,12,13,14,15,16,17,18,19,20,21,22],[],[]),(1003,[0,1,2,4,5,6,7,8,9,10,11,12,13,14,15,16,17,18,19,20,21,22],[],[])]),
 (1000125,[(3,[1,2,3,4,7,8,9,10,11,12,13,14,15,16,17,18,19,20,21,22,23,24,25,26,27,28,29,30,31,32,33,34,35],[],[]),(1003,[1,2,3,4,6,7,8,9,10,11,12,13,14,15,16,17,18,19,20,21,22,23,24,25,26,27,28,29,30,31,32,33,34,35],[],[])]),
 (1000128,[(3,[1,2,4,5,6,10,11,12,13,14,15,16,17,18,19,20],[],[]),(1003,[0,1,2,4,5,6,7,8,9,10,11,12,13,14,15,16,17,18,19,20],[],[])]),
 (1000158,[(2,[0,3,6,7,8,9,10,11,12,13,14,15,16,17,18,19,20,21,22,23,24,25,26,27,28,29,30,31,32,33,34,35,36,37,38,39,40,41,42],[],[]),(1002,[0,1,3,5,6,7,8,9,10,11,12,13,14,15,16,17,18,19,20,21,22,23,24,25,26,27,28,29,30,31,32,33,34,35,36,37,38,39,40,41,42],[],[])]),
 (1000163,[(6,[0,1,6,7,8,9,11,13,14,15,16,17,18,19,20,21,22,23,24,25,26,27,28,29,30,31,32,33,34,35,36,37,38,39,40,41,42,43,44,45,46,47,48,49,50,51,52,53],[],[]),(1006,[0,1,4,6,7,8,9,10,11,12,13,14,15,16,17,18,19,20,21,22,23,24,25,26,27,28,29,30,31,32,33,34,35,36,37,38,39,40,41,42,43,44,45,46,47,48,49,50,51,52,53],[4],[])])]
def wrL:List (Nat × Option Wr):=[]
def ioL:List (Nat × Option Io):=[(41,some ⟨[.data],32,0,true⟩),(42,some ⟨[.pt],37,1,false⟩),(43,some ⟨[.pt,.data],31,1,false⟩),(51,some ⟨[.pt],15,1,false⟩),(55,some ⟨[.pt],25,1,false⟩),(56,some ⟨[.pt,.data],12,1,false⟩),(57,some ⟨[.pt],10,1,false⟩),(58,some ⟨[.pt],58,1,false⟩),(62,some ⟨[.pt],64,1,false⟩),(63,some ⟨[.pt],6,1,false⟩),(67,some ⟨[.pt,.data],9,1,false⟩),(69,some ⟨[.pt],6,1,false⟩),(71,some ⟨[.pt],85,1,false⟩),(72,some ⟨[.pt],15,1,false⟩),(77,some ⟨[.pt,.data],12,1,false⟩),(81,some ⟨[.pt,.data],23,1,false⟩),(83,some ⟨[.pt],15,1,false⟩),(84,some ⟨[.pt],28,1,false⟩),(99,some ⟨[.pt,.data],27,1,false⟩),(101,some ⟨[.pt],18,1,false⟩),(104,some ⟨[.pt,.data],25,1,false⟩),(114,some ⟨[.mv,.data],16,0,false⟩),(124,some ⟨[.pt],23,1,false⟩),(125,some ⟨[.pt,.data],36,1,false⟩),(128,some ⟨[.pt],21,1,false⟩),(139,some ⟨[.mv,.data,.data],60,0,false⟩),(140,some ⟨[.mv,.data],82,0,false⟩),(150,some ⟨[.pt],48,1,false⟩),(158,some ⟨[.mv,.data],43,0,false⟩),(163,some ⟨[.data,.data,.mv,.mv],54,0,false⟩)]
def cfg:Cfg:=⟨λ t=>tys.getD t none,λ f i=>b0c i ([],[],[]) (b0c f [] fgL),λ f=>b0c f [] pzL,λ f=>b0c f [] rzL,λ f=>b0c f none wrL,λ f=>b0c f none ioL⟩
theorem l0h:b0l Go.Proofs.Tryz.prog cfg:=n1j tys (λ _=>rfl) (by kernel_rfl)
theorem w2g:g1y Go.Proofs.Tryz.prog cfg:=l1i λ _=>rfl
def t2v:Nat→List V→Option V:=t1i [(170,t1x)]
noncomputable def D1:Nat→List V→Option V:=den Go.Proofs.Tryz.prog cfg t2v
noncomputable def t2u:Nat→List V→Option V:=t1i [(80,d2s (D1 94) (D1 96) (D1 98)),(170,t1x)]
noncomputable abbrev D:Nat→List V→Option V:=den Go.Proofs.Tryz.prog cfg t2u
end Go.Am
end

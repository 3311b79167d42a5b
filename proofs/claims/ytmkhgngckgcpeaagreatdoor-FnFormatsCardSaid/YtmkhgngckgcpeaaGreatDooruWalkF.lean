/-
  Proved: lemmas for Rows.FnFormatsCardSaid.
-/
import Derived.Test.YtmkhgngckgcpeaaGreatDooruAmExt8
import Derived.Tactics
import Derived.Tactics2
import Derived.WalkKit
import Derived.WalkSpells
import Derived.StillTactics
import Derived.OwnWalk
import Derived.Laws.Pointers
import Derived.Deep.LoopGhost
import Derived.Deep.RegionHeld3
import Derived.Deep.RegionLaw
import Derived.Deep.MidRow
set_option linter.all false
namespace Go.Proofs
open Go Go.Am Go.RowKit
theorem iw {P:Program}(w:World)(t c e:TypeId)(i:TypeInfo)(d:P.underlying t=some (.slice e))(f:P.info? e=some i)(p:Addr)(b:Option Addr)(a:Nat) :
  (Builtin.append_ #[t,t] c #[.slice (some p) 0 0,.slice b 0 a]).run P w = .ok (.slice (some p) 0 0) w:=by cases b<;>simp[Builtin.append_,run_underlying d,sizeOf,typeInfo,f,storeCells,loadCells,loadCellsFrom,Builtin.lenOf,Builtin.firstCells]
theorem nT {P:Program}(w:World){ops:Array Oper}{o:Oper}{a:Act}{K:Act->World->Prop}{Q:Exit->Act->World->Prop}{E:Prop}(d:o.guard=none)(s x:Operand)(t:TypeId)
  (k:o.op = .call { callee:=.builtin .append,args:=#[s,x],argTypes:=#[t,t] }) (e:TypeId) (i:TypeInfo) (l:P.underlying t=some (.slice e)) (g:P.info? e=some i) (p:Addr) (b:Option Addr) (c:Nat)
  (hs:a.eval s = .slice (some p) 0 0) (f:a.eval x = .slice b 0 c) (h:K (a.put o.dst (.slice (some p) 0 0)) w) :
  if Region.wanted o (yielded ops a.tmps)=true then Oper.wp P o a w K Q else E:=by
 have j:Region.wanted o (yielded ops a.tmps)=true:=by simp[Region.wanted,d]
 rw[if_pos j];unfold Oper.wp execOp;simp only[k,resolve,invoke,builtin,Sem.run_bind,Sem.run_pure,Result.andThen_ok,List.map_toArray,List.map_cons,List.map_nil,hs,f,iw w t o.type e i l g p b c];exact h
theorem Tryz.infoSv:(Tryz.prog.info? 136).map (λi=>(i.zero,i.size,i.bytes))=some (some (.agg #[.string ByteArray.empty,.slice none 0 0]),2,40):=by kernel_rfl
theorem Tryz.infoFl:(Tryz.prog.info? 138).map (λi=>(i.zero,i.size,i.bytes))=some (some (.agg #[.string ByteArray.empty,.int .i64 0,.int .i64 0,.string ByteArray.empty,.int .i64 0,.bool false,.string ByteArray.empty]),7,80):=by kernel_rfl
set_option maxHeartbeats 4000000 in
set_option maxRecDepth 100000 in
theorem Tryz.l12Copy (v:Value)(ys:List Sv)(w:World)(hs:SSrc w 7 v ys)(hn:ys.length<=1099511627776)(hm:∀(i:Nat) (h:List UInt8) (fs:List V),ys[i]?=some (h,fs)->fs.length<=1099511627776) :
    Calls Tryz.prog 107 #[v] w λe w'=>∃v' xs,e = .returned v'/\NS w' w.heap.size 136 138 7 v' ys xs/\Kept w w':=by
  obtain⟨iS,hiS,hS0,hS1,hS2⟩:=info_parts Tryz.infoSv;obtain⟨iF,hiF,hF0,hF1,hF2⟩:=info_parts Tryz.infoFl;have HS:Aside (SSrc w 7 v ys):=hs;have HN:Aside (∀(i:Nat) (h:List UInt8) (fs:List V),ys[i]?=some (h,fs)->fs.length<=1099511627776):=hm;obtain⟨va,vc,rfl⟩:∃a c,v = .slice a ys.length c:=by
    rcases hs with⟨rfl,a,c,rfl⟩|⟨k,o,c,rfl,_⟩;·exact⟨a,c,rfl⟩
    ·exact⟨_,c,rfl⟩
  clear hs hm;have A0:Aside (Kept w (w.alloc (.cells #[] 136 (0,0)))):=Kept.al w _;have O0:Aside ((w.alloc (.cells #[] 136 (0,0))).ownsRow w.heap.size 136 2 (.slice (some ⟨w.heap.size,0,none⟩) 0 0) 0 []):=⟨rfl,.inr ⟨w.heap.size,0,#[],rfl,Nat.le_refl _,(show(w.heap.push _)[w.heap.size]?=_ by simp),Nat.le_refl _,Nat.zero_le _,rfl,rfl⟩⟩
  go_enter Tryz.func107,Tryz.ntmps107
  go_wp2
  go_loopg [3,4] ys.length (λg s3 s4 wr=>∃(i:Nat) (xs:List Value),s4 = .int .i64 (i:Int)/\i<=ys.length/\ys.length-i<=g/\Aside (NS wr w.heap.size 136 138 7 s3 (ys.take i) xs)/\Aside (Kept w wr))
  case atStart=>exact⟨0,[],rfl,Nat.zero_le _,by omega,NS.nil O0.out,A0.out⟩
  case round=>
    obtain⟨i,xs,rfl,hi,hg,hNS,hK⟩:=hrel;by_cases hlt:i<ys.length
    · obtain⟨k,o,he,h0,hk,hrow⟩:∃(k o:Nat),va=some ⟨k,o,none⟩/\0<ys.length/\k<w.heap.size /\ ∀(i:Nat) (h:List UInt8) (fs:List V),ys[i]?=some (h,fs) -> ∃hb sv,hb.data.toList=h/\w.cell? ⟨k,o+i*2,none⟩=some (.string hb)/\w.cell? ⟨k,o+i*2+1,none⟩=some sv/\FSrc w 7 sv fs:=by
        rcases HS.out with⟨rfl,_⟩|⟨k,o,c,e,h⟩;·simp at hlt
        ·injection e with e1 e2 e3;exact⟨k,o,e1,h⟩
      subst he;obtain⟨hb,sv,hbh,c0,c1,hF⟩:=hrow i ys[i].1 ys[i].2 (by rw[List.getElem?_eq_getElem hlt]);have hkw:wr.heap[k]?=w.heap[k]?:=hK.out.2.2.2.2 k hk;have c0':wr.cell? ⟨k,o+i*2,none⟩=some (.string hb):=by rw[<-c0];simp only[World.cell?,hkw]
      have c1':wr.cell? ⟨k,o+i*2+1,none⟩=some sv:=by rw[<-c1];simp only[World.cell?,hkw]
      have hF:=hF.kept hK.out;have hl0:(0:Int)<=(i:Int):=Int.natCast_nonneg _;have hl1:(i:Int)<(ys.length:Int):=by omega
      clear hrow c0 c1 hkw
      go_wp2_with fail
      rcases hF with⟨hfs,a1,cc,rfl⟩|⟨kf,of,cf,zs,rfl,hf0,hfl,hkf,hzc⟩
      · have hile:(ys.take i).length=i:=by rw[List.length_take];omega
        have hown0:wr.ownsRow w.heap.size 136 2 u3 i xs:=by have:=hNS.out.own;rwa[hile]at this
        have hww:w.heap.size<=wr.heap.size:=hK.out.2.2.2.1;have hne3:some k≠u3.ownBlock:=λe=>by have:=(aZ hown0 e.symm).1;omega
        have hO2:Aside (∀(ob:Obj),((wr.alloc (.cells #[] 138 (0,0))).drew.alloc ob).ownsRow w.heap.size 136 2 u3 i xs):=λob=>bJ hown0 (λb e=>by
          have hlt:=(aZ hown0 e).2
          rw[aE _ ob (by simp;omega)]
          exact aE wr _ hlt)
        have hkr:k<wr.heap.size:=by omega
        have HBH:Aside (hb.data.toList=ys[i].1):=hbh;have HFS:Aside (ys[i].2=[]):=hfs;clear HS HN hown0 A0 O0 hbh hfs
        go_region_held3 (λw'=>w'.cell? ⟨k,o+i*2,none⟩=some (.string hb)/\w'.cell? ⟨k,o+i*2+1,none⟩=some (.slice a1 0 cc))
          (first
            |go_keep
            |(go_split_ands
              refine⟨?_,?_⟩
              · (rw[hgrow2.cell_far _ (by simp;omega) hne3];assumption)
              · (rw[hgrow2.cell_far _ (by simp;omega) hne3];assumption)))
          (first
            |(refine nT _ (by rfl) _ _ 134 (by rfl) 138 iF Tryz.underlying134 hiF ⟨wr.heap.size,0,none⟩ a1 cc (by rfl) (by rfl) ?_)
            |(refine step_append_lies _ (by rfl) _ _ 58 (by rfl) w.heap.size 136 iS _ 2 40 Tryz.underlying58 hiS hS0 hS1 hS2 rfl (by omega) u3 i xs (by rfl) (hO2.out _) ⟨wr.heap.size+1,0,none⟩ 1 1 [.string hb,.slice (some ⟨wr.heap.size,0,none⟩) 0 0] (by rfl) (by rfl) (World.news_of_block (B:=wr.heap.size+1) (cs:=#[.string hb,.slice (some ⟨wr.heap.size,0,none⟩) 0 0]) (t:=136) (fr:=(0,0)) (by have:=heap_alloc_new (wr.alloc (.cells #[] 138 (0,0))) (.cells #[.string hb,.slice (some ⟨wr.heap.size,0,none⟩) 0 0] 136 (0,0));rw[World.size_alloc]at this;exact this)) (by simp[Value.oneCell']) (by omega) (by unfold maxLen;omega) (by omega) (by simp;omega) _ rfl ?_;intro g2 cap2 w2 hown2 hgrow2 hat2 hlt2))
        go_wp2
        go_roundg (ys.length-(i+1))
        case measure=>omega
        case rel=>
          have h2s:=hgrow2.size;simp only[World.size_drew,World.size_alloc]at h2s;generalize hob:Obj.cells #[Value.string hb,Value.slice (some { block:=wr.heap.size,off:=0 }) 0 0] 136=ob at hown2 hgrow2 hat2;have hb1:∀b,b<wr.heap.size->((wr.alloc (.cells #[] 138 (0,0))).drew.alloc ob).heap[b]?=wr.heap[b]?:=λb hb=>(aE _ ob (by simp;omega)).trans (aE wr _ hb);have hN1:NS ((wr.alloc (.cells #[] 138 (0,0))).drew.alloc ob) w.heap.size 136 138 7 u3 (ys.take i) xs:=hNS.out.keep (λb _ hb _=>hb1 b hb);have hS1':((wr.alloc (.cells #[] 138 (0,0))).drew.alloc ob).ownsRow w.heap.size 138 7 (.slice (some ⟨wr.heap.size,0,none⟩) 0 0) ([]:List V).length []:=⟨rfl,.inr ⟨wr.heap.size,0,#[],rfl,hww,(aE _ ob (by simp)).trans (heap_alloc_new wr _),Nat.le_refl _,Nat.zero_le _,rfl,rfl⟩⟩;refine⟨i+1,xs++[.string hb,.slice (some ⟨wr.heap.size,0,none⟩) 0 0],rfl,by omega,Nat.le_refl _,(show Aside _ from ?_),(show Aside _ from ?_)⟩
          · have:=hN1.push (hh:=ys[i].1) (fs:=[]) (zs:=[]) HBH.out hS1' (FlatN.nil 7) (v':=.slice (some ⟨g2,0,none⟩) (i+1) cap2) (w':=w2) (by rw[List.length_take,Nat.min_eq_left hi];exact hown2) hgrow2 (λb e=>by injection e with e;subst e;rcases hat2 with e|e;exact .inl e;exact .inr (Nat.le_of_eq e.symm)) (λb e=>by
              injection e with e
              subst e
              exact⟨λe=>absurd (hNS.out.lt (.inl e)).2 (Nat.lt_irrefl _),λj e=>absurd (hNS.out.lt (.inr ⟨j,e⟩)).2 (Nat.lt_irrefl _)⟩)
            rw[<-HFS.out]at this;rw[<-List.take_append_getElem hlt];exact this
          ·refine⟨hgrow2.os.trans hK.out.1,hgrow2.tape.trans hK.out.2.1,hgrow2.output.trans hK.out.2.2.1,by omega,λb hb=>?_⟩;exact(hgrow2.block b (by simp;omega) (λe=>by have:=(aZ hNS.out.own e.symm).1;omega)).trans ((hb1 b (by omega)).trans (hK.out.2.2.2.2 b hb))
      · have hile:(ys.take i).length=i:=by rw[List.length_take];omega
        have hown0:wr.ownsRow w.heap.size 136 2 u3 i xs:=by have:=hNS.out.own;rwa[hile]at this
        have hww:w.heap.size<=wr.heap.size:=hK.out.2.2.2.1;have hE:Aside ((wr.alloc (.cells #[] 138 (0,0))).drew.ownsRow w.heap.size 138 7 (.slice (some ⟨wr.heap.size,0,none⟩) 0 0) 0 []):=⟨rfl,.inr ⟨wr.heap.size,0,#[],rfl,hww,heap_alloc_new wr _,Nat.le_refl _,Nat.zero_le _,rfl,rfl⟩⟩;have hZ:Aside (∀(j:Nat) (u:Value),zs[j]?=some u->(wr.alloc (.cells #[] 138 (0,0))).drew.cell? ((⟨kf,of,none⟩:Addr).add j)=some u):=λj u hu=>by rw[Addr.add_lit,<-hzc j u hu];exact World.cell?_of_block (a:=⟨kf,of+j,none⟩) (aE wr _ hkf)
        have h1z:Aside (∀u∈zs,u.oneCell'=true):=hfl.one;have hbl:Aside (∀(w1:World),(wr.alloc (.cells #[] 138 (0,0))).drew.grownBy w1 (some wr.heap.size) -> ∀b,b<wr.heap.size->w1.heap[b]?=wr.heap[b]?):=λw1 hg1 b hb=>(hg1.block b (by show b<(wr.heap.push _).size;simp;omega) (λe=>by injection e with e;omega)).trans (aE wr _ hb)
        have hO2:Aside (∀(w1:World) (ob:Obj),(wr.alloc (.cells #[] 138 (0,0))).drew.grownBy w1 (some wr.heap.size)->(w1.alloc ob).ownsRow w.heap.size 136 2 u3 i xs):=λw1 ob hg1=>bJ hown0 (λb e=>by
          have hlt:=(aZ hown0 e).2
          have h1:wr.heap.size<=w1.heap.size:=Nat.le_trans (by show wr.heap.size<=(wr.heap.push _).size;simp) hg1.size
          rw[aE w1 ob (by omega)]
          exact hbl.out w1 hg1 b hlt)
        have hne3:some k≠u3.ownBlock:=λe=>by have:=(aZ hown0 e.symm).1;omega
        have hL:ys[i].2.length<=1099511627776:=HN.out i ys[i].1 ys[i].2 (by rw[List.getElem?_eq_getElem hlt]);have hzl:=hfl.1;have hkr:k<wr.heap.size:=by omega
        have HS1:Aside (FlatN 7 ys[i].2 zs):=hfl;have HBH:Aside (hb.data.toList=ys[i].1):=hbh;clear HS HN hown0 hfl hzc A0 O0 hbh hkf
        go_region_held3 (λw'=>w'.cell? ⟨k,o+i*2,none⟩=some (.string hb)/\w'.cell? ⟨k,o+i*2+1,none⟩=some (.slice (some ⟨kf,of,none⟩) ys[i].2.length cf))
          (first
            |go_keep
            |(go_split_ands
              refine⟨?_,?_⟩
              · (rw[hgrow1.cell_far _ (by simp;omega) (by simp[Value.ownBlock];omega)];assumption)
              · (rw[hgrow1.cell_far _ (by simp;omega) (by simp[Value.ownBlock];omega)];assumption))
            |(go_split_ands
              refine⟨?_,?_⟩
              · (rw[hgrow2.cell_far _ (by have:=hgrow1.size;simp at this;simp;omega) hne3];assumption)
              · (rw[hgrow2.cell_far _ (by have:=hgrow1.size;simp at this;simp;omega) hne3];assumption)))
          (first
            |(refine step_append_lies _ (by rfl) _ _ 134 (by rfl) w.heap.size 138 iF _ 7 80 Tryz.underlying134 hiF hF0 hF1 hF2 rfl (by omega) (.slice (some ⟨wr.heap.size,0,none⟩) 0 0) 0 [] (by rfl) hE.out ⟨kf,of,none⟩ ys[i].2.length cf zs (by rfl) hzl hZ.out h1z.out hf0 (by unfold maxLen;omega) (by omega) (by show w.heap.size<=(wr.heap.push _).size;simp;omega) _ rfl ?_;intro g1 cap1 w1 hown1 hgrow1 hat1 hlt1)
            |(refine step_append_lies _ (by rfl) _ _ 58 (by rfl) w.heap.size 136 iS _ 2 40 Tryz.underlying58 hiS hS0 hS1 hS2 rfl (by omega) u3 i xs (by rfl) (hO2.out _ _ hgrow1) ⟨w1.heap.size,0,none⟩ 1 1 [.string hb,.slice (some ⟨g1,0,none⟩) ys[i].2.length cap1] (by rfl) (by rfl) (World.news_of_block (cs:=#[.string hb,.slice (some ⟨g1,0,none⟩) ys[i].2.length cap1]) (t:=136) (fr:=(0,0)) (heap_alloc_new w1 _)) (by simp[Value.oneCell']) (by omega) (by unfold maxLen;omega) (by omega) (by have:=hgrow1.size;simp at this;simp;omega) _ rfl ?_;intro g2 cap2 w2 hown2 hgrow2 hat2 hlt2))
        go_wp2
        go_roundg (ys.length-(i+1))
        case measure=>omega
        case rel=>
          rw[Nat.zero_add,List.nil_append]at hown1;have h1s:=hgrow1.size;have h2s:=hgrow2.size;simp only[World.size_drew,World.size_alloc]at h1s h2s;have hb1:=hbl.out w1 hgrow1;have hg1:wr.heap.size<=g1:=by
            rcases hat1 with e|e
            · have e:wr.heap.size=g1:=by injection e
              omega
            ·rw[e];simp
          generalize hob:Obj.cells #[Value.string hb,Value.slice (some { block:=g1,off:=0 }) ys[i].2.length cap1] 136=ob at hown2 hgrow2 hat2 h2s;have hN1:NS (w1.alloc ob) w.heap.size 136 138 7 u3 (ys.take i) xs:=hNS.out.keep (λb _ hb _=>(aE w1 ob (by omega)).trans (hb1 b hb));have hS1':(w1.alloc ob).ownsRow w.heap.size 138 7 (.slice (some ⟨g1,0,none⟩) ys[i].2.length cap1) ys[i].2.length zs:=bJ hown1 (λb e=>by injection e with e;subst e;exact aE w1 ob hlt1);refine⟨i+1,xs++[.string hb,.slice (some ⟨g1,0,none⟩) ys[i].2.length cap1],rfl,by omega,Nat.le_refl _,(show Aside _ from ?_),(show Aside _ from ?_)⟩
          · have:=hN1.push (hh:=ys[i].1) (fs:=ys[i].2) (zs:=zs) HBH.out hS1' HS1.out (v':=.slice (some ⟨g2,0,none⟩) (i+1) cap2) (w':=w2) (by rw[List.length_take,Nat.min_eq_left hi];exact hown2) hgrow2 (λb e=>by injection e with e;subst e;rcases hat2 with e|e;exact .inl e;exact .inr (Nat.le_of_eq e.symm)) (λb e=>by
              injection e with e
              subst e
              exact⟨λe=>absurd (show g1<wr.heap.size from(hNS.out.lt (.inl e)).2) (by omega),λj e=>absurd (show g1<wr.heap.size from(hNS.out.lt (.inr ⟨j,e⟩)).2) (by omega)⟩)
            rw[<-List.take_append_getElem hlt];exact this
          ·refine⟨hgrow2.os.trans (hgrow1.os.trans hK.out.1),hgrow2.tape.trans (hgrow1.tape.trans hK.out.2.1),hgrow2.output.trans (hgrow1.output.trans hK.out.2.2.1),by omega,λb hb=>?_⟩;rw[hgrow2.block b (by simp;omega) (λe=>by have:=(aZ hNS.out.own e.symm).1;omega),aE w1 ob (by omega),hb1 b (by omega)];exact hK.out.2.2.2.2 b hb
    · have:i=ys.length:=by omega
      subst this
      go_wp2
      go_ret
      exact⟨_,xs,rfl,by have:=hNS.out;rwa[List.take_length]at this,hK.out⟩
theorem cC {R:Nat->Prop}{w w':World}{r:V}{x:Value}{b:Bool}(h:Answer R w r x w'):Answer R w (.tup [r,.bool b]) (.tuple #[x,.bool b]) w':=by
 obtain⟨l,m,g,k,j,Γ,f,e⟩:=h;refine⟨l,m,g,k,j,Γ,.tup _ _ rfl (λi c v a d=>?_),e⟩
 match i,a,d with
 |0,a,d=>injection a with a;injection d with d;subst a;subst d;exact f
 |1,a,d=>injection a with a;injection d with d;subst a;subst d;exact .rd _ _ (.bool _)
 |i+2,a,d=>simp at a
def oZ (w:World)(ys:List Sv)(b:Bool)(e:Ending)(w':World):Prop:=∃y,e = .returned y /\ ∀R:Nat->Prop,Answer R w (.tup [.own 0 2 .clean (ys.map (fu 7)),.bool b]) y w'
def BX (w W:World)(a c:ByteArray)(d f b g e h:Value):Prop:=W.heap[w.heap.size]?=some (.cells #[.string a,.string c] 28 (0,0))/\W.heap[w.heap.size+1]?=some (.cells #[d,f,b,g,e,h] 25 (0,0))
theorem BX.keep {w W l:World}{a c:ByteArray}{e i b j g d:Value}(h:BX w W a c e i b j g d)(f:∀k,k<w.heap.size+2->l.heap[k]?=W.heap[k]?):BX w l a c e i b j g d:=
 ⟨(f _ (by omega)).trans h.1,(f _ (by omega)).trans h.2⟩
theorem BX.kept {w W k:World}{a c:ByteArray}{e i b j g d:Value}(h:BX w W a c e i b j g d)(f:Kept W k):BX w k a c e i b j g d:=
 ⟨(f.2.2.2.2 _ (lX h.1)).trans h.1,(f.2.2.2.2 _ (lX h.2)).trans h.2⟩
theorem BX.cells {w W:World}{a c:ByteArray}{d f b g e i:Value}(h:BX w W a c d f b g e i) :
  W.cell? ⟨w.heap.size,0,none⟩=some (.string a)/\W.cell? ⟨w.heap.size,1,none⟩=some (.string c)/\W.cell? ⟨w.heap.size+1,0,none⟩=some d/\W.cell? ⟨w.heap.size+1,1,none⟩=some f/\W.cell? ⟨w.heap.size+1,2,none⟩=some b/\W.cell? ⟨w.heap.size+1,3,none⟩=some g/\W.cell? ⟨w.heap.size+1,4,none⟩=some e/\W.cell? ⟨w.heap.size+1,5,none⟩=some i:=by refine⟨?_,?_,?_,?_,?_,?_,?_,?_⟩<;>simp[World.cell?,h.1,h.2]
theorem mY {w w':World}(h:Kept w w'){a:Addr}{u:Value}(b:w.cell? a=some u):w'.cell? a=some u:=by rw[<-b];exact World.cell?_of_block (h.2.2.2.2 _ (World.block_lt_of_cell? w a b))
set_option maxHeartbeats 4000000 in
set_option maxRecDepth 100000 in
theorem Tryz.putNew (v:Value)(ys:List Sv)(hb pb:ByteArray)(x0 x1 x2 x3 x4 x5:Value)(w:World)(hs:SSrc w 7 v ys)(hn:ys.length<=1099511627776)(hm:∀(i:Nat) (h:List UInt8) (fs:List V),ys[i]?=some (h,fs)->fs.length<=1099511627776)
    (cs:List V) (hcs:cs.length=6) (hcv:∀(j:Nat) (c:V),(V.str pb.data.toList :: cs)[j]?=some c -> ∃v,([.string pb,x0,x1,x2,x3,x4,x5]:List Value)[j]?=some v/\CV c v) (ho:x0.oneCell'=true/\x1.oneCell'=true/\x2.oneCell'=true/\x3.oneCell'=true/\x4.oneCell'=true/\x5.oneCell'=true) (k:Int) (hk:k<0) (i:Int) (hi:i<0)
    (hS:∀W,Kept w W->Calls Tryz.prog 89 #[v,.string hb] W λe W'=>e = .returned (.int .i64 k)/\Kept W W')
    (hF:∀(W:World) (hb':ByteArray) (sv:Value),Kept w W->hb'.data.toList=hb.data.toList->Rd W (λk=>k<W.heap.size) (fu 7 (hb.data.toList,[])) (.agg #[.string hb',sv])->Calls Tryz.prog 91 #[.agg #[.string hb',sv],.string pb] W λe W'=>e = .returned (.int .i64 i)/\Kept W W')
    (b:Bool) (hI:∀(W:World) (hb':ByteArray) (sv:Value),Kept w W->hb'.data.toList=hb.data.toList->Rd W (λk=>k<W.heap.size) (fu 7 (hb.data.toList,[V.agg (.str pb.data.toList :: cs)])) (.agg #[.string hb',sv])->Calls Tryz.prog 108 #[.agg #[.string hb',sv]] W λe W'=>e = .returned (.bool b)/\Kept W W') (Y:List Sv) (r:Bool) (hY:(ys.length+1<=4->b=true->Y=ys++[(hb.data.toList,[V.agg (.str pb.data.toList :: cs)])]/\r=true)/\(¬ys.length+1<=4\/b=false->Y=ys/\r=false)) :
    Calls Tryz.prog 74 #[v,.agg #[.string hb,.string pb],.agg #[x0,x1,x2,x3,x4,x5]] w λe w'=>oZ w Y r e w':=by
  obtain⟨o0,o1,o2,o3,o4,o5⟩:=ho;obtain⟨iS,hiS,hS0,hS1,hS2⟩:=info_parts Tryz.infoSv;obtain⟨iF,hiF,hF0,hF1,hF2⟩:=info_parts Tryz.infoFl;have K2:Aside (Kept w ((w.alloc (.cells #[.string hb,.string pb] 28 (0,0))).alloc (.cells #[x0,x1,x2,x3,x4,x5] 25 (0,0)))):=(Kept.al _ _).tr (Kept.al _ _);have hC:=Tryz.l12Copy v ys _ (hs.kept K2.out) hn hm;have B2:Aside (BX w ((w.alloc (.cells #[.string hb,.string pb] 28 (0,0))).alloc (.cells #[x0,x1,x2,x3,x4,x5] 25 (0,0))) hb pb x0 x1 x2 x3 x4 x5):=⟨(aE _ _ (by rw[World.size_alloc];omega)).trans (heap_alloc_new w _),by have:=heap_alloc_new (w.alloc (.cells #[.string hb,.string pb] 28 (0,0))) (.cells #[x0,x1,x2,x3,x4,x5] 25 (0,0));rw[World.size_alloc]at this;exact this⟩;have Z2:Aside (((w.alloc (.cells #[.string hb,.string pb] 28 (0,0))).alloc (.cells #[x0,x1,x2,x3,x4,x5] 25 (0,0))).heap.size=w.heap.size+2):=by unfold Aside;simp
  generalize hw2:(w.alloc (.cells #[.string hb,.string pb] 28 (0,0))).alloc (.cells #[x0,x1,x2,x3,x4,x5] 25 (0,0))=w2 at K2 hC B2 Z2;have HS:Aside (∀W,Kept w W->Calls Tryz.prog 89 #[v,.string hb] W λe W'=>e = .returned (.int .i64 k)/\Kept W W'):=hS;have HF:Aside (∀(W:World) (hb':ByteArray) (sv:Value),Kept w W->hb'.data.toList=hb.data.toList->Rd W (λk=>k<W.heap.size) (fu 7 (hb.data.toList,[])) (.agg #[.string hb',sv])->Calls Tryz.prog 91 #[.agg #[.string hb',sv],.string pb] W λe W'=>e = .returned (.int .i64 i)/\Kept W W'):=hF;obtain⟨va,vc,rfl⟩:∃a c,v = .slice a ys.length c:=by
    rcases hs with⟨rfl,a,c,rfl⟩|⟨k,o,c,rfl,_⟩;·exact⟨a,c,rfl⟩
    ·exact⟨_,c,rfl⟩
  have HI:Aside (∀(W:World) (hb':ByteArray) (sv:Value),Kept w W->hb'.data.toList=hb.data.toList->Rd W (λk=>k<W.heap.size) (fu 7 (hb.data.toList,[V.agg (.str pb.data.toList :: cs)])) (.agg #[.string hb',sv])->Calls Tryz.prog 108 #[.agg #[.string hb',sv]] W λe W'=>e = .returned (.bool b)/\Kept W W'):=hI;have HCV:Aside (∀(j:Nat) (c:V),(V.str pb.data.toList :: cs)[j]?=some c -> ∃v,([.string pb,x0,x1,x2,x3,x4,x5]:List Value)[j]?=some v/\CV c v):=hcv;have HSS:Aside (SSrc w 7 (.slice va ys.length vc) ys):=hs;have HMM:Aside (∀(i:Nat) (h:List UInt8) (fs:List V),ys[i]?=some (h,fs)->fs.length<=1099511627776):=hm;have HY:Aside ((ys.length+1<=4->b=true->Y=ys++[(hb.data.toList,[V.agg (.str pb.data.toList :: cs)])]/\r=true)/\(¬ys.length+1<=4\/b=false->Y=ys/\r=false)):=hY;clear hS hF hI hcv hs hm hY
  go_enter Tryz.func74,Tryz.ntmps74
  go_wp2_with (first
    |(go_at_call 107;refine hC.mono ?_;rintro e w3 ⟨v3,xs,rfl,hN3,hK3⟩;obtain⟨a0,-⟩:=(B2.out.kept hK3).cells;have N3:Aside (NS w3 w2.heap.size 136 138 7 v3 ys xs):=hN3;have K3:Aside (Kept w2 w3):=hK3;clear hN3 hK3 hC)
    |(go_at_call 89;refine(HS.out _ (K2.out.tr K3.out)).mono ?_;rintro e w4 ⟨rfl,hK4⟩;clear a0;obtain⟨a0,-⟩:=(B2.out.kept (K3.out.tr hK4)).cells
      have N4:Aside (NS w4 w2.heap.size 136 138 7 v3 ys xs):=N3.out.keep (λk _ h _=>hK4.2.2.2.2 k h)
      have K4:Aside (Kept w2 w4):=K3.out.tr hK4
      have Z4:w2.heap.size<=w4.heap.size:=K4.out.2.2.2.1
      clear hK4)
    |(at_builtin;refine wpList_append_lies _ rfl _ _ 58 rfl w2.heap.size 136 iS _ 2 40 Tryz.underlying58 hiS hS0 hS1 hS2 rfl (by decide) v3 ys.length xs rfl (bJ N4.out.own (λb e=>aE w4 _ (aZ N4.out.own e).2)) ⟨w4.heap.size,0,none⟩ 1 1 [.string hb,.slice none 0 0] rfl rfl (World.news_of_block (cs:=#[.string hb,.slice none 0 0]) (t:=136) (fr:=(0,0)) (heap_alloc_new w4 _)) (by simp[Value.oneCell']) (by decide) (by unfold maxLen;omega) (by omega) (by simp;omega) _ rfl ?_;intro g5 cap5 w5 hown5 hgrow5 hat5 hlt5))
  generalize hn5:ys.length+1=n5 at hown5 ⊢;have H5s:=hgrow5.size;simp only[World.size_alloc]at H5s;have N4':=N4.out.keep (w':=w4.alloc (Obj.cells #[Value.string hb,Value.slice none 0 0] 136)) (λb _ h _=>aE w4 _ h)
  have N5:Aside (NS w5 w2.heap.size 136 138 7 (.slice (some ⟨g5,0,none⟩) n5 cap5) (ys++[(hb.data.toList,[])]) (xs++[.string hb,.slice none 0 0])):=
    N4'.push (fs:=[]) (zs:=[]) (sv:=.slice none 0 0) rfl (World.ownsRow_nil _ _ _ _) (FlatN.nil 7) (by rw[hn5];exact hown5) hgrow5 (λb e=>by injection e with e;subst e;rcases hat5 with e|e;exact .inl e;exact .inr (Nat.le_of_eq e.symm)) (λb e=>by cases e)
  have hb5':∀b,b<w2.heap.size->w5.heap[b]?=w4.heap[b]?:=λb h=>(hgrow5.block b (by simp;omega) (λe=>by have:=(aZ N4.out.own e.symm).1;omega)).trans (aE w4 _ (by omega));have K5:Aside (Kept w2 w5):=⟨hgrow5.os.trans K4.out.1,hgrow5.tape.trans K4.out.2.1,hgrow5.output.trans K4.out.2.2.1,by omega,λb h=>(hb5' b h).trans (K4.out.2.2.2.2 b h)⟩;have hrow:(ys++[(hb.data.toList,[])])[ys.length]?=some (hb.data.toList,([]:List V)):=by simp
  have hk0:(0:Int)<=(ys.length:Int):=Int.natCast_nonneg _;have hk1:(ys.length:Int)<(n5:Int):=by omega
  clear a0 hown5 hgrow5 hat5 N4' hb5';obtain⟨hb5,sv5,zs5,r1,r2,r3,r4,r5⟩:=N5.out.row ys.length _ _ hrow;have c8:=(ao N5.out.own (k:=g5) rfl r1).1;have c9:=(ao N5.out.own (k:=g5) rfl r3).1;obtain⟨-,a1,b0,b1,b2,b3,b4,b5⟩:=(B2.out.kept K5.out).cells;have RD5:Aside (Rd w5.drew (λk=>k<w5.drew.heap.size) (fu 7 (hb.data.toList,[])) (.agg #[.string hb5,sv5])):=by show Rd _ _ _ _;refine Rd.mono (w:=w5) (w':=w5.drew) (S:=λk=>k<w5.heap.size) (S':=λk=>k<w5.drew.heap.size) (λ_ h=>h) (λ_ _ _=>rfl) ?_;exact N5.out.rd hrow r1 r3 (λ_ h=>h)
  have KD5:Aside (Kept w w5.drew):=K2.out.tr K5.out;have RO5:Aside (xs.length=xs.length/\(xs++[Value.string hb,Value.slice none 0 0])[ys.length*2]?=some (.string hb5)/\(xs++[Value.string hb,Value.slice none 0 0])[ys.length*2+1]?=some sv5/\w5.ownsRow w2.heap.size 138 7 sv5 ([]:List V).length zs5/\FlatN 7 [] zs5):=⟨rfl,r1,r3,r4,r5⟩;clear r1 r3 r4 r5
  go_region_held3 (λw'=>w'.cell? ⟨g5,ys.length*2,none⟩=some (.string hb5)/\w'.cell? ⟨g5,ys.length*2+1,none⟩=some sv5/\w'.cell? ⟨w.heap.size,1,none⟩=some (.string pb))
    (first|go_keep|(refine⟨mY hK6 ?_,mY hK6 ?_,mY hK6 ?_⟩<;>assumption))
    (first|(go_at_call 91;refine(HF.out _ hb5 sv5 KD5.out r2 RD5.out).mono ?_;rintro e w6 ⟨rfl,hK6⟩))
  have N6:Aside (NS w6 w2.heap.size 136 138 7 (.slice (some ⟨g5,0,none⟩) n5 cap5) (ys++[(hb.data.toList,[])]) (xs++[.string hb,.slice none 0 0])):=N5.out.keep (λb _ h _=>hK6.2.2.2.2 b h);have K6:Aside (Kept w2 w6):=K5.out.tr hK6;have RO6:Aside (w6.ownsRow w2.heap.size 138 7 sv5 ([]:List V).length zs5):=bJ RO5.out.2.2.2.1 (λb e=>hK6.2.2.2.2 b (aZ RO5.out.2.2.2.1 e).2);clear a1 b0 b1 b2 b3 b4 b5 c8 c9;obtain⟨-,a1,b0,b1,b2,b3,b4,b5⟩:=(B2.out.kept K6.out).cells;have c9:=(ao N6.out.own (k:=g5) rfl RO5.out.2.2.1);obtain⟨c9,f9⟩:=c9;have hg6:g5<w6.heap.size:=(aZ N6.out.own (k:=g5) rfl).2;have ne9:some g5≠sv5.ownBlock:=λe=>N6.out.ne ys.length g5 (by rw[aQ,RO5.out.2.2.1];exact e.symm) rfl;clear hK6
  go_wp2
  have hZ6:w2.heap.size<=w6.heap.size:=K6.out.2.2.2.1
  go_region_law (first
    |(refine step_append_lies _ (by rfl) _ _ 134 (by rfl) w2.heap.size 138 iF _ 7 80 Tryz.underlying134 hiF hF0 hF1 hF2 rfl (by omega) sv5 0 zs5 (by rfl) (bJ RO6.out (λb e=>aE w6 _ (aZ RO6.out e).2)) ⟨w6.heap.size,0,none⟩ 1 1 [.string pb,x0,x1,x2,x3,x4,x5] (by rfl) (by rfl) (World.news_of_block (B:=w6.heap.size) (cs:=#[.string pb,x0,x1,x2,x3,x4,x5]) (t:=138) (fr:=(0,0)) (heap_alloc_new w6 _)) (by intro u hu;simp only[List.mem_cons,List.not_mem_nil,or_false]at hu;rcases hu with rfl|rfl|rfl|rfl|rfl|rfl|rfl<;>first|rfl|assumption) (by omega) (by unfold maxLen;omega) (by omega) (by simp;omega) _ rfl ?_;intro g7 cap7 w7 hown7 hgrow7 hat7 hlt7;have c97:=(hgrow7.cell_far ⟨g5,ys.length*2+1,none⟩ (by simp;omega) ne9).trans ((World.cell?_of_block (a:=⟨g5,ys.length*2+1,none⟩) (aE w6 _ hg6)).trans c9);have f97:=(hgrow7.frozen_far ⟨g5,ys.length*2+1,none⟩ (by simp;omega) ne9).trans ((World.frozen?_of_block (a:=⟨g5,ys.length*2+1,none⟩) (aE w6 _ hg6)).trans f9)))
  all_goals
    have H7s:=hgrow7.size
    simp only[World.size_drew,World.size_alloc]at H7s
    have N6a:NS (w6.alloc (.cells #[.string pb,x0,x1,x2,x3,x4,x5] 138 (0,0))).drew w2.heap.size 136 138 7 (.slice (some ⟨g5,0,none⟩) n5 cap5) (ys++[(hb.data.toList,[])]) (xs++[.string hb,.slice none 0 0]):=N6.out.keep (λb _ h _=>aE w6 _ h)
    have N8:Aside (NS (w7.setCell ⟨g5,ys.length*2+1,none⟩ (.slice (some ⟨g7,0,none⟩) 1 cap7)) w2.heap.size 136 138 7 (.slice (some ⟨g5,0,none⟩) n5 cap5) ((ys++[(hb.data.toList,[])]).set ys.length (hb.data.toList,[V.agg (.str pb.data.toList :: cs)])) ((xs++[Value.string hb,Value.slice none 0 0]).set (ys.length*2+1) (Value.slice (some ⟨g7,0,none⟩) 1 cap7))):=
      N6a.turn (fs':=[V.agg (.str pb.data.toList :: cs)]) hrow RO5.out.2.2.1 hown7 (RO5.out.2.2.2.2.push (x:=V.agg (.str pb.data.toList :: cs)) (vs:=[.string pb,x0,x1,x2,x3,x4,x5]) (by simp[V.cells,hcs]) rfl HCV.out) hgrow7
        (λb e=>by injection e with e;subst e;rcases hat7 with e|e;exact .inl e;exact .inr (Nat.le_of_eq e.symm)) (g:=g5) rfl (λcur ty h=>mW _ _ _ _ h) (λj h=>eQ _ _ _ _ _ h)
    have es:∀(a b:Sv),(ys++[a]).set ys.length b=ys++[b]:=λa b=>by simp
    rw[es]at N8
    clear es
    have K8:Aside (Kept w2 (w7.setCell ⟨g5,ys.length*2+1,none⟩ (.slice (some ⟨g7,0,none⟩) 1 cap7))):=⟨hgrow7.os.trans K6.out.1,hgrow7.tape.trans K6.out.2.1,hgrow7.output.trans K6.out.2.2.1,by rw[World.size_setCell];omega,λb h=>
      (eQ _ _ _ _ _ (λe=>by have:=(aZ N6.out.own (k:=g5) rfl).1;omega)).trans ((hgrow7.block b (by simp;omega) (λe=>by have:=(aZ RO6.out e.symm).1;omega)).trans ((aE w6 _ (by omega)).trans (K6.out.2.2.2.2 b h)))⟩
    generalize w7.setCell ⟨g5,ys.length*2+1,none⟩ (Value.slice (some ⟨g7,0,none⟩) 1 cap7)=w8 at N8 K8 ⊢
    generalize (xs++[Value.string hb,Value.slice none 0 0]).set (ys.length*2+1) (Value.slice (some ⟨g7,0,none⟩) 1 cap7)=xs8 at N8
    clear hown7 hgrow7 hat7 hlt7 c97 f97 H7s N6a a1 b0 b1 b2 b3 b4 b5 c9 f9
    have hrow8:(ys++[(hb.data.toList,[V.agg (.str pb.data.toList :: cs)])])[ys.length]?=some (hb.data.toList,[V.agg (.str pb.data.toList :: cs)]):=by simp
    obtain⟨hb8,sv8,zs8,q1,q2,q3,q4,q5⟩:=N8.out.row ys.length _ _ hrow8
    have c8:=(ao N8.out.own (k:=g5) rfl q1).1
    have c9:=(ao N8.out.own (k:=g5) rfl q3).1
    have RD8:Aside (Rd w8 (λk=>k<w8.heap.size) (fu 7 (hb.data.toList,[V.agg (.str pb.data.toList :: cs)])) (.agg #[.string hb8,sv8])):=N8.out.rd hrow8 q1 q3 (λ_ h=>h)
    clear q1 q3 q4 q5
    have KW8:Aside (Kept w w8):=K2.out.tr K8.out
    by_cases h4:ys.length+1<=4
    · have h4':¬(4:Int)<(n5:Int):=by omega
      cases b
      · go_wp2_with (go_at_call 108;refine(HI.out _ hb8 sv8 KW8.out q2 RD8.out).mono ?_;rintro e w9 ⟨rfl,hK9⟩)
        go_wp2_with (go_at_call 107;refine(Tryz.l12Copy (.slice va ys.length vc) ys w9 (HSS.out.kept (KW8.out.tr hK9)) hn HMM.out).mono ?_;rintro e oW ⟨CS,xs10,rfl,N10,K10⟩;have H10:Aside (NS oW w9.heap.size 136 138 7 CS ys xs10/\Kept w9 oW/\Kept w8 w9):=⟨N10,K10,hK9⟩;clear N10 K10 hK9)
        go_ret2
        obtain⟨rfl,rfl⟩:=HY.out.2 (.inr (by simp))
        exact⟨_,rfl,λR=>cC (H10.out.1.answer ((KW8.out.tr H10.out.2.2).tr H10.out.2.1) (KW8.out.tr H10.out.2.2).2.2.2.1)⟩
      · go_wp2_with (go_at_call 108;refine(HI.out _ hb8 sv8 KW8.out q2 RD8.out).mono ?_;rintro e w9 ⟨rfl,hK9⟩;have H9:Aside (Kept w8 w9):=hK9;clear hK9)
        go_ret2
        obtain⟨rfl,rfl⟩:=HY.out.1 h4 (by simp)
        exact⟨_,rfl,λR=>cC ((N8.out.keep (λb _ h _=>H9.out.2.2.2.2 b h)).answer (KW8.out.tr H9.out) K2.out.2.2.2.1)⟩
    · have h4':(4:Int)<(n5:Int):=by omega
      go_wp2_with (go_at_call 107;refine(Tryz.l12Copy (.slice va ys.length vc) ys w8 (HSS.out.kept KW8.out) hn HMM.out).mono ?_;rintro e oW ⟨CS,xs10,rfl,N10,K10⟩;have H10:Aside (NS oW w8.heap.size 136 138 7 CS ys xs10/\Kept w8 oW):=⟨N10,K10⟩;clear N10 K10)
      go_ret2
      obtain⟨rfl,rfl⟩:=HY.out.2 (.inl h4)
      exact⟨_,rfl,λR=>cC (H10.out.1.answer (KW8.out.tr H10.out.2) KW8.out.2.2.2.1)⟩
set_option maxHeartbeats 4000000 in
set_option maxRecDepth 100000 in
theorem Tryz.putOld (v:Value)(ys:List Sv)(hb pb:ByteArray)(x0 x1 x2 x3 x4 x5:Value)(w:World)(hs:SSrc w 7 v ys)(hn:ys.length<=1099511627776)(hm:∀(i:Nat) (h:List UInt8) (fs:List V),ys[i]?=some (h,fs)->fs.length<=1099511627776)
    (cs:List V) (hcs:cs.length=6) (hcv:∀(j:Nat) (c:V),(V.str pb.data.toList :: cs)[j]?=some c -> ∃v,([.string pb,x0,x1,x2,x3,x4,x5]:List Value)[j]?=some v/\CV c v) (ho:x0.oneCell'=true/\x1.oneCell'=true/\x2.oneCell'=true/\x3.oneCell'=true/\x4.oneCell'=true/\x5.oneCell'=true) (k1:Nat) (hk:List UInt8) (fs:List V) (hrow:ys[k1]?=some (hk,fs)) (i:Int) (hi:i<0)
    (hS:∀W,Kept w W->Calls Tryz.prog 89 #[v,.string hb] W λe W'=>e = .returned (.int .i64 (k1:Int))/\Kept W W')
    (hF:∀(W:World) (hb':ByteArray) (sv:Value),Kept w W->hb'.data.toList=hk->Rd W (λk=>k<W.heap.size) (fu 7 (hk,fs)) (.agg #[.string hb',sv])->Calls Tryz.prog 91 #[.agg #[.string hb',sv],.string pb] W λe W'=>e = .returned (.int .i64 i)/\Kept W W')
    (b:Bool) (hI:∀(W:World) (hb':ByteArray) (sv:Value),Kept w W->hb'.data.toList=hk->Rd W (λk=>k<W.heap.size) (fu 7 (hk,fs++[V.agg (.str pb.data.toList :: cs)])) (.agg #[.string hb',sv])->Calls Tryz.prog 108 #[.agg #[.string hb',sv]] W λe W'=>e = .returned (.bool b)/\Kept W W') (Y:List Sv) (r:Bool) (hY:(ys.length<=4->b=true->Y=ys.set k1 (hk,fs++[V.agg (.str pb.data.toList :: cs)])/\r=true)/\(¬ys.length<=4\/b=false->Y=ys/\r=false)) :
    Calls Tryz.prog 74 #[v,.agg #[.string hb,.string pb],.agg #[x0,x1,x2,x3,x4,x5]] w λe w'=>oZ w Y r e w':=by
  obtain⟨o0,o1,o2,o3,o4,o5⟩:=ho;obtain⟨iS,hiS,hS0,hS1,hS2⟩:=info_parts Tryz.infoSv;obtain⟨iF,hiF,hF0,hF1,hF2⟩:=info_parts Tryz.infoFl;have K2:Aside (Kept w ((w.alloc (.cells #[.string hb,.string pb] 28 (0,0))).alloc (.cells #[x0,x1,x2,x3,x4,x5] 25 (0,0)))):=(Kept.al _ _).tr (Kept.al _ _);have hC:=Tryz.l12Copy v ys _ (hs.kept K2.out) hn hm;have B2:Aside (BX w ((w.alloc (.cells #[.string hb,.string pb] 28 (0,0))).alloc (.cells #[x0,x1,x2,x3,x4,x5] 25 (0,0))) hb pb x0 x1 x2 x3 x4 x5):=⟨(aE _ _ (by rw[World.size_alloc];omega)).trans (heap_alloc_new w _),by have:=heap_alloc_new (w.alloc (.cells #[.string hb,.string pb] 28 (0,0))) (.cells #[x0,x1,x2,x3,x4,x5] 25 (0,0));rw[World.size_alloc]at this;exact this⟩;have Z2:Aside (((w.alloc (.cells #[.string hb,.string pb] 28 (0,0))).alloc (.cells #[x0,x1,x2,x3,x4,x5] 25 (0,0))).heap.size=w.heap.size+2):=by unfold Aside;simp
  generalize hw2:(w.alloc (.cells #[.string hb,.string pb] 28 (0,0))).alloc (.cells #[x0,x1,x2,x3,x4,x5] 25 (0,0))=w2 at K2 hC B2 Z2;have HS:Aside (∀W,Kept w W->Calls Tryz.prog 89 #[v,.string hb] W λe W'=>e = .returned (.int .i64 (k1:Int))/\Kept W W'):=hS;have HF:Aside (∀(W:World) (hb':ByteArray) (sv:Value),Kept w W->hb'.data.toList=hk->Rd W (λk=>k<W.heap.size) (fu 7 (hk,fs)) (.agg #[.string hb',sv])->Calls Tryz.prog 91 #[.agg #[.string hb',sv],.string pb] W λe W'=>e = .returned (.int .i64 i)/\Kept W W'):=hF;obtain⟨va,vc,rfl⟩:∃a c,v = .slice a ys.length c:=by
    rcases hs with⟨rfl,a,c,rfl⟩|⟨k,o,c,rfl,_⟩;·exact⟨a,c,rfl⟩
    ·exact⟨_,c,rfl⟩
  have HI:Aside (∀(W:World) (hb':ByteArray) (sv:Value),Kept w W->hb'.data.toList=hk->Rd W (λk=>k<W.heap.size) (fu 7 (hk,fs++[V.agg (.str pb.data.toList :: cs)])) (.agg #[.string hb',sv])->Calls Tryz.prog 108 #[.agg #[.string hb',sv]] W λe W'=>e = .returned (.bool b)/\Kept W W'):=hI;have HCV:Aside (∀(j:Nat) (c:V),(V.str pb.data.toList :: cs)[j]?=some c -> ∃v,([.string pb,x0,x1,x2,x3,x4,x5]:List Value)[j]?=some v/\CV c v):=hcv;have HSS:Aside (SSrc w 7 (.slice va ys.length vc) ys):=hs;have HMM:Aside (∀(i:Nat) (h:List UInt8) (fs:List V),ys[i]?=some (h,fs)->fs.length<=1099511627776):=hm;have HY:Aside ((ys.length<=4->b=true->Y=ys.set k1 (hk,fs++[V.agg (.str pb.data.toList :: cs)])/\r=true)/\(¬ys.length<=4\/b=false->Y=ys/\r=false)):=hY;clear hS hF hI hcv hs hm hY;have hlt1:k1<ys.length:=(List.getElem?_eq_some_iff.1 hrow).1;have hfs40:fs.length<=1099511627776:=HMM.out k1 hk fs hrow;have hk0:(0:Int)<=(k1:Int):=Int.natCast_nonneg _;have hk1:(k1:Int)<(ys.length:Int):=by omega
  go_enter Tryz.func74,Tryz.ntmps74
  go_wp2_with (first
    |(go_at_call 107;refine hC.mono ?_;rintro e w3 ⟨v3,xs,rfl,hN3,hK3⟩;obtain⟨a0,-⟩:=(B2.out.kept hK3).cells;have N3:Aside (NS w3 w2.heap.size 136 138 7 v3 ys xs):=hN3;have K3:Aside (Kept w2 w3):=hK3;clear hN3 hK3 hC)
    |(go_at_call 89;refine(HS.out _ (K2.out.tr K3.out)).mono ?_;rintro e w4 ⟨rfl,hK4⟩;clear a0;obtain⟨a0,-⟩:=(B2.out.kept (K3.out.tr hK4)).cells
      have N4:Aside (NS w4 w2.heap.size 136 138 7 v3 ys xs):=N3.out.keep (λk _ h _=>hK4.2.2.2.2 k h)
      have K4:Aside (Kept w2 w4):=K3.out.tr hK4
      have Z4:w2.heap.size<=w4.heap.size:=K4.out.2.2.2.1
      clear hK4))
  obtain⟨g5,cap5,rfl,-,-⟩:=N4.out.own.form (by omega);have N5:=N4;have K5:=K4;clear a0;obtain⟨hb5,sv5,zs5,r1,r2,r3,r4,r5⟩:=N5.out.row k1 _ _ hrow;have c8:=(ao N5.out.own (k:=g5) rfl r1).1;have c9:=(ao N5.out.own (k:=g5) rfl r3).1;obtain⟨-,a1,b0,b1,b2,b3,b4,b5⟩:=(B2.out.kept K5.out).cells;have RD5:Aside (Rd w4.drew (λk=>k<w4.drew.heap.size) (fu 7 (hk,fs)) (.agg #[.string hb5,sv5])):=by show Rd _ _ _ _;refine Rd.mono (w:=w4) (w':=w4.drew) (S:=λk=>k<w4.heap.size) (S':=λk=>k<w4.drew.heap.size) (λ_ h=>h) (λ_ _ _=>rfl) ?_;exact N5.out.rd hrow r1 r3 (λ_ h=>h)
  have KD5:Aside (Kept w w4.drew):=K2.out.tr K5.out;have RO5:Aside (xs.length=xs.length/\xs[k1*2]?=some (.string hb5)/\xs[k1*2+1]?=some sv5/\w4.ownsRow w2.heap.size 138 7 sv5 fs.length zs5/\FlatN 7 fs zs5):=⟨rfl,r1,r3,r4,r5⟩;clear r1 r3 r4 r5
  go_region_held3 (λw'=>w'.cell? ⟨g5,k1*2,none⟩=some (.string hb5)/\w'.cell? ⟨g5,k1*2+1,none⟩=some sv5/\w'.cell? ⟨w.heap.size,1,none⟩=some (.string pb))
    (first|go_keep|(refine⟨mY hK6 ?_,mY hK6 ?_,mY hK6 ?_⟩<;>assumption))
    (first|(go_at_call 91;refine(HF.out _ hb5 sv5 KD5.out r2 RD5.out).mono ?_;rintro e w6 ⟨rfl,hK6⟩))
  have N6:Aside (NS w6 w2.heap.size 136 138 7 (.slice (some ⟨g5,0,none⟩) ys.length cap5) ys xs):=N5.out.keep (λb _ h _=>hK6.2.2.2.2 b h);have K6:Aside (Kept w2 w6):=K5.out.tr hK6;have RO6:Aside (w6.ownsRow w2.heap.size 138 7 sv5 fs.length zs5):=bJ RO5.out.2.2.2.1 (λb e=>hK6.2.2.2.2 b (aZ RO5.out.2.2.2.1 e).2);clear a1 b0 b1 b2 b3 b4 b5 c8 c9;obtain⟨-,a1,b0,b1,b2,b3,b4,b5⟩:=(B2.out.kept K6.out).cells;have c9:=(ao N6.out.own (k:=g5) rfl RO5.out.2.2.1);obtain⟨c9,f9⟩:=c9;have hg6:g5<w6.heap.size:=(aZ N6.out.own (k:=g5) rfl).2;have ne9:some g5≠sv5.ownBlock:=λe=>N6.out.ne k1 g5 (by rw[aQ,RO5.out.2.2.1];exact e.symm) rfl;clear hK6
  go_wp2
  have hZ6:w2.heap.size<=w6.heap.size:=K6.out.2.2.2.1
  go_region_law (first
    |(refine step_append_lies _ (by rfl) _ _ 134 (by rfl) w2.heap.size 138 iF _ 7 80 Tryz.underlying134 hiF hF0 hF1 hF2 rfl (by omega) sv5 fs.length zs5 (by rfl) (bJ RO6.out (λb e=>aE w6 _ (aZ RO6.out e).2)) ⟨w6.heap.size,0,none⟩ 1 1 [.string pb,x0,x1,x2,x3,x4,x5] (by rfl) (by rfl) (World.news_of_block (B:=w6.heap.size) (cs:=#[.string pb,x0,x1,x2,x3,x4,x5]) (t:=138) (fr:=(0,0)) (heap_alloc_new w6 _)) (by intro u hu;simp only[List.mem_cons,List.not_mem_nil,or_false]at hu;rcases hu with rfl|rfl|rfl|rfl|rfl|rfl|rfl<;>first|rfl|assumption) (by omega) (by unfold maxLen;omega) (by omega) (by simp;omega) _ rfl ?_;intro g7 cap7 w7 hown7 hgrow7 hat7 hlt7;have c97:=(hgrow7.cell_far ⟨g5,k1*2+1,none⟩ (by simp;omega) ne9).trans ((World.cell?_of_block (a:=⟨g5,k1*2+1,none⟩) (aE w6 _ hg6)).trans c9);have f97:=(hgrow7.frozen_far ⟨g5,k1*2+1,none⟩ (by simp;omega) ne9).trans ((World.frozen?_of_block (a:=⟨g5,k1*2+1,none⟩) (aE w6 _ hg6)).trans f9)))
  all_goals
    have H7s:=hgrow7.size
    simp only[World.size_drew,World.size_alloc]at H7s
    have N6a:NS (w6.alloc (.cells #[.string pb,x0,x1,x2,x3,x4,x5] 138 (0,0))).drew w2.heap.size 136 138 7 (.slice (some ⟨g5,0,none⟩) ys.length cap5) ys xs:=N6.out.keep (λb _ h _=>aE w6 _ h)
    have N8:Aside (NS (w7.setCell ⟨g5,k1*2+1,none⟩ (.slice (some ⟨g7,0,none⟩) (fs.length+1) cap7)) w2.heap.size 136 138 7 (.slice (some ⟨g5,0,none⟩) ys.length cap5) (ys.set k1 (hk,fs++[V.agg (.str pb.data.toList :: cs)])) (xs.set (k1*2+1) (Value.slice (some ⟨g7,0,none⟩) (fs.length+1) cap7))):=
      N6a.turn (fs':=fs++[V.agg (.str pb.data.toList :: cs)]) hrow RO5.out.2.2.1 (by rw[List.length_append];exact hown7) (RO5.out.2.2.2.2.push (x:=V.agg (.str pb.data.toList :: cs)) (vs:=[.string pb,x0,x1,x2,x3,x4,x5]) (by simp[V.cells,hcs]) rfl HCV.out) hgrow7
        (λb e=>by injection e with e;subst e;rcases hat7 with e|e;exact .inl e;exact .inr (Nat.le_of_eq e.symm)) (g:=g5) rfl (λcur ty h=>mW _ _ _ _ h) (λj h=>eQ _ _ _ _ _ h)
    have K8:Aside (Kept w2 (w7.setCell ⟨g5,k1*2+1,none⟩ (.slice (some ⟨g7,0,none⟩) (fs.length+1) cap7))):=⟨hgrow7.os.trans K6.out.1,hgrow7.tape.trans K6.out.2.1,hgrow7.output.trans K6.out.2.2.1,by rw[World.size_setCell];omega,λb h=>
      (eQ _ _ _ _ _ (λe=>by have:=(aZ N6.out.own (k:=g5) rfl).1;omega)).trans ((hgrow7.block b (by simp;omega) (λe=>by have:=(aZ RO6.out e.symm).1;omega)).trans ((aE w6 _ (by omega)).trans (K6.out.2.2.2.2 b h)))⟩
    generalize w7.setCell ⟨g5,k1*2+1,none⟩ (Value.slice (some ⟨g7,0,none⟩) (fs.length+1) cap7)=w8 at N8 K8 ⊢
    generalize xs.set (k1*2+1) (Value.slice (some ⟨g7,0,none⟩) (fs.length+1) cap7)=xs8 at N8
    clear hown7 hgrow7 hat7 hlt7 c97 f97 H7s N6a a1 b0 b1 b2 b3 b4 b5 c9 f9
    have hrow8:(ys.set k1 (hk,fs++[V.agg (.str pb.data.toList :: cs)]))[k1]?=some (hk,fs++[V.agg (.str pb.data.toList :: cs)]):=List.getElem?_set_self hlt1
    obtain⟨hb8,sv8,zs8,q1,q2,q3,q4,q5⟩:=N8.out.row k1 _ _ hrow8
    have c8:=(ao N8.out.own (k:=g5) rfl q1).1
    have c9:=(ao N8.out.own (k:=g5) rfl q3).1
    have RD8:Aside (Rd w8 (λk=>k<w8.heap.size) (fu 7 (hk,fs++[V.agg (.str pb.data.toList :: cs)])) (.agg #[.string hb8,sv8])):=N8.out.rd hrow8 q1 q3 (λ_ h=>h)
    clear q1 q3 q4 q5
    have KW8:Aside (Kept w w8):=K2.out.tr K8.out
    by_cases h4:ys.length<=4
    · have h4':¬(4:Int)<(ys.length:Int):=by omega
      cases b
      · go_wp2_with (go_at_call 108;refine(HI.out _ hb8 sv8 KW8.out q2 RD8.out).mono ?_;rintro e w9 ⟨rfl,hK9⟩)
        go_wp2_with (go_at_call 107;refine(Tryz.l12Copy (.slice va ys.length vc) ys w9 (HSS.out.kept (KW8.out.tr hK9)) hn HMM.out).mono ?_;rintro e oW ⟨CS,xs10,rfl,N10,K10⟩;have H10:Aside (NS oW w9.heap.size 136 138 7 CS ys xs10/\Kept w9 oW/\Kept w8 w9):=⟨N10,K10,hK9⟩;clear N10 K10 hK9)
        go_ret2
        obtain⟨rfl,rfl⟩:=HY.out.2 (.inr (by simp))
        exact⟨_,rfl,λR=>cC (H10.out.1.answer ((KW8.out.tr H10.out.2.2).tr H10.out.2.1) (KW8.out.tr H10.out.2.2).2.2.2.1)⟩
      · go_wp2_with (go_at_call 108;refine(HI.out _ hb8 sv8 KW8.out q2 RD8.out).mono ?_;rintro e w9 ⟨rfl,hK9⟩;have H9:Aside (Kept w8 w9):=hK9;clear hK9)
        go_ret2
        obtain⟨rfl,rfl⟩:=HY.out.1 h4 (by simp)
        exact⟨_,rfl,λR=>cC ((N8.out.keep (λb _ h _=>H9.out.2.2.2.2 b h)).answer (KW8.out.tr H9.out) K2.out.2.2.2.1)⟩
    · have h4':(4:Int)<(ys.length:Int):=by omega
      go_wp2_with (go_at_call 107;refine(Tryz.l12Copy (.slice va ys.length vc) ys w8 (HSS.out.kept KW8.out) hn HMM.out).mono ?_;rintro e oW ⟨CS,xs10,rfl,N10,K10⟩;have H10:Aside (NS oW w8.heap.size 136 138 7 CS ys xs10/\Kept w8 oW):=⟨N10,K10⟩;clear N10 K10)
      go_ret2
      obtain⟨rfl,rfl⟩:=HY.out.2 (.inl h4)
      exact⟨_,rfl,λR=>cC (H10.out.1.answer (KW8.out.tr H10.out.2) KW8.out.2.2.2.1)⟩
structure InPl (w W:World) (g p:Nat) (u:Value):Prop where
  own:∀{base:Nat} {e:TypeId} {s:Nat} {v:Value} {n:Nat} {xs:List Value},w.ownsRow base e s v n xs->v.ownBlock=some g->W.ownsRow base e s v n (xs.set p u)
  heap:∀k,k≠g->W.heap[k]?=w.heap[k]?
  size:W.heap.size=w.heap.size
  os:W.os=w.os
  tape:W.tape=w.tape
  output:W.output=w.output
theorem iK {P:Program}{w:World}{g o n:Nat}(h:w.there g o n)(j:Nat)(f:j<n){v:Value}(e:v.oneCell'=true):∃W:World,(store ⟨g,o+j,none⟩ v).run P w.drew = .ok () W.drew/\W.there g o n/\InPl w W g (o+j) v:=by
 refine⟨w.setCell ⟨g,o+j,none⟩ v,?_,World.there_setCells h g (o+j) [v],λa b=>FL a b _ _,λk d=>eQ _ _ _ _ _ d,by simp,rfl,rfl,rfl⟩;obtain⟨a,b⟩:=h j f;rw[run_store P w.drew _ v _ e];cases c:w.drew.cell? ⟨g,o+j,none⟩with
 |none=>rw[show w.drew.cell? ⟨g,o+j,none⟩=w.cell? ⟨g,o+j,none⟩from rfl]at c;rw[c]at a;cases a
 |some u =>simp only;rw[if_neg (by rw[show w.drew.frozen? ⟨g,o+j,none⟩=w.frozen? ⟨g,o+j,none⟩from rfl,b];decide)];simp only[World.setCell,World.drew]
set_option maxHeartbeats 4000000 in
set_option maxRecDepth 100000 in
theorem Tryz.putSet (v:Value)(ys:List Sv)(hb pb:ByteArray)(x0 x1 x2 x3 x4 x5:Value)(w:World)(hs:SSrc w 7 v ys)(hn:ys.length<=1099511627776)(hm:∀(i:Nat) (h:List UInt8) (fs:List V),ys[i]?=some (h,fs)->fs.length<=1099511627776)
    (cs:List V) (hcs:cs.length=6) (hcv:∀(j:Nat) (c:V),(V.str pb.data.toList :: cs)[j]?=some c -> ∃v,([.string pb,x0,x1,x2,x3,x4,x5]:List Value)[j]?=some v/\CV c v) (ho:x0.oneCell'=true/\x1.oneCell'=true/\x2.oneCell'=true/\x3.oneCell'=true/\x4.oneCell'=true/\x5.oneCell'=true) (k1:Nat) (hk:List UInt8) (fs:List V) (hrow:ys[k1]?=some (hk,fs)) (i0:Nat) (c0:V) (cr:List V) (hrow0:fs[i0]?=some (V.agg (c0 :: cr)))
    (hS:∀W,Kept w W->Calls Tryz.prog 89 #[v,.string hb] W λe W'=>e = .returned (.int .i64 (k1:Int))/\Kept W W')
    (hF:∀(W:World) (hb':ByteArray) (sv:Value),Kept w W->hb'.data.toList=hk->Rd W (λk=>k<W.heap.size) (fu 7 (hk,fs)) (.agg #[.string hb',sv])->Calls Tryz.prog 91 #[.agg #[.string hb',sv],.string pb] W λe W'=>e = .returned (.int .i64 (i0:Int))/\Kept W W')
    (b:Bool) (hI:∀(W:World) (hb':ByteArray) (sv:Value),Kept w W->hb'.data.toList=hk->Rd W (λk=>k<W.heap.size) (fu 7 (hk,fs.set i0 (V.agg (c0 :: cs)))) (.agg #[.string hb',sv])->Calls Tryz.prog 108 #[.agg #[.string hb',sv]] W λe W'=>e = .returned (.bool b)/\Kept W W') (Y:List Sv) (r:Bool) (hY:(ys.length<=4->b=true->Y=ys.set k1 (hk,fs.set i0 (V.agg (c0 :: cs)))/\r=true)/\(¬ys.length<=4\/b=false->Y=ys/\r=false)) :
    Calls Tryz.prog 74 #[v,.agg #[.string hb,.string pb],.agg #[x0,x1,x2,x3,x4,x5]] w λe w'=>oZ w Y r e w':=by
  obtain⟨o0,o1,o2,o3,o4,o5⟩:=ho;obtain⟨iS,hiS,hS0,hS1,hS2⟩:=info_parts Tryz.infoSv;obtain⟨iF,hiF,hF0,hF1,hF2⟩:=info_parts Tryz.infoFl;have K2:Aside (Kept w ((w.alloc (.cells #[.string hb,.string pb] 28 (0,0))).alloc (.cells #[x0,x1,x2,x3,x4,x5] 25 (0,0)))):=(Kept.al _ _).tr (Kept.al _ _);have hC:=Tryz.l12Copy v ys _ (hs.kept K2.out) hn hm;have B2:Aside (BX w ((w.alloc (.cells #[.string hb,.string pb] 28 (0,0))).alloc (.cells #[x0,x1,x2,x3,x4,x5] 25 (0,0))) hb pb x0 x1 x2 x3 x4 x5):=⟨(aE _ _ (by rw[World.size_alloc];omega)).trans (heap_alloc_new w _),by have:=heap_alloc_new (w.alloc (.cells #[.string hb,.string pb] 28 (0,0))) (.cells #[x0,x1,x2,x3,x4,x5] 25 (0,0));rw[World.size_alloc]at this;exact this⟩;have Z2:Aside (((w.alloc (.cells #[.string hb,.string pb] 28 (0,0))).alloc (.cells #[x0,x1,x2,x3,x4,x5] 25 (0,0))).heap.size=w.heap.size+2):=by unfold Aside;simp
  generalize hw2:(w.alloc (.cells #[.string hb,.string pb] 28 (0,0))).alloc (.cells #[x0,x1,x2,x3,x4,x5] 25 (0,0))=w2 at K2 hC B2 Z2;have HS:Aside (∀W,Kept w W->Calls Tryz.prog 89 #[v,.string hb] W λe W'=>e = .returned (.int .i64 (k1:Int))/\Kept W W'):=hS;have HF:Aside (∀(W:World) (hb':ByteArray) (sv:Value),Kept w W->hb'.data.toList=hk->Rd W (λk=>k<W.heap.size) (fu 7 (hk,fs)) (.agg #[.string hb',sv])->Calls Tryz.prog 91 #[.agg #[.string hb',sv],.string pb] W λe W'=>e = .returned (.int .i64 (i0:Int))/\Kept W W'):=hF;obtain⟨va,vc,rfl⟩:∃a c,v = .slice a ys.length c:=by
    rcases hs with⟨rfl,a,c,rfl⟩|⟨k,o,c,rfl,_⟩;·exact⟨a,c,rfl⟩
    ·exact⟨_,c,rfl⟩
  have HI:Aside (∀(W:World) (hb':ByteArray) (sv:Value),Kept w W->hb'.data.toList=hk->Rd W (λk=>k<W.heap.size) (fu 7 (hk,fs.set i0 (V.agg (c0 :: cs)))) (.agg #[.string hb',sv])->Calls Tryz.prog 108 #[.agg #[.string hb',sv]] W λe W'=>e = .returned (.bool b)/\Kept W W'):=hI;have HCV:Aside (∀(j:Nat) (c:V),(V.str pb.data.toList :: cs)[j]?=some c -> ∃v,([.string pb,x0,x1,x2,x3,x4,x5]:List Value)[j]?=some v/\CV c v):=hcv;have HSS:Aside (SSrc w 7 (.slice va ys.length vc) ys):=hs;have HMM:Aside (∀(i:Nat) (h:List UInt8) (fs:List V),ys[i]?=some (h,fs)->fs.length<=1099511627776):=hm;have HY:Aside ((ys.length<=4->b=true->Y=ys.set k1 (hk,fs.set i0 (V.agg (c0 :: cs)))/\r=true)/\(¬ys.length<=4\/b=false->Y=ys/\r=false)):=hY;clear hS hF hI hcv hs hm hY;have hlt1:k1<ys.length:=(List.getElem?_eq_some_iff.1 hrow).1;have hfs40:fs.length<=1099511627776:=HMM.out k1 hk fs hrow;have hk0:(0:Int)<=(k1:Int):=Int.natCast_nonneg _;have hk1:(k1:Int)<(ys.length:Int):=by omega
  go_enter Tryz.func74,Tryz.ntmps74
  go_wp2_with (first
    |(go_at_call 107;refine hC.mono ?_;rintro e w3 ⟨v3,xs,rfl,hN3,hK3⟩;obtain⟨a0,-⟩:=(B2.out.kept hK3).cells;have N3:Aside (NS w3 w2.heap.size 136 138 7 v3 ys xs):=hN3;have K3:Aside (Kept w2 w3):=hK3;clear hN3 hK3 hC)
    |(go_at_call 89;refine(HS.out _ (K2.out.tr K3.out)).mono ?_;rintro e w4 ⟨rfl,hK4⟩;clear a0;obtain⟨a0,-⟩:=(B2.out.kept (K3.out.tr hK4)).cells
      have N4:Aside (NS w4 w2.heap.size 136 138 7 v3 ys xs):=N3.out.keep (λk _ h _=>hK4.2.2.2.2 k h)
      have K4:Aside (Kept w2 w4):=K3.out.tr hK4
      have Z4:w2.heap.size<=w4.heap.size:=K4.out.2.2.2.1
      clear hK4))
  obtain⟨g5,cap5,rfl,-,-⟩:=N4.out.own.form (by omega);have N5:=N4;have K5:=K4;clear a0;obtain⟨hb5,sv5,zs5,r1,r2,r3,r4,r5⟩:=N5.out.row k1 _ _ hrow;have c8:=(ao N5.out.own (k:=g5) rfl r1).1;have c9:=(ao N5.out.own (k:=g5) rfl r3).1;obtain⟨-,a1,b0,b1,b2,b3,b4,b5⟩:=(B2.out.kept K5.out).cells;have RD5:Aside (Rd w4.drew (λk=>k<w4.drew.heap.size) (fu 7 (hk,fs)) (.agg #[.string hb5,sv5])):=by show Rd _ _ _ _;refine Rd.mono (w:=w4) (w':=w4.drew) (S:=λk=>k<w4.heap.size) (S':=λk=>k<w4.drew.heap.size) (λ_ h=>h) (λ_ _ _=>rfl) ?_;exact N5.out.rd hrow r1 r3 (λ_ h=>h)
  have KD5:Aside (Kept w w4.drew):=K2.out.tr K5.out;have RO5:Aside (xs.length=xs.length/\xs[k1*2]?=some (.string hb5)/\xs[k1*2+1]?=some sv5/\w4.ownsRow w2.heap.size 138 7 sv5 fs.length zs5/\FlatN 7 fs zs5):=⟨rfl,r1,r3,r4,r5⟩;clear r1 r3 r4 r5
  go_region_held3 (λw'=>w'.cell? ⟨g5,k1*2,none⟩=some (.string hb5)/\w'.cell? ⟨g5,k1*2+1,none⟩=some sv5/\w'.cell? ⟨w.heap.size,1,none⟩=some (.string pb))
    (first|go_keep|(refine⟨mY hK6 ?_,mY hK6 ?_,mY hK6 ?_⟩<;>assumption))
    (first|(go_at_call 91;refine(HF.out _ hb5 sv5 KD5.out r2 RD5.out).mono ?_;rintro e w6 ⟨rfl,hK6⟩))
  have N6:Aside (NS w6 w2.heap.size 136 138 7 (.slice (some ⟨g5,0,none⟩) ys.length cap5) ys xs):=N5.out.keep (λb _ h _=>hK6.2.2.2.2 b h);have K6:Aside (Kept w2 w6):=K5.out.tr hK6;have RO6:Aside (w6.ownsRow w2.heap.size 138 7 sv5 fs.length zs5):=bJ RO5.out.2.2.2.1 (λb e=>hK6.2.2.2.2 b (aZ RO5.out.2.2.2.1 e).2);clear a1 b0 b1 b2 b3 b4 b5 c8 c9;obtain⟨-,a1,b0,b1,b2,b3,b4,b5⟩:=(B2.out.kept K6.out).cells;have c9:=(ao N6.out.own (k:=g5) rfl RO5.out.2.2.1);obtain⟨c9,f9⟩:=c9;have hg6:g5<w6.heap.size:=(aZ N6.out.own (k:=g5) rfl).2;have ne9:some g5≠sv5.ownBlock:=λe=>N6.out.ne k1 g5 (by rw[aQ,RO5.out.2.2.1];exact e.symm) rfl;clear hK6;have hi0:(0:Int)<=(i0:Int):=Int.natCast_nonneg _;have hil:i0<fs.length:=(List.getElem?_eq_some_iff.1 hrow0).1;have hi1:(i0:Int)<(fs.length:Int):=by omega
  obtain⟨g8,cap8,rfl,-,-⟩:=RO6.out.form (by omega);have hzl:zs5.length=fs.length*7:=RO6.out.1;have th0:w6.there g8 (i0*7+1) 6:=λj hj=>by obtain⟨y1,z1⟩:=ao RO6.out (k:=g8) rfl (j:=i0*7+1+j) (List.getElem?_eq_getElem (by omega));exact⟨by rw[y1];rfl,z1⟩
  obtain⟨W0,s0,th0,p0⟩:=iK (P:=Tryz.prog) th0 0 (by omega) o0;obtain⟨W1,s1,th0,p1⟩:=iK (P:=Tryz.prog) th0 1 (by omega) o1;obtain⟨W2,s2,th0,p2⟩:=iK (P:=Tryz.prog) th0 2 (by omega) o2;obtain⟨W4,s3,th0,p3⟩:=iK (P:=Tryz.prog) th0 3 (by omega) o3;obtain⟨W4,s4,th0,p4⟩:=iK (P:=Tryz.prog) th0 4 (by omega) o4;obtain⟨W26,s5,th0,p5⟩:=iK (P:=Tryz.prog) th0 5 (by omega) o5;simp only[Nat.add_zero]at s0 p0;have HO:Aside (W26.ownsRow w2.heap.size 138 7 (.slice (some ⟨g8,0,none⟩) fs.length cap8) fs.length ((((((zs5.set (i0*7+1) x0).set (i0*7+1+1) x1).set (i0*7+1+2) x2).set (i0*7+1+3) x3).set (i0*7+1+4) x4).set (i0*7+1+5) x5)):=p5.own (p4.own (p3.own (p2.own (p1.own (p0.own RO6.out rfl) rfl) rfl) rfl) rfl) rfl;have HB:Aside (∀j,j≠g8->W26.heap[j]?=w6.heap[j]?):=λj hj=>(p5.heap j hj).trans ((p4.heap j hj).trans ((p3.heap j hj).trans ((p2.heap j hj).trans ((p1.heap j hj).trans (p0.heap j hj)))));have HK:Aside (W26.heap.size=w6.heap.size/\W26.os=w6.os/\W26.tape=w6.tape/\W26.output=w6.output):=⟨p5.size.trans (p4.size.trans (p3.size.trans (p2.size.trans (p1.size.trans p0.size)))),p5.os.trans (p4.os.trans (p3.os.trans (p2.os.trans (p1.os.trans p0.os)))),p5.tape.trans (p4.tape.trans (p3.tape.trans (p2.tape.trans (p1.tape.trans p0.tape)))),p5.output.trans (p4.output.trans (p3.output.trans (p2.output.trans (p1.output.trans p0.output))))⟩;clear th0 p0 p1 p2 p3 p4 p5
  go_wp2
  go_region_law (fail)
  all_goals
    clear s0 s1 s2 s3 s4 s5 a1 b0 b1 b2 b3 b4 b5 c9 f9
    have hcr:(V.agg (c0 :: cs)).cells.length=7:=by simp[V.cells,hcs]
    have N8:Aside (NS W26.drew w2.heap.size 136 138 7 (.slice (some ⟨g5,0,none⟩) ys.length cap5) (ys.set k1 (hk,fs.set i0 (V.agg (c0 :: cs)))) xs):=by
      refine N6.out.redo hrow RO5.out.2.2.1 (by rw[List.length_set];exact HO.out) (RO5.out.2.2.2.2.put hil hcr (by simp) (λp hp=>?_) (λj c hj=>?_)) (λj hj=>HB.out j (λe=>hj (by rw[e];rfl)))
      · simp only[List.getElem?_set]
        repeat rw[if_neg (by omega)]
      · have hj7:j<7:=by rw[<-hcr];exact(List.getElem?_eq_some_iff.1 hj).1
        have hfl:=RO5.out.2.2.2.2.2.2 i0 _ 0 c0 hrow0 rfl
        rcases j with _|j
        · injection hj with hj
          subst hj
          obtain⟨v,e1,e2⟩:=hfl
          refine⟨v,?_,e2⟩
          simp only[List.getElem?_set]
          repeat rw[if_neg (by omega)]
          exact e1
        · obtain⟨v,e1,e2⟩:=HCV.out (j+1) c hj
          refine⟨v,?_,e2⟩
          simp only[List.getElem?_set,List.length_set]
          match j,e1,hj7 with
          |0,e1,_=>
           injection e1 with e1
           subst e1
           rw[if_neg (by omega),if_neg (by omega),if_neg (by omega),if_neg (by omega),if_neg (by omega)]
           rw[if_pos (by omega),if_pos (by omega)]
          |1,e1,_=>
           injection e1 with e1
           subst e1
           rw[if_neg (by omega),if_neg (by omega),if_neg (by omega),if_neg (by omega)]
           rw[if_pos (by omega),if_pos (by omega)]
          |2,e1,_=>
           injection e1 with e1
           subst e1
           rw[if_neg (by omega),if_neg (by omega),if_neg (by omega)]
           rw[if_pos (by omega),if_pos (by omega)]
          |3,e1,_=>
           injection e1 with e1
           subst e1
           rw[if_neg (by omega),if_neg (by omega)]
           rw[if_pos (by omega),if_pos (by omega)]
          |4,e1,_=>
           injection e1 with e1
           subst e1
           rw[if_neg (by omega)]
           rw[if_pos (by omega),if_pos (by omega)]
          |5,e1,_=>
           injection e1 with e1
           subst e1
           rw[if_pos (by omega),if_pos (by omega)]
          |j+6,e1,h=>omega
    have K8:Aside (Kept w2 W26.drew):=⟨HK.out.2.1.trans K6.out.1,HK.out.2.2.1.trans K6.out.2.1,HK.out.2.2.2.trans K6.out.2.2.1,by have:=HK.out.1;have:=K6.out.2.2.2.1;show w2.heap.size<=W26.heap.size;omega,λb h=>(HB.out b (λe=>by have:=(aZ RO6.out (k:=g8) rfl).1;omega)).trans (K6.out.2.2.2.2 b h)⟩
    generalize W26.drew=w8 at N8 K8 ⊢
    clear HO HB HK
    have hrow8:(ys.set k1 (hk,fs.set i0 (V.agg (c0 :: cs))))[k1]?=some (hk,fs.set i0 (V.agg (c0 :: cs))):=List.getElem?_set_self hlt1
    obtain⟨hb8,sv8,zs8,q1,q2,q3,q4,q5⟩:=N8.out.row k1 _ _ hrow8
    have c8:=(ao N8.out.own (k:=g5) rfl q1).1
    have c9:=(ao N8.out.own (k:=g5) rfl q3).1
    have RD8:Aside (Rd w8 (λk=>k<w8.heap.size) (fu 7 (hk,fs.set i0 (V.agg (c0 :: cs)))) (.agg #[.string hb8,sv8])):=N8.out.rd hrow8 q1 q3 (λ_ h=>h)
    clear q1 q3 q4 q5
    have KW8:Aside (Kept w w8):=K2.out.tr K8.out
    by_cases h4:ys.length<=4
    · have h4':¬(4:Int)<(ys.length:Int):=by omega
      cases b
      · go_wp2_with (go_at_call 108;refine(HI.out _ hb8 sv8 KW8.out q2 RD8.out).mono ?_;rintro e w9 ⟨rfl,hK9⟩)
        go_wp2_with (go_at_call 107;refine(Tryz.l12Copy (.slice va ys.length vc) ys w9 (HSS.out.kept (KW8.out.tr hK9)) hn HMM.out).mono ?_;rintro e oW ⟨CS,xs10,rfl,N10,K10⟩;have H10:Aside (NS oW w9.heap.size 136 138 7 CS ys xs10/\Kept w9 oW/\Kept w8 w9):=⟨N10,K10,hK9⟩;clear N10 K10 hK9)
        go_ret2
        obtain⟨rfl,rfl⟩:=HY.out.2 (.inr (by simp))
        exact⟨_,rfl,λR=>cC (H10.out.1.answer ((KW8.out.tr H10.out.2.2).tr H10.out.2.1) (KW8.out.tr H10.out.2.2).2.2.2.1)⟩
      · go_wp2_with (go_at_call 108;refine(HI.out _ hb8 sv8 KW8.out q2 RD8.out).mono ?_;rintro e w9 ⟨rfl,hK9⟩;have H9:Aside (Kept w8 w9):=hK9;clear hK9)
        go_ret2
        obtain⟨rfl,rfl⟩:=HY.out.1 h4 (by simp)
        exact⟨_,rfl,λR=>cC ((N8.out.keep (λb _ h _=>H9.out.2.2.2.2 b h)).answer (KW8.out.tr H9.out) K2.out.2.2.2.1)⟩
    · have h4':(4:Int)<(ys.length:Int):=by omega
      go_wp2_with (go_at_call 107;refine(Tryz.l12Copy (.slice va ys.length vc) ys w8 (HSS.out.kept KW8.out) hn HMM.out).mono ?_;rintro e oW ⟨CS,xs10,rfl,N10,K10⟩;have H10:Aside (NS oW w8.heap.size 136 138 7 CS ys xs10/\Kept w8 oW):=⟨N10,K10⟩;clear N10 K10)
      go_ret2
      obtain⟨rfl,rfl⟩:=HY.out.2 (.inl h4)
      exact⟨_,rfl,λR=>cC (H10.out.1.answer (KW8.out.tr H10.out.2) KW8.out.2.2.2.1)⟩
theorem zK {R:Nat->Prop}{w w':World}{k:IntKind}{n:Int}{x:Value}(h:Answer R w (.int k n) x w'):x = .int k n/\Kept w w':=by
 refine⟨?_,h.os,h.tape,h.output,h.size,h.old⟩;obtain⟨Γ,a,_⟩:=h.val;cases a with
 |rd _ _ h=>exact nM h
theorem Dw {R:Nat->Prop}{w w':World}{b:Bool}{x:Value}(h:Answer R w (.bool b) x w'):x = .bool b/\Kept w w':=by
 refine⟨?_,h.os,h.tape,h.output,h.size,h.old⟩;obtain⟨Γ,a,_⟩:=h.val;cases a with
 |rd _ _ h=>cases h;rfl
theorem nJ {w w':World}(h:Kept w w')(a:ck w):ck w':=Kept.glob' h a
theorem Jb {w w':World}{R:Nat->Prop}(h:Kept w w')(c:∀k,R k->k<w.heap.size){v:V}{x:Value}(a:Rd w R v x):Rd w' R v x:=
 a.mono (λ_ h=>h) (λk b o=>by simp only[World.cell?,h.2.2.2.2 k (c k b)])
set_option maxHeartbeats 1000000 in
set_option maxRecDepth 100000 in
theorem Tryz.put_ok {d:Nat->List V->Option V}(hA:bE Tryz.prog d):sI Tryz.prog 74 (JX (d 89) (d 91) (d 108)):=by
 intro args r h;refine⟨⟨Tryz.f74,Tryz.func74,rfl,by decide⟩,λR w vals hg hR hl hv=>?_⟩;unfold JX at h;split at h
 ·rename_i xs hh p st kd bd ag sh po;generalize hfl:V.agg [V.str p,V.int .i64 st,V.int .i64 kd,V.str bd,V.int .i64 ag,V.bool sh,V.str po]=fl at h;unfold JY at h;split at h
  ·rename_i ys hys;split at h
   ·rename_i hok;split at h
    ·rename_i k hk;split at h
     ·rename_i s hs;split at h
      ·rename_i i hi;split at h
       ·rename_i fs hfs;split at h
        ·rename_i b hb;injection h with h;subst h;obtain⟨x,y,z,rfl,e0,e1,e2⟩:∃x y z,vals = #[x,y,z]/\vals[0]?=some x/\vals[1]?=some y/\vals[2]?=some z:=by
          obtain⟨l⟩:=vals
          match l,hl with
          | [x,y,z],_=>exact⟨x,y,z,rfl,rfl,rfl,rfl⟩
         have hx:=hv 0 _ _ rfl e0;have hy:=hv 1 _ _ rfl e1;have hz:=hv 2 _ _ rfl e2;obtain rfl:=CO hys;have hsrc:=Je hx hR;cases hy with
         |agg _ vs hlen hr=>
          obtain⟨v0,v1,rfl⟩:∃v0 v1,vs = #[v0,v1]:=by
           obtain⟨l⟩:=vs
           match l,hlen with
           | [v0,v1],_=>exact⟨v0,v1,rfl⟩
          obtain⟨hb0,rfl,rfl⟩:=kC (hr 0 _ v0 rfl rfl);obtain⟨pb,rfl,rfl⟩:=kC (hr 1 _ v1 rfl rfl);cases hz with
          |agg _ vs hlen hr2=>
           obtain⟨u0,u1,u2,u3,u4,u5,rfl⟩:∃u0 u1 u2 u3 u4 u5,vs = #[u0,u1,u2,u3,u4,u5]:=by
            obtain⟨l⟩:=vs
            match l,hlen with
            | [u0,u1,u2,u3,u4,u5],_=>exact⟨u0,u1,u2,u3,u4,u5,rfl⟩
           have g0:=hr2 0 _ u0 rfl rfl;have g1:=hr2 1 _ u1 rfl rfl;have g2:=hr2 2 _ u2 rfl rfl;have g3:=hr2 3 _ u3 rfl rfl;have g4:=hr2 4 _ u4 rfl rfl;have g5:=hr2 5 _ u5 rfl rfl;obtain rfl:=nM g0;obtain rfl:=nM g1;obtain⟨bb,rfl,rfl⟩:=kC g2;obtain rfl:=nM g3;obtain rfl:u4 = .bool sh:=by cases g4;rfl
           obtain⟨qb,rfl,rfl⟩:=kC g5;have hcv:∀(j:Nat) (c:V),(V.str pb.data.toList :: [V.int .i64 st,V.int .i64 kd,V.str bb.data.toList,V.int .i64 ag,V.bool sh,V.str qb.data.toList])[j]?=some c -> ∃v,([.string pb,.int .i64 st,.int .i64 kd,.string bb,.int .i64 ag,.bool sh,.string qb]:List Value)[j]?=some v/\CV c v:=λj c hj=>by
            match j,hj with
            |0,hj=>injection hj with hj;subst hj;exact⟨_,rfl,trivial,rfl,λ_ _=>.str _ _ rfl⟩
            |1,hj=>injection hj with hj;subst hj;exact⟨_,rfl,trivial,rfl,λ_ _=>.int _ _⟩
            |2,hj=>injection hj with hj;subst hj;exact⟨_,rfl,trivial,rfl,λ_ _=>.int _ _⟩
            |3,hj=>injection hj with hj;subst hj;exact⟨_,rfl,trivial,rfl,λ_ _=>.str _ _ rfl⟩
            |4,hj=>injection hj with hj;subst hj;exact⟨_,rfl,trivial,rfl,λ_ _=>.int _ _⟩
            |5,hj=>injection hj with hj;subst hj;exact⟨_,rfl,trivial,rfl,λ_ _=>.bool _⟩
            |6,hj=>injection hj with hj;subst hj;exact⟨_,rfl,trivial,rfl,λ_ _=>.str _ _ rfl⟩
            |j+7,hj=>simp at hj
           have hlen:ys.length<=1099511627776 /\ ∀(i:Nat) (h:List UInt8) (fs:List V),ys[i]?=some (h,fs)->fs.length<=1099511627776:=by unfold xG at hok;rw[Bool.and_eq_true,decide_eq_true_eq,List.all_eq_true]at hok;exact⟨hok.1,λi h fs hi=>by simpa using hok.2 _ (List.mem_of_getElem? hi)⟩
           have hS:∀W,Kept w W->Calls Tryz.prog 89 #[x,.string hb0] W λe W'=>e = .returned (.int .i64 k)/\Kept W W':=λW hW=>
            ((hA _ _ _ hk).2 R W #[x,.string hb0] (nJ hW hg) (λk h=>Nat.lt_of_lt_of_le (hR k h) hW.2.2.2.1) rfl (λi c v h1 h2=>by
             match i,h1,h2 with
             |0,h1,h2=>injection h1 with h1;injection h2 with h2;subst h1;subst h2;exact Jb hW hR hx
             |1,h1,h2=>injection h1 with h1;injection h2 with h2;subst h1;subst h2;exact .str _ _ rfl
             |i+2,h1,h2=>simp at h1)).mono (λe W' he=>by
             cases e with
             |returned x=>obtain⟨rfl,h2⟩:=zK he;exact⟨rfl,h2⟩
             |_=>exact he.elim)
           have hF:∀(W:World) (hb':ByteArray) (sv:Value),Kept w W->Rd W (λk=>k<W.heap.size) (fu 7 s.2.2) (.agg #[.string hb',sv])->Calls Tryz.prog 91 #[.agg #[.string hb',sv],.string pb] W λe W'=>e = .returned (.int .i64 i)/\Kept W W':=λW hb' sv hW hrd=>
            ((hA _ _ _ hi).2 (λk=>k<W.heap.size) W #[.agg #[.string hb',sv],.string pb] (nJ hW hg) (λk h=>h) rfl (λi c v h1 h2=>by
             match i,h1,h2 with
             |0,h1,h2=>injection h1 with h1;injection h2 with h2;subst h1;subst h2;exact hrd
             |1,h1,h2=>injection h1 with h1;injection h2 with h2;subst h1;subst h2;exact .str _ _ rfl
             |i+2,h1,h2=>simp at h1)).mono (λe W' he=>by
             cases e with
             |returned x=>obtain⟨rfl,h2⟩:=zK he;exact⟨rfl,h2⟩
             |_=>exact he.elim)
           have hI:∀(W:World) (hb':ByteArray) (sv:Value),Kept w W->Rd W (λk=>k<W.heap.size) (fu 7 (s.2.2.1,fs)) (.agg #[.string hb',sv])->Calls Tryz.prog 108 #[.agg #[.string hb',sv]] W λe W'=>e = .returned (.bool b)/\Kept W W':=λW hb' sv hW hrd=>
            ((hA _ _ _ hb).2 (λk=>k<W.heap.size) W #[.agg #[.string hb',sv]] (nJ hW hg) (λk h=>h) rfl (λi c v h1 h2=>by
             match i,h1,h2 with
             |0,h1,h2=>injection h1 with h1;injection h2 with h2;subst h1;subst h2;exact hrd
             |i+1,h1,h2=>simp at h1)).mono (λe W' he=>by
             cases e with
             |returned x=>obtain⟨rfl,h2⟩:=Dw he;exact⟨rfl,h2⟩
             |_=>exact he.elim)
           refine Calls.mono (R:=λe w'=>oZ w (b_ ys s fs b).1 (b_ ys s fs b).2 e w') ?_ (by rintro e w' ⟨y,rfl,hy⟩;exact hy R);subst hfl;unfold nK at hs;split at hs
           ·rename_i hk0;injection hs with hs;subst hs;have hi0:i<0:=by
             unfold mf at hfs;split at hfs;·assumption
             ·simp at hfs
            obtain rfl:fs=[V.agg [V.str pb.data.toList,V.int .i64 st,V.int .i64 kd,V.str bb.data.toList,V.int .i64 ag,V.bool sh,V.str qb.data.toList]]:=by unfold mf at hfs;rw[if_pos hi0]at hfs;injection hfs with hfs;exact hfs.symm
            refine Tryz.putNew x ys hb0 pb _ _ _ _ _ _ w hsrc hlen.1 hlen.2 [V.int .i64 st,V.int .i64 kd,V.str bb.data.toList,V.int .i64 ag,V.bool sh,V.str qb.data.toList] rfl hcv ⟨rfl,rfl,rfl,rfl,rfl,rfl⟩ k hk0 i hi0 hS (λW hb' sv hW _ hrd=>hF W hb' sv hW hrd) b (λW hb' sv hW _ hrd=>hI W hb' sv hW hrd) _ _ ?_;unfold b_;rw[List.length_append];refine⟨λh1 h2=>?_,λh1=>?_⟩;·rw[if_pos ⟨h1,h2⟩];exact⟨by simp,rfl⟩
            ·rw[if_neg (by rcases h1 with h1|h1;exact λh=>h1 h.1;exact λh=>by rw[h1]at h;exact absurd h.2 (by decide))];exact⟨rfl,rfl⟩
           ·rename_i hk0;obtain⟨y,hy,rfl⟩:=Option.map_eq_some_iff.1 hs;have hkk:((k.toNat:Nat):Int)=k:=Int.toNat_of_nonneg (by omega);have hY:(ys.length<=4->b=true->(b_ ys (ys,k.toNat,y) fs b).1=ys.set k.toNat (y.1,fs)/\(b_ ys (ys,k.toNat,y) fs b).2=true)/\(¬ys.length<=4\/b=false->(b_ ys (ys,k.toNat,y) fs b).1=ys/\(b_ ys (ys,k.toNat,y) fs b).2=false):=by
             unfold b_;refine⟨λh1 h2=>?_,λh1=>?_⟩;·rw[if_pos ⟨h1,h2⟩];exact⟨rfl,rfl⟩
             ·rw[if_neg (by rcases h1 with h1|h1;exact λh=>h1 h.1;exact λh=>by rw[h1]at h;exact absurd h.2 (by decide))];exact⟨rfl,rfl⟩
            unfold mf at hfs;split at hfs;·rename_i hi0;injection hfs with hfs;subst hfs;exact Tryz.putOld x ys hb0 pb _ _ _ _ _ _ w hsrc hlen.1 hlen.2 [V.int .i64 st,V.int .i64 kd,V.str bb.data.toList,V.int .i64 ag,V.bool sh,V.str qb.data.toList] rfl hcv ⟨rfl,rfl,rfl,rfl,rfl,rfl⟩ k.toNat y.1 y.2 hy i hi0 (by rw[hkk];exact hS) (λW hb' sv hW _ hrd=>hF W hb' sv hW hrd) b (λW hb' sv hW _ hrd=>hI W hb' sv hW hrd) _ _ hY
            ·rename_i hi0;have hii:((i.toNat:Nat):Int)=i:=Int.toNat_of_nonneg (by omega);split at hfs;·rename_i c0 ct p0 r hc0 heq;injection heq with heq;injection heq with _ heq;subst heq;injection hfs with hfs;subst hfs;exact Tryz.putSet x ys hb0 pb _ _ _ _ _ _ w hsrc hlen.1 hlen.2 [V.int .i64 st,V.int .i64 kd,V.str bb.data.toList,V.int .i64 ag,V.bool sh,V.str qb.data.toList] rfl hcv ⟨rfl,rfl,rfl,rfl,rfl,rfl⟩ k.toNat y.1 y.2 hy i.toNat c0 ct hc0 (by rw[hkk];exact hS) (λW hb' sv hW _ hrd=>by rw[hii];exact hF W hb' sv hW hrd) b (λW hb' sv hW _ hrd=>hI W hb' sv hW hrd) _ _ hY
             ·cases hfs
        ·cases h
       ·cases h
      ·cases h
     ·cases h
    ·cases h
   ·cases h
  ·cases h
 ·cases h
end Go.Proofs

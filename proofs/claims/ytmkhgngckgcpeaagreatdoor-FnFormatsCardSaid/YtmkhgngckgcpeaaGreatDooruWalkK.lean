/-
  Proved: lemmas for Rows.FnFormatsCardSaid.
-/
import Derived.Test.YtmkhgngckgcpeaaGreatDooruAmWp
import Derived.Sort.WalkB12
import Derived.WalkKit
import Derived.Deep.LoopGhost
import Derived.RegionTactic
set_option linter.all false
namespace Go.Proofs
open Go Go.Am Go.RowKit Go.Sort
def Pa (x:Int):Int:=if x=91 then 60 else if x=93 then 62 else x
theorem BT (b:UInt8):UInt8.ofNat (Pa b.toNat).toNat=jo b:=by
 unfold Pa jo;by_cases a:b=91;·subst a;rfl
 ·by_cases c:b=93;·subst c;rfl
  ·have e:¬((b.toNat:Int)=91):=λh=>a (UInt8.toNat_inj.1 (by show b.toNat=91;omega));have d:¬((b.toNat:Int)=93):=λh=>c (UInt8.toNat_inj.1 (by show b.toNat=93;omega));rw[if_neg e,if_neg d,if_neg a,if_neg c];simp
def ue (s:ByteArray):Array Int:=(s.data.toList.map λb=>(b.toNat:Int)).toArray
theorem p_ (s:ByteArray):(ue s).size=s.size:=by show(List.map _ _).toArray.size=s.data.size;rw[List.size_toArray,List.length_map,Array.length_toList]
theorem uf (s:ByteArray)(j:Nat)(a:j<s.size):(ue s)[j]! = ((s.data.toList.getD j 0).toNat:Int):=by
 have h:j<s.data.toList.length:=by rw[Array.length_toList];exact a
 rw[getElem!_pos _ j (by rw[p_];exact a)];unfold ue;rw[List.getElem_toArray,List.getElem_map,List.getD,List.getElem?_eq_getElem h];rfl
theorem Sd (s:ByteArray)(j:Nat)(a:j<s.size):0<=(ue s)[j]! /\ (ue s)[j]! < 256:=by rw[uf s j a];have:=UInt8.toNat_lt (s.data.toList.getD j 0);omega
theorem vf (w:World)(e:TypeId)(s:ByteArray):Holds (Value.int .u8) (Lib.bytesWorld w e s) w.heap.size 0 (ue s):=λj a=>by
 rw[p_]at a;refine⟨by rw[Nat.zero_add,Lib.bytesWorld_cell w e s j a,uf s j a],?_⟩;have b:s.size<=(Lib.bytesCells w e s).size:=by simp[Lib.bytesCells]
 simp only[World.frozen?,Lib.bytesWorld_at_new];simp;omega
theorem yR (w:World)(e:TypeId)(s:ByteArray)(q:Nat)(d:Array Int):Kept w (putRow (Value.int .u8) (Sort.ahead (Lib.bytesWorld w e s) q) w.heap.size 0 d):=by
 refine⟨?_,?_,?_,?_,λk a=>?_⟩;·simp[putRow,mapBlock,Sort.ahead,Lib.bytesWorld,World.freeze,World.alloc,World.drew,-World.alloc_eq,-World.drew_eq]
 ·simp[putRow,mapBlock,Sort.ahead,Lib.bytesWorld,World.freeze,World.alloc,World.drew,-World.alloc_eq,-World.drew_eq]
 ·simp[putRow,mapBlock,Sort.ahead,Lib.bytesWorld,World.freeze,World.alloc,World.drew,-World.alloc_eq,-World.drew_eq]
 ·rw[size_putRow,heap_ahead,Lib.bytesWorld_size];omega
 ·rw[<-Lib.bytesWorld_at_old w e s k a];simp[putRow,mapBlock,Sort.ahead,Array.getElem?_modify,show w.heap.size≠k by omega]
set_option maxHeartbeats 2000000 in
set_option maxRecDepth 100000 in
theorem Tryz.markup (s:ByteArray)(w:World)(hs:s.size<=281474976710656) :
  Calls Tryz.prog 237 #[.string s] w λe w'=>e = .returned (.string ⟨(s.data.toList.map jo).toArray⟩)/\Kept w w':=by
 have hcv:=Lib.run_convert_string_bytes (P:=Tryz.prog) w 9 22 5 s (u:=.string) rfl rfl rfl;have hcs:∀(wr:World) (a:Addr) (ns:List Int) (cap:Nat),(loadCells a s.size).run Tryz.prog wr = .ok (ns.map (Value.int .u8)).toArray wr->(convert 22 9 (.slice (some a) s.size cap)).run Tryz.prog wr = .ok (.string (ns.foldl (λr n=>r.push (UInt8.ofNat n.toNat)) ByteArray.empty)) wr:=λwr a ns cap h=>by rw[run_convert_bytes_string (P:=Tryz.prog) wr 22 9 5 (some a) s.size cap rfl rfl rfl];exact run_bytesToString wr a s.size cap ns h
 have hK:Aside (∀q d,Kept w (putRow (Value.int .u8) (Sort.ahead (Lib.bytesWorld w 5 s) q) w.heap.size 0 d)):=λq d=>yR w 5 s q d;have hH:Aside (Holds (Value.int .u8) (Lib.bytesWorld w 5 s) w.heap.size 0 (ue s)):=vf w 5 s;obtain⟨W1,hW1⟩:∃W1,W1=Lib.bytesWorld w 5 s:=⟨_,rfl⟩;obtain⟨g,hg⟩:∃g,g=w.heap.size:=⟨_,rfl⟩;obtain⟨cp,hcp⟩:∃cp,cp=grownCap w s.size 0 5:=⟨_,rfl⟩;rw[<-hW1]at hcv hK hH;rw[<-hg]at hcv hK hH;rw[<-hcp]at hcv;clear hW1 hg hcp;have HCS:=hcs;have hds:=p_ s
 go_enter Tryz.func237,Tryz.ntmps237
 go_wp2
 go_loopg [4] s.size (λgg s4 wr=>∃(i q:Nat) (dk:Array Int),s4 = .int .i64 (i:Int)/\i<=s.size/\s.size-i<=gg/\dk.size=s.size/\wr=putRow (Value.int .u8) (Sort.ahead W1 q) g 0 dk/\Aside (∀j,j<s.size->dk[j]! = if j<i then Pa (ue s)[j]! else(ue s)[j]!))
 case atStart=>exact⟨0,0,ue s,rfl,Nat.zero_le _,by omega,hds,(putRow_self (Value.int .u8) W1 g 0 (ue s) hH.out).symm,λj hj=>by simp⟩
 case round=>
  obtain⟨i,q,dk,rfl,hi,hgg,hdk,hwr,A⟩:=hrel;have hHk:Holds (Value.int .u8) wr g 0 dk:=by rw[hwr];exact holds_putRow (Value.int .u8) _ g 0 (ue s) dk (holds_ahead (Value.int .u8) W1 q g 0 (ue s) hH.out) (hdk.trans hds.symm)
  have W:Aside (wr=putRow (Value.int .u8) (Sort.ahead W1 q) g 0 dk):=hwr;clear hwr;by_cases hlt:i<s.size
  ·obtain⟨c1,f1⟩:=hHk i (by omega);clear hHk;rw[Nat.zero_add]at c1 f1;have hx:=A.out i hlt;rw[if_neg (Nat.lt_irrefl i)]at hx;have hlu:=Sd s i hlt;obtain⟨x,hxe⟩:∃x,x=(ue s)[i]!:=⟨_,rfl⟩;rw[<-hxe]at hx hlu;rw[hx]at c1;have HX:Aside (x=(ue s)[i]!):=hxe;clear hxe hx;have step:Aside (∀y,y=Pa x -> ∀(d':Array Int),d'=dk.setIfInBounds i y -> ∀j,j<s.size->d'[j]! = if j<i+1 then Pa (ue s)[j]! else(ue s)[j]!):=λy hy d' hd' j hj=>by
    subst hd';by_cases e:j=i;·subst e;rw[getElem!_set_same dk j _ (by omega),if_pos (by omega),hy,HX.out]
    ·rw[getElem!_set_other dk i j _ e,A.out j hj];by_cases h:j<i;·rw[if_pos h,if_pos (by omega)]
     ·rw[if_neg h,if_neg (by omega)]
   by_cases h91:x=91
   ·subst h91
    go_wp2
    go_roundg (s.size-(i+1))
    case measure=>omega
    case rel =>refine⟨i+1,q,dk.setIfInBounds i 60,by go_num,by omega,Nat.le_refl _,by simp[hdk],?_,(show Aside _ from step.out 60 rfl _ rfl)⟩;rw[W.out];have:=putRow_set (Value.int .u8) (Sort.ahead W1 q) g 0 dk i 60 (by omega);rw[Nat.zero_add]at this;exact this
   ·by_cases h93:x=93
    ·subst h93
     go_wp2
     go_roundg (s.size-(i+1))
     case measure=>omega
     case rel =>refine⟨i+1,q,dk.setIfInBounds i 62,by go_num,by omega,Nat.le_refl _,by simp[hdk],?_,(show Aside _ from step.out 62 rfl _ rfl)⟩;rw[W.out];have:=putRow_set (Value.int .u8) (Sort.ahead W1 q) g 0 dk i 62 (by omega);rw[Nat.zero_add]at this;exact this
    ·go_wp2
     go_roundg (s.size-(i+1))
     case measure=>omega
     case rel=>
      refine⟨i+1,q,dk,by go_num,by omega,Nat.le_refl _,hdk,W.out,(show Aside _ from λj hj=>?_)⟩;rw[A.out j hj];by_cases e:j=i;·subst e;rw[if_neg (Nat.lt_irrefl _),if_pos (by omega),<-HX.out];unfold Pa;rw[if_neg h91,if_neg h93]
      ·by_cases h:j<i;·rw[if_pos h,if_pos (by omega)]
       ·rw[if_neg h,if_neg (by omega)]
  ·have:i=s.size:=by omega
   subst this
   have hld:=run_loadCells (P:=Tryz.prog) wr ⟨g,0,none⟩ s.size (λj=>.int .u8 dk[j]!) (λj hj=>by
    have:=(hHk j (by omega)).1
    rw[Nat.zero_add]at this
    rw[Addr.add_lit,Nat.zero_add]
    exact this)
   have hl2:(loadCells ⟨g,0,none⟩ s.size).run Tryz.prog wr = .ok (dk.toList.map (Value.int .u8)).toArray wr:=by
    rw[hld];congr 2;apply List.ext_getElem?;intro j;rw[List.getElem?_map,List.getElem?_map];rcases Nat.lt_or_ge j s.size with hj|hj;·rw[List.getElem?_range hj,List.getElem?_eq_getElem (by rw[Array.length_toList];omega)];rw[Option.map_some,Option.map_some,getElem!_pos dk j (by omega)];rfl
    ·rw[List.getElem?_eq_none (by simpa using hj),List.getElem?_eq_none (by rw[Array.length_toList];omega)];rfl
   have hconv:=HCS wr ⟨g,0,none⟩ dk.toList cp hl2;clear hld hl2 hHk HCS;have hstr:dk.toList.foldl (λr n=>r.push (UInt8.ofNat n.toNat)) ByteArray.empty=⟨(s.data.toList.map jo).toArray⟩:=by
    have h1:=pe dk.toList ByteArray.empty;have h2:dk.toList.map (λn=>UInt8.ofNat n.toNat)=s.data.toList.map jo:=by
     apply List.ext_getElem?;intro j;rw[List.getElem?_map,List.getElem?_map];rcases Nat.lt_or_ge j s.size with hj|hj
     ·have hjl:j<s.data.toList.length:=by rw[Array.length_toList];exact hj
      rw[List.getElem?_eq_getElem (by rw[Array.length_toList];omega),List.getElem?_eq_getElem hjl,Option.map_some,Option.map_some];have hA:=A.out j hj;rw[if_pos hj,uf s j hj,getElem!_pos dk j (by omega)]at hA;have hg:s.data.toList.getD j 0=s.data.toList[j]:=by rw[List.getD,List.getElem?_eq_getElem hjl];rfl
      rw[hg]at hA;have hdj:j<dk.toList.length:=by rw[Array.length_toList];omega
      rw[show dk.toList[j]'hdj=dk[j]from rfl,hA,BT]
     ·rw[List.getElem?_eq_none (by rw[Array.length_toList];omega),List.getElem?_eq_none (by rw[Array.length_toList];exact hj)];rfl
    rw[h2]at h1;have h3:(dk.toList.foldl (λr n=>r.push (UInt8.ofNat n.toNat)) ByteArray.empty).data.toList=s.data.toList.map jo:=by rw[h1];rfl
    generalize dk.toList.foldl (λr n=>r.push (UInt8.ofNat n.toNat)) ByteArray.empty=t at h3;rw[<-h3]
   rw[hstr]at hconv;clear hstr;have HA:Aside (∀j,j<s.size->dk[j]! = if j<s.size then Pa (ue s)[j]! else(ue s)[j]!):=A;clear A
   go_wp2
   go_ret
   exact⟨rfl,by rw[W.out];exact hK.out q dk⟩
end Go.Proofs

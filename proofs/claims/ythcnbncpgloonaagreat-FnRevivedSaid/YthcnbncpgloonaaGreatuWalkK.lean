/-
  spec.MarkupOf walked: a string's bytes, turned one by one. Written by program (walkmku.py).
-/
import Derived.Test.YthcnbncpgloonaaGreatuAmPut
import Derived.Test.YthcnbncpgloonaaGreatProg
import Derived.Sort.WalkB12
import Derived.WalkKit
import Derived.Deep.LoopGhost
import Derived.RegionTactic
import Derived.Laws.BytesString
section
set_option linter.unusedVariables false
set_option linter.unusedSimpArgs false
namespace Go.Proofs
open Go Go.Am Go.RowKit Go.Sort
def ang (x:Int):Int:=if x=91 then 60 else if x=93 then 62 else x
theorem h1c (b:UInt8):UInt8.ofNat (ang b.toNat).toNat=p0c b:=by
 unfold ang p0c
 by_cases h1:b=91
 ·subst h1; rfl
 ·by_cases h2:b=93
  ·subst h2; rfl
  ·have e1:¬ ((b.toNat:Int)=91):=λ h=>h1 (UInt8.toNat_inj.1 (by show b.toNat=91; omega))
   have e2:¬ ((b.toNat:Int)=93):=λ h=>h2 (UInt8.toNat_inj.1 (by show b.toNat=93; omega))
   rw [if_neg e1,if_neg e2,if_neg h1,if_neg h2]
   simp
def u8s (s:ByteArray):Array Int:=(s.data.toList.map λ b=>(b.toNat:Int)).toArray
theorem v0r (s:ByteArray):(u8s s).size=s.size:=by
 show (List.map _ _).toArray.size=s.data.size
 rw [List.size_toArray,List.length_map,Array.length_toList]
theorem b1f (s:ByteArray)(j:Nat)(hj:j < s.size):(u8s s)[j]! = ((s.data.toList.getD j 0).toNat:Int):=by
 have h:j < s.data.toList.length:=by rw [Array.length_toList]; exact hj
 rw [getElem!_pos _ j (by rw [v0r]; exact hj)]
 unfold u8s
 rw [List.getElem_toArray,List.getElem_map,List.getD,List.getElem?_eq_getElem h]
 rfl
theorem b2z (s:ByteArray)(j:Nat)(hj:j < s.size):0≤(u8s s)[j]! ∧ (u8s s)[j]! < 256:=by
 rw [b1f s j hj]
 have:=UInt8.toNat_lt (s.data.toList.getD j 0)
 omega
theorem z0c (w:World)(e:TypeId)(s:ByteArray):Holds (Value.int .u8) (Lib.bytesWorld w e s) w.heap.size 0 (u8s s):=λ j hj=>by
 rw [v0r] at hj
 refine ⟨by rw [Nat.zero_add,Lib.bytesWorld_cell w e s j hj,b1f s j hj],?_⟩
 have hge:s.size≤(Lib.bytesCells w e s).size:=by simp [Lib.bytesCells]
 simp only [World.frozen?,Lib.bytesWorld_at_new]
 simp
 omega
theorem e1c (w:World)(e:TypeId)(s:ByteArray)(q:Nat)(d:Array Int):Kept w (putRow (Value.int .u8) (Sort.ahead (Lib.bytesWorld w e s) q) w.heap.size 0 d):=by
 refine ⟨?_,?_,?_,?_,λ k hk=>?_⟩
 ·simp [putRow,mapBlock,Sort.ahead,Lib.bytesWorld,World.freeze,World.alloc,World.drew,-World.alloc_eq,-World.drew_eq]
 ·simp [putRow,mapBlock,Sort.ahead,Lib.bytesWorld,World.freeze,World.alloc,World.drew,-World.alloc_eq,-World.drew_eq]
 ·simp [putRow,mapBlock,Sort.ahead,Lib.bytesWorld,World.freeze,World.alloc,World.drew,-World.alloc_eq,-World.drew_eq]
 ·rw [size_putRow,heap_ahead,Lib.bytesWorld_size]; omega
 ·rw [← Lib.bytesWorld_at_old w e s k hk]
  simp [putRow,mapBlock,Sort.ahead,Array.getElem?_modify,show w.heap.size ≠ k by omega]
set_option maxHeartbeats 2000000 in
set_option maxRecDepth 100000 in
theorem Tryz.markup (s:ByteArray)(w:World)(hs:s.size≤281474976710656) :
  Calls Tryz.prog 170 #[.string s] w λ e w'=>e = .returned (.string ⟨(s.data.toList.map p0c).toArray⟩)∧Kept w w':=by
 have hcv:=Lib.run_convert_string_bytes (P:=Tryz.prog) w 9 22 5 s (u:=.string) rfl rfl rfl
 have hcs:∀ (wr:World) (a:Addr) (ns:List Int) (cap:Nat),(loadCells a s.size).run Tryz.prog wr = .ok (ns.map (Value.int .u8)).toArray wr→(convert 22 9 (.slice (some a) s.size cap)).run Tryz.prog wr = .ok (.string (ns.foldl (λ r n=>r.push (UInt8.ofNat n.toNat)) ByteArray.empty)) wr:=λ wr a ns cap h=>by
  rw [run_convert_bytes_string (P:=Tryz.prog) wr 22 9 5 (some a) s.size cap rfl rfl rfl]
  exact run_bytesToString wr a s.size cap ns h
 have hK:Aside (∀ q d,Kept w (putRow (Value.int .u8) (Sort.ahead (Lib.bytesWorld w 5 s) q) w.heap.size 0 d)):=λ q d=>e1c w 5 s q d
 have hH:Aside (Holds (Value.int .u8) (Lib.bytesWorld w 5 s) w.heap.size 0 (u8s s)):=z0c w 5 s
 obtain ⟨W1,hW1⟩:∃ W1,W1=Lib.bytesWorld w 5 s:=⟨_,rfl⟩
 obtain ⟨g,hg⟩:∃ g,g=w.heap.size:=⟨_,rfl⟩
 obtain ⟨cp,hcp⟩:∃ cp,cp=grownCap w s.size 0 5:=⟨_,rfl⟩
 rw [← hW1] at hcv hK hH
 rw [← hg] at hcv hK hH
 rw [← hcp] at hcv
 clear hW1 hg hcp
 have HCS:=hcs
 have hds:=v0r s
 go_enter Tryz.func170,Tryz.ntmps170
 go_wp2
 go_loopg [4] s.size (λ gg s4 wr=>∃ (i q:Nat) (dk:Array Int),s4 = .int .i64 (i:Int)∧i≤s.size∧s.size - i≤gg∧dk.size=s.size∧wr=putRow (Value.int .u8) (Sort.ahead W1 q) g 0 dk∧Aside (∀ j,j < s.size→dk[j]! = if j < i then ang (u8s s)[j]! else (u8s s)[j]!))
 case atStart=>exact ⟨0,0,u8s s,rfl,Nat.zero_le _,by omega,hds,(putRow_self (Value.int .u8) W1 g 0 (u8s s) hH.out).symm,λ j hj=>by simp⟩
 case round=>
  obtain ⟨i,q,dk,rfl,hi,hgg,hdk,hwr,A⟩:=hrel
  have hHk:Holds (Value.int .u8) wr g 0 dk:=by rw [hwr]; exact holds_putRow (Value.int .u8) _ g 0 (u8s s) dk (holds_ahead (Value.int .u8) W1 q g 0 (u8s s) hH.out) (hdk.trans hds.symm)
  have W:Aside (wr=putRow (Value.int .u8) (Sort.ahead W1 q) g 0 dk):=hwr
  clear hwr
  by_cases hlt:i < s.size
  ·obtain ⟨c1,f1⟩:=hHk i (by omega)
   clear hHk
   rw [Nat.zero_add] at c1 f1
   have hx:=A.out i hlt
   rw [if_neg (Nat.lt_irrefl i)] at hx
   have hlu:=b2z s i hlt
   obtain ⟨x,hxe⟩:∃ x,x=(u8s s)[i]!:=⟨_,rfl⟩
   rw [← hxe] at hx hlu
   rw [hx] at c1
   have HX:Aside (x=(u8s s)[i]!):=hxe
   clear hxe hx
   have step:Aside (∀ y,y=ang x → ∀ (d':Array Int),d' = dk.setIfInBounds i y → ∀ j,j < s.size→d'[j]! = if j < i+1 then ang (u8s s)[j]! else (u8s s)[j]!):=λ y hy d' hd' j hj=>by
    subst hd'
    by_cases e:j=i
    ·subst e
     rw [getElem!_set_same dk j _ (by omega),if_pos (by omega),hy,HX.out]
    ·rw [getElem!_set_other dk i j _ e,A.out j hj]
     by_cases h:j < i
     ·rw [if_pos h,if_pos (by omega)]
     ·rw [if_neg h,if_neg (by omega)]
   by_cases h91:x=91
   ·subst h91
    go_wp2
    go_roundg (s.size - (i+1))
    case measure=>omega
    case rel=>
     refine ⟨i+1,q,dk.setIfInBounds i 60,by go_num,by omega,Nat.le_refl _,by simp [hdk],?_,(show Aside _ from step.out 60 rfl _ rfl)⟩
     rw [W.out]
     have:=putRow_set (Value.int .u8) (Sort.ahead W1 q) g 0 dk i 60 (by omega)
     rw [Nat.zero_add] at this
     exact this
   ·by_cases h93:x=93
    ·subst h93
     go_wp2
     go_roundg (s.size - (i+1))
     case measure=>omega
     case rel=>
      refine ⟨i+1,q,dk.setIfInBounds i 62,by go_num,by omega,Nat.le_refl _,by simp [hdk],?_,(show Aside _ from step.out 62 rfl _ rfl)⟩
      rw [W.out]
      have:=putRow_set (Value.int .u8) (Sort.ahead W1 q) g 0 dk i 62 (by omega)
      rw [Nat.zero_add] at this
      exact this
    ·go_wp2
     go_roundg (s.size - (i+1))
     case measure=>omega
     case rel=>
      refine ⟨i+1,q,dk,by go_num,by omega,Nat.le_refl _,hdk,W.out,(show Aside _ from λ j hj=>?_)⟩
      rw [A.out j hj]
      by_cases e:j=i
      ·subst e
       rw [if_neg (Nat.lt_irrefl _),if_pos (by omega),← HX.out]
       unfold ang
       rw [if_neg h91,if_neg h93]
      ·by_cases h:j < i
       ·rw [if_pos h,if_pos (by omega)]
       ·rw [if_neg h,if_neg (by omega)]
  ·have:i=s.size:=by omega
   subst this
   have hld:=run_loadCells (P:=Tryz.prog) wr ⟨g,0,none⟩ s.size (λ j=>.int .u8 dk[j]!) (λ j hj=>by
    have:=(hHk j (by omega)).1
    rw [Nat.zero_add] at this
    rw [Addr.add_lit,Nat.zero_add]
    exact this)
   have hl2:(loadCells ⟨g,0,none⟩ s.size).run Tryz.prog wr = .ok (dk.toList.map (Value.int .u8)).toArray wr:=by
    rw [hld]
    congr 2
    apply List.ext_getElem?
    intro j
    rw [List.getElem?_map,List.getElem?_map]
    rcases Nat.lt_or_ge j s.size with hj | hj
    ·rw [List.getElem?_range hj,List.getElem?_eq_getElem (by rw [Array.length_toList]; omega)]
     rw [Option.map_some,Option.map_some,getElem!_pos dk j (by omega)]
     rfl
    ·rw [List.getElem?_eq_none (by simpa using hj),List.getElem?_eq_none (by rw [Array.length_toList]; omega)]
     rfl
   have hconv:=HCS wr ⟨g,0,none⟩ dk.toList cp hl2
   clear hld hl2 hHk HCS
   have hstr:dk.toList.foldl (λ r n=>r.push (UInt8.ofNat n.toNat)) ByteArray.empty=⟨(s.data.toList.map p0c).toArray⟩:=by
    have h1:=t0f dk.toList ByteArray.empty
    have h2:dk.toList.map (λ n=>UInt8.ofNat n.toNat)=s.data.toList.map p0c:=by
     apply List.ext_getElem?
     intro j
     rw [List.getElem?_map,List.getElem?_map]
     rcases Nat.lt_or_ge j s.size with hj | hj
     ·have hjl:j < s.data.toList.length:=by rw [Array.length_toList]; exact hj
      rw [List.getElem?_eq_getElem (by rw [Array.length_toList]; omega),List.getElem?_eq_getElem hjl,Option.map_some,Option.map_some]
      have hA:=A.out j hj
      rw [if_pos hj,b1f s j hj,getElem!_pos dk j (by omega)] at hA
      have hg:s.data.toList.getD j 0=s.data.toList[j]:=by rw [List.getD,List.getElem?_eq_getElem hjl]; rfl
      rw [hg] at hA
      have hdj:j < dk.toList.length:=by rw [Array.length_toList]; omega
      rw [show dk.toList[j]'hdj=dk[j] from rfl,hA,h1c]
     ·rw [List.getElem?_eq_none (by rw [Array.length_toList]; omega),List.getElem?_eq_none (by rw [Array.length_toList]; exact hj)]
      rfl
    rw [h2] at h1
    have h3:(dk.toList.foldl (λ r n=>r.push (UInt8.ofNat n.toNat)) ByteArray.empty).data.toList=s.data.toList.map p0c:=by
     rw [h1]; rfl
    generalize dk.toList.foldl (λ r n=>r.push (UInt8.ofNat n.toNat)) ByteArray.empty=t at h3
    rw [← h3]
   rw [hstr] at hconv
   clear hstr
   have HA:Aside (∀ j,j < s.size→dk[j]! = if j < s.size then ang (u8s s)[j]! else (u8s s)[j]!):=A
   clear A
   go_wp2
   go_ret
   exact ⟨rfl,by rw [W.out]; exact hK.out q dk⟩
end Go.Proofs
end


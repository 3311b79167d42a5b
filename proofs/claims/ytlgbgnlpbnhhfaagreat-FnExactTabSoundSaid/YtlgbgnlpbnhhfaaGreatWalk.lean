/-
  impl.SortAddrs walked: a fresh copy is sorted by the library's contract and compacted; its answer is an own new slice. Written by program (walksort.py).
-/
import Derived.Shelf.SlLaysF0
import Derived.Test.YtlgbgnlpbnhhfaaGreatProg
import Derived.Shelf.Small.Bits
import Derived.Shelf.Small.Strs
import Derived.Shelf.Strconv.Itoa0
import Derived.Ground.SlgnProg
import Derived.Shelf.SlicesE.Equal
import Derived.Test.YtlgbgnlpbnhhfaaGreatAmExt3
import Derived.Test.YtlgbgnlpbnhhfaaGreatAmComp
import Derived.Shelf.SlSortCmp.WholeK
import Derived.Deep.AppendLies
import Derived.Laws.StructEq
import Derived.RegionTactic
import Derived.WalkKit
section
namespace Go.Proofs
open Go.Shelf
def Tryz.sortAddr_ren : Go.Shelf.Ren := ⟨fun | 6 => 182 | 15 => 195 | 14 => 194 | 28 => 206 | 29 => 207 | 20 => 198 | 21 => 199 | 22 => 200 | 23 => 201 | 24 => 202 | 25 => 203 | 26 => 204 | 27 => 205 | 46 => 209 | 47 => 210 | 48 => 211 | 49 => 212 | 50 => 213 | 57 => 215 | n => n, fun | 22 => 54 | 24 => 45 | 25 => 253 | 3 => 3 | 39 => 264 | 0 => 0 | 53 => 276 | 55 => 278 | 4 => 4 | 46 => 269 | 45 => 268 | 50 => 273 | 5 => 5 | 9 => 9 | 66 => 279 | 70 => 283 | 76 => 285 | 77 => 286 | n => n, fun | n => n⟩
theorem Tryz.sortAddr : Go.Proofs.SlLaysF0.n6 Tryz.prog Tryz.sortAddr_ren := {
  mixed := by kernel_rfl
  f6 := ⟨Tryz.f182.name, by decide, Tryz.func182.trans (congrArg some (by kernel_rfl))⟩
  f14 := ⟨Tryz.f194.name, by decide, Tryz.func194.trans (congrArg some (by kernel_rfl))⟩
  f15 := Tryz.func195.trans (congrArg some (by kernel_rfl))
  f20 := ⟨Tryz.f198.name, by decide, Tryz.func198.trans (congrArg some (by kernel_rfl))⟩
  f21 := ⟨Tryz.f199.name, by decide, Tryz.func199.trans (congrArg some (by kernel_rfl))⟩
  f22 := ⟨Tryz.f200.name, by decide, Tryz.func200.trans (congrArg some (by kernel_rfl))⟩
  f23 := ⟨Tryz.f201.name, by decide, Tryz.func201.trans (congrArg some (by kernel_rfl))⟩
  f24 := ⟨Tryz.f202.name, by decide, Tryz.func202.trans (congrArg some (by kernel_rfl))⟩
  f25 := ⟨Tryz.f203.name, by decide, Tryz.func203.trans (congrArg some (by kernel_rfl))⟩
  f26 := ⟨Tryz.f204.name, by decide, Tryz.func204.trans (congrArg some (by kernel_rfl))⟩
  f27 := ⟨Tryz.f205.name, by decide, Tryz.func205.trans (congrArg some (by kernel_rfl))⟩
  f28 := Tryz.func206.trans (congrArg some (by kernel_rfl))
  f29 := Tryz.func207.trans (congrArg some (by kernel_rfl))
  f46 := ⟨Tryz.f209.name, by decide, Tryz.func209.trans (congrArg some (by kernel_rfl))⟩
  f47 := Tryz.func210.trans (congrArg some (by kernel_rfl))
  f48 := Tryz.func211.trans (congrArg some (by kernel_rfl))
  f49 := ⟨Tryz.f212.name, by decide, Tryz.func212.trans (congrArg some (by kernel_rfl))⟩
  f50 := ⟨Tryz.f213.name, by decide, Tryz.func213.trans (congrArg some (by kernel_rfl))⟩
  f57 := ⟨Tryz.f215.name, by decide, Tryz.func215.trans (congrArg some (by kernel_rfl))⟩
  t0 := Tryz.underlying0
  a0 := Tryz.isAgg0
  z0 := Tryz.sizeOf0
  v0 := Tryz.zeroValue0
  t3 := Tryz.underlying3
  a3 := Tryz.isAgg3
  z3 := Tryz.sizeOf3
  v3 := Tryz.zeroValue3
  t4 := Tryz.underlying4
  a4 := Tryz.isAgg4
  z4 := Tryz.sizeOf4
  v4 := Tryz.zeroValue4
  t5 := Tryz.underlying5
  a5 := Tryz.isAgg5
  z5 := Tryz.sizeOf5
  v5 := Tryz.zeroValue5
  t9 := Tryz.underlying9
  a9 := Tryz.isAgg9
  z9 := Tryz.sizeOf9
  v9 := Tryz.zeroValue9
  t22 := Tryz.underlying54
  a22 := Tryz.isAgg54
  z22 := Tryz.sizeOf54
  v22 := Tryz.zeroValue54
  t25 := Tryz.underlying253
  a25 := Tryz.isAgg253
  z25 := Tryz.sizeOf253
  v25 := Tryz.zeroValue253
  t39 := Tryz.underlying264
  a39 := Tryz.isAgg264
  z39 := Tryz.sizeOf264
  v39 := Tryz.zeroValue264
  t45 := Tryz.underlying268
  a45 := Tryz.isAgg268
  z45 := Tryz.sizeOf268
  v45 := Tryz.zeroValue268
  t46 := Tryz.underlying269
  a46 := Tryz.isAgg269
  z46 := Tryz.sizeOf269
  v46 := Tryz.zeroValue269
  t50 := Tryz.underlying273
  a50 := Tryz.isAgg273
  z50 := Tryz.sizeOf273
  v50 := Tryz.zeroValue273
  t53 := Tryz.underlying276
  a53 := Tryz.isAgg276
  z53 := Tryz.sizeOf276
  v53 := Tryz.zeroValue276
  t55 := Tryz.underlying278
  a55 := Tryz.isAgg278
  z55 := Tryz.sizeOf278
  v55 := Tryz.zeroValue278
  t66 := Tryz.underlying279
  a66 := Tryz.isAgg279
  z66 := Tryz.sizeOf279
  v66 := Tryz.zeroValue279
  t70 := Tryz.underlying283
  a70 := Tryz.isAgg283
  z70 := Tryz.sizeOf283
  v70 := Tryz.zeroValue283
  t76 := Tryz.underlying285
  a76 := Tryz.isAgg285
  z76 := Tryz.sizeOf285
  v76 := Tryz.zeroValue285
  t77 := Tryz.underlying286
  a77 := Tryz.isAgg286
  z77 := Tryz.sizeOf286
  v77 := Tryz.zeroValue286 }
end Go.Proofs
end
section
namespace Go.Proofs
open Go.Shelf
def Tryz.lays128_ren : Go.Shelf.Ren := ⟨fun | 128 => 206 | n => n, fun | 51 => 276 | 3 => 3 | 4 => 4 | 46 => 264 | 5 => 5 | 9 => 9 | n => n, fun | n => n⟩
theorem Tryz.lays128 : Go.Proofs.Lays.n128 Tryz.prog Tryz.lays128_ren := {
  mixed := by kernel_rfl
  f128 := Tryz.func206.trans (congrArg some (by kernel_rfl))
  t3 := Tryz.underlying3
  a3 := Tryz.isAgg3
  z3 := Tryz.sizeOf3
  v3 := Tryz.zeroValue3
  t4 := Tryz.underlying4
  a4 := Tryz.isAgg4
  z4 := Tryz.sizeOf4
  v4 := Tryz.zeroValue4
  t5 := Tryz.underlying5
  a5 := Tryz.isAgg5
  z5 := Tryz.sizeOf5
  v5 := Tryz.zeroValue5
  t9 := Tryz.underlying9
  a9 := Tryz.isAgg9
  z9 := Tryz.sizeOf9
  v9 := Tryz.zeroValue9
  t46 := Tryz.underlying264
  a46 := Tryz.isAgg264
  z46 := Tryz.sizeOf264
  v46 := Tryz.zeroValue264
  t51 := Tryz.underlying276
  a51 := Tryz.isAgg276
  z51 := Tryz.sizeOf276
  v51 := Tryz.zeroValue276 }
/-- bits.Len32: "Len32 returns the minimum number of bits required to represent x; the result is 0 for x == 0.": IT RETURNS 'Lib.bitLen x'; the world is as it was. ('h0', 'h1': x is a uint32.) (LAID: no walk: one application.) -/
theorem Tryz.bits_Len32 (x : Int) (w : World) (h0 : 0 ≤ x) (h1 : x ≤ 4294967295) :
    Calls Tryz.prog 206 #[.int .u32 x] w fun e w' => e = .returned (.int .i64 (Lib.bitLen x.toNat)) ∧ w' = w := Any.bits_Len32 Tryz.lays128 x w h0 h1
def Tryz.lays125_ren : Go.Shelf.Ren := ⟨fun | 125 => 195 | 128 => 206 | 129 => 207 | n => n, fun | 46 => 264 | 3 => 3 | 51 => 276 | 53 => 278 | 4 => 4 | 5 => 5 | 9 => 9 | n => n, fun | n => n⟩
theorem Tryz.lays125 : Go.Proofs.Lays.n125 Tryz.prog Tryz.lays125_ren := {
  mixed := by kernel_rfl
  f125 := Tryz.func195.trans (congrArg some (by kernel_rfl))
  f128 := Tryz.func206.trans (congrArg some (by kernel_rfl))
  f129 := Tryz.func207.trans (congrArg some (by kernel_rfl))
  t3 := Tryz.underlying3
  a3 := Tryz.isAgg3
  z3 := Tryz.sizeOf3
  v3 := Tryz.zeroValue3
  t4 := Tryz.underlying4
  a4 := Tryz.isAgg4
  z4 := Tryz.sizeOf4
  v4 := Tryz.zeroValue4
  t5 := Tryz.underlying5
  a5 := Tryz.isAgg5
  z5 := Tryz.sizeOf5
  v5 := Tryz.zeroValue5
  t9 := Tryz.underlying9
  a9 := Tryz.isAgg9
  z9 := Tryz.sizeOf9
  v9 := Tryz.zeroValue9
  t46 := Tryz.underlying264
  a46 := Tryz.isAgg264
  z46 := Tryz.sizeOf264
  v46 := Tryz.zeroValue264
  t51 := Tryz.underlying276
  a51 := Tryz.isAgg276
  z51 := Tryz.sizeOf276
  v51 := Tryz.zeroValue276
  t53 := Tryz.underlying278
  a53 := Tryz.isAgg278
  z53 := Tryz.sizeOf278
  v53 := Tryz.zeroValue278 }
/-- bits.Len: "Len returns the minimum number of bits required to represent x; the result is 0 for x == 0.": IT RETURNS 'Lib.bitLen x'; the world is as it was. (A uint has 64 bits in the model.) ITS CALLEE bits.Len64 IS MET BY ITS OWN CONTRACT OFF THE SHELF (lay that first). (LAID: no walk: one application.) -/
theorem Tryz.bits_Len (x : Int) (w : World) (h0 : 0 ≤ x) (h1 : x ≤ 18446744073709551615) :
    Calls Tryz.prog 195 #[.int .u64 x] w fun e w' => e = .returned (.int .i64 (Lib.bitLen x.toNat)) ∧ w' = w := Any.bits_Len Tryz.lays125 x w h0 h1
def Tryz.lays213_ren : Go.Shelf.Ren := ⟨fun | 213 => 208 | 265 => 214 | n => n, fun | 9 => 9 | 3 => 3 | n => n, fun | n => n⟩
theorem Tryz.lays213 : Go.Proofs.Lays.n213 Tryz.prog Tryz.lays213_ren := {
  mixed := by kernel_rfl
  f213 := Tryz.func208.trans (congrArg some (by kernel_rfl))
  f265 := Tryz.func214.trans (congrArg some (by kernel_rfl))
  t3 := Tryz.underlying3
  a3 := Tryz.isAgg3
  z3 := Tryz.sizeOf3
  v3 := Tryz.zeroValue3
  t9 := Tryz.underlying9
  a9 := Tryz.isAgg9
  z9 := Tryz.sizeOf9
  v9 := Tryz.zeroValue9 }
open Go.RowKit in
/-- internal/bytealg.CompareString (what strings.Compare calls): IT RETURNS 'Lib.compareBytes a b'; the world is as it was. (LAID: no walk: one application.) -/
theorem Tryz.bytealg_CompareString (a b : ByteArray) (w : World) :
    Calls Tryz.prog 208 #[.string a, .string b] w fun e w' => e = .returned (.int .i64 (Lib.compareBytes a.data.toList b.data.toList)) ∧ w' = w := Any.bytealg_CompareString Tryz.lays213 a b w
def Tryz.lays106_ren : Go.Shelf.Ren := ⟨fun | 106 => 196 | 213 => 208 | 265 => 214 | n => n, fun | 9 => 9 | 3 => 3 | n => n, fun | n => n⟩
theorem Tryz.lays106 : Go.Proofs.Lays.n106 Tryz.prog Tryz.lays106_ren := {
  mixed := by kernel_rfl
  f106 := Tryz.func196.trans (congrArg some (by kernel_rfl))
  f213 := Tryz.func208.trans (congrArg some (by kernel_rfl))
  f265 := Tryz.func214.trans (congrArg some (by kernel_rfl))
  t3 := Tryz.underlying3
  a3 := Tryz.isAgg3
  z3 := Tryz.sizeOf3
  v3 := Tryz.zeroValue3
  t9 := Tryz.underlying9
  a9 := Tryz.isAgg9
  z9 := Tryz.sizeOf9
  v9 := Tryz.zeroValue9 }
open Go.RowKit in
/-- strings.Compare: "Compare returns an integer comparing two strings lexicographically. The result will be 0 if a == b, -1 if a < b, and +1 if a > b.": IT RETURNS 'Lib.compareBytes a b'; the world is as it was. (LAID: no walk: one application.) -/
theorem Tryz.strings_Compare (a b : ByteArray) (w : World) :
    Calls Tryz.prog 196 #[.string a, .string b] w fun e w' => e = .returned (.int .i64 (Lib.compareBytes a.data.toList b.data.toList)) ∧ w' = w := Any.strings_Compare Tryz.lays106 a b w
def Tryz.lays129_ren : Go.Shelf.Ren := ⟨fun | 129 => 207 | n => n, fun | 53 => 278 | 3 => 3 | 4 => 4 | 46 => 264 | 5 => 5 | 9 => 9 | n => n, fun | n => n⟩
theorem Tryz.lays129 : Go.Proofs.Lays.n129 Tryz.prog Tryz.lays129_ren := {
  mixed := by kernel_rfl
  f129 := Tryz.func207.trans (congrArg some (by kernel_rfl))
  t3 := Tryz.underlying3
  a3 := Tryz.isAgg3
  z3 := Tryz.sizeOf3
  v3 := Tryz.zeroValue3
  t4 := Tryz.underlying4
  a4 := Tryz.isAgg4
  z4 := Tryz.sizeOf4
  v4 := Tryz.zeroValue4
  t5 := Tryz.underlying5
  a5 := Tryz.isAgg5
  z5 := Tryz.sizeOf5
  v5 := Tryz.zeroValue5
  t9 := Tryz.underlying9
  a9 := Tryz.isAgg9
  z9 := Tryz.sizeOf9
  v9 := Tryz.zeroValue9
  t46 := Tryz.underlying264
  a46 := Tryz.isAgg264
  z46 := Tryz.sizeOf264
  v46 := Tryz.zeroValue264
  t53 := Tryz.underlying278
  a53 := Tryz.isAgg278
  z53 := Tryz.sizeOf278
  v53 := Tryz.zeroValue278 }
/-- bits.Len64: "Len64 returns the minimum number of bits required to represent x; the result is 0 for x == 0.": IT RETURNS 'Lib.bitLen x'; the world is as it was. ('h0', 'h1': x is a uint64.) (LAID: no walk: one application.) -/
theorem Tryz.bits_Len64 (x : Int) (w : World) (h0 : 0 ≤ x) (h1 : x ≤ 18446744073709551615) :
    Calls Tryz.prog 207 #[.int .u64 x] w fun e w' => e = .returned (.int .i64 (Lib.bitLen x.toNat)) ∧ w' = w := Any.bits_Len64 Tryz.lays129 x w h0 h1
def Tryz.laysSlE33_f115_ren : Go.Shelf.Ren := ⟨fun | 33 => 115 | n => n, fun | 22 => 24 | 23 => 9 | 4 => 4 | 3 => 3 | 0 => 0 | n => n, fun | n => n⟩
theorem Tryz.laysSlE33_f115 : Go.Proofs.SlLaysE.n33 Tryz.prog Tryz.laysSlE33_f115_ren := {
  mixed := by kernel_rfl
  f33 := ⟨Tryz.f115.name, by decide, Tryz.func115.trans (congrArg some (by kernel_rfl))⟩
  t0 := Tryz.underlying0
  a0 := Tryz.isAgg0
  z0 := Tryz.sizeOf0
  v0 := Tryz.zeroValue0
  t3 := Tryz.underlying3
  a3 := Tryz.isAgg3
  z3 := Tryz.sizeOf3
  v3 := Tryz.zeroValue3
  t4 := Tryz.underlying4
  a4 := Tryz.isAgg4
  z4 := Tryz.sizeOf4
  v4 := Tryz.zeroValue4
  t22 := Tryz.underlying24
  a22 := Tryz.isAgg24
  z22 := Tryz.sizeOf24
  v22 := Tryz.zeroValue24
  a23 := Tryz.isAgg9
  z23 := Tryz.sizeOf9 }
open Go.RowKit Go.Lib in
/-- slices.Equal: "Equal reports whether two slices are equal: the same length and all elements equal. .. Empty and nil slices are considered equal. Floating point NaNs are not considered equal.": IT RETURNS 'Lib.allEq eq (the one's elements) (the other's)'; the world is as it was but for the count of draws. (LAID AT THE INSTANCE 'slices.Equal[[]string,string]': no walk: one application.) -/
theorem Tryz.slices_Equal_f115 {α : Type} [Inhabited α] (enc : α → Value) (eq : α → α → Bool) (hne : NeqAt Tryz.prog 9 enc eq) (b1 o1 n c b2 o2 m d : Nat) (xs ys : List α) (w : World) (hx : n ≤ xs.length) (hy : m ≤ ys.length) (hbig : n ≤ 9223372036854775807) (hbig2 : m ≤ 9223372036854775807) (hc1 : ∀ j, j < xs.length → w.cell? ⟨b1, o1 + j, none⟩ = some (enc xs[j]!)) (hc2 : ∀ j, j < ys.length → w.cell? ⟨b2, o2 + j, none⟩ = some (enc ys[j]!)) :
    Calls Tryz.prog 115 #[.slice (some ⟨b1, o1, none⟩) n c, .slice (some ⟨b2, o2, none⟩) m d] w fun e w' => e = .returned (.bool (Lib.allEq eq (xs.take n) (ys.take m))) ∧ ∃ q, w' = w.drewN q := AnyE.slices_Equal Tryz.laysSlE33_f115 enc eq hne b1 o1 n c b2 o2 m d xs ys w hx hy hbig hbig2 hc1 hc2
def Tryz.laysSlE33_f171_ren : Go.Shelf.Ren := ⟨fun | 33 => 171 | n => n, fun | 22 => 31 | 23 => 3 | 4 => 4 | 3 => 3 | 0 => 0 | n => n, fun | n => n⟩
theorem Tryz.laysSlE33_f171 : Go.Proofs.SlLaysE.n33 Tryz.prog Tryz.laysSlE33_f171_ren := {
  mixed := by kernel_rfl
  f33 := ⟨Tryz.f171.name, by decide, Tryz.func171.trans (congrArg some (by kernel_rfl))⟩
  t0 := Tryz.underlying0
  a0 := Tryz.isAgg0
  z0 := Tryz.sizeOf0
  v0 := Tryz.zeroValue0
  t3 := Tryz.underlying3
  a3 := Tryz.isAgg3
  z3 := Tryz.sizeOf3
  v3 := Tryz.zeroValue3
  t4 := Tryz.underlying4
  a4 := Tryz.isAgg4
  z4 := Tryz.sizeOf4
  v4 := Tryz.zeroValue4
  t22 := Tryz.underlying31
  a22 := Tryz.isAgg31
  z22 := Tryz.sizeOf31
  v22 := Tryz.zeroValue31
  a23 := Tryz.isAgg3
  z23 := Tryz.sizeOf3 }
open Go.RowKit Go.Lib in
/-- slices.Equal: "Equal reports whether two slices are equal: the same length and all elements equal. .. Empty and nil slices are considered equal. Floating point NaNs are not considered equal.": IT RETURNS 'Lib.allEq eq (the one's elements) (the other's)'; the world is as it was but for the count of draws. (LAID AT THE INSTANCE 'slices.Equal[[]int,int]': no walk: one application.) -/
theorem Tryz.slices_Equal_f171 {α : Type} [Inhabited α] (enc : α → Value) (eq : α → α → Bool) (hne : NeqAt Tryz.prog 3 enc eq) (b1 o1 n c b2 o2 m d : Nat) (xs ys : List α) (w : World) (hx : n ≤ xs.length) (hy : m ≤ ys.length) (hbig : n ≤ 9223372036854775807) (hbig2 : m ≤ 9223372036854775807) (hc1 : ∀ j, j < xs.length → w.cell? ⟨b1, o1 + j, none⟩ = some (enc xs[j]!)) (hc2 : ∀ j, j < ys.length → w.cell? ⟨b2, o2 + j, none⟩ = some (enc ys[j]!)) :
    Calls Tryz.prog 171 #[.slice (some ⟨b1, o1, none⟩) n c, .slice (some ⟨b2, o2, none⟩) m d] w fun e w' => e = .returned (.bool (Lib.allEq eq (xs.take n) (ys.take m))) ∧ ∃ q, w' = w.drewN q := AnyE.slices_Equal Tryz.laysSlE33_f171 enc eq hne b1 o1 n c b2 o2 m d xs ys w hx hy hbig hbig2 hc1 hc2
end Go.Proofs
end
set_option linter.unusedVariables false
set_option linter.unusedSimpArgs false
namespace Go.Proofs
open Go Go.Am Go.Shelf Go.RowKit Go.Lib Go.Sort

def Tryz.compAddr_ren : Go.Shelf.Ren := ⟨fun | 43 => 184 | n => n, fun | 22 => 54 | 23 => 45 | n => n, fun | n => n⟩
theorem Tryz.compAddr : CompLays Tryz.prog Tryz.compAddr_ren := {
  mixed := by kernel_rfl
  f43 := ⟨Tryz.f184.name, by decide, Tryz.func184.trans (congrArg some (by kernel_rfl))⟩
  t0 := Tryz.underlying0
  a0 := Tryz.isAgg0
  z0 := Tryz.sizeOf0
  v0 := Tryz.zeroValue0
  t3 := Tryz.underlying3
  a3 := Tryz.isAgg3
  z3 := Tryz.sizeOf3
  v3 := Tryz.zeroValue3
  t4 := Tryz.underlying4
  a4 := Tryz.isAgg4
  z4 := Tryz.sizeOf4
  v4 := Tryz.zeroValue4
  t22 := Tryz.underlying54
  a22 := Tryz.isAgg54
  z22 := Tryz.sizeOf54
  v22 := Tryz.zeroValue54 }

theorem Tryz.infoAddr : (Tryz.prog.info? 45).map (fun i => (i.zero, i.size, i.bytes)) = some (some (.agg #[.string ByteArray.empty, .string ByteArray.empty]), 2, 32) := by kernel_rfl
theorem Tryz.eqAddr0 (x y : Pr) (w : World) : (Op.equalIn 10000 45 (.agg (encPr x).toArray) (.agg (encPr y).toArray)).run Tryz.prog w = .ok (decide (x = y)) w := by
  have u9 := Tryz.underlying9
  have a9 := Tryz.isAgg9
  have z9 := Tryz.sizeOf9
  have hS : Tryz.prog.underlying 45 = some (.struct (Tryz.prog.fieldsOf 45)) := by kernel_rfl
  have hp : Tryz.prog.stoodInHeld 45 = false := by kernel_rfl
  obtain ⟨x1, x2⟩ := x
  obtain ⟨y1, y2⟩ := y
  simp only [encPr]
  rw [show (10000 : Nat) = 9999 + 1 from rfl, run_equalIn_agg w 9999 45 _ _ hS hp]
  simp only [Program.fieldsOf, Tryz.underlying45]
  go_simp
  by_cases h1 : x1 = y1 <;> by_cases h2 : x2 = y2 <;> simp [h1, h2]
theorem Tryz.eqAddr : EqlAt Tryz.prog 45 (fun x : Pr => .agg (encPr x).toArray) (fun x y => decide (x = y)) := by
  refine ⟨fun x y w => ?_, GuardAt.agg _ (by kernel_rfl)⟩
  rw [run_eql_struct, Tryz.eqAddr0]
  rfl
theorem Tryz.neAddr : NeqAt Tryz.prog 45 (fun x : Pr => .agg (encPr x).toArray) (fun x y => decide (x = y)) := by
  refine ⟨fun x y w => ?_, GuardAt.agg _ (by kernel_rfl)⟩
  rw [run_neq_struct, Tryz.eqAddr0]
  rfl

set_option maxHeartbeats 1000000 in
set_option maxRecDepth 100000 in
theorem Tryz.cmpAddr (x y : Pr) (W : World) : Calls Tryz.prog 183 #[.agg (encPr x).toArray, .agg (encPr y).toArray] W fun e w' => e = .returned (.int .i64 (cmpPr x y)) ∧ ∃ q os', w' = grow (W.drewN q) os' := by
  obtain ⟨x1, x2⟩ := x
  obtain ⟨y1, y2⟩ := y
  have h1 := fun W' => Tryz.strings_Compare ⟨x1.toArray⟩ ⟨y1.toArray⟩ W'
  have h2 := fun W' => Tryz.strings_Compare ⟨x2.toArray⟩ ⟨y2.toArray⟩ W'
  have e1 : cmpPr (x1, x2) (y1, y2) = if Lib.compareBytes x1 y1 ≠ 0 then Lib.compareBytes x1 y1 else Lib.compareBytes x2 y2 := rfl
  rw [e1]
  clear e1
  simp only [encPr]
  change ∀ W', Calls Tryz.prog 196 _ W' (fun e w' => e = .returned (.int .i64 (Lib.compareBytes x1 y1)) ∧ w' = W') at h1
  change ∀ W', Calls Tryz.prog 196 _ W' (fun e w' => e = .returned (.int .i64 (Lib.compareBytes x2 y2)) ∧ w' = W') at h2
  generalize Lib.compareBytes x1 y1 = r1 at h1 ⊢
  generalize Lib.compareBytes x2 y2 = r2 at h2 ⊢
  generalize (⟨x1.toArray⟩ : ByteArray) = s1 at h1 ⊢
  generalize (⟨y1.toArray⟩ : ByteArray) = s2 at h1 ⊢
  generalize (⟨x2.toArray⟩ : ByteArray) = s3 at h2 ⊢
  generalize (⟨y2.toArray⟩ : ByteArray) = s4 at h2 ⊢
  by_cases hr : r1 = 0
  · subst hr
    go_enter Tryz.func183, Tryz.ntmps183
    go_wp2_with (go_at_call 196; first | (refine (h1 _).mono ?_; rintro e w' ⟨rfl, rfl⟩) | (refine (h2 _).mono ?_; rintro e w' ⟨rfl, rfl⟩))
    go_ret
    exact ⟨rfl, 0, _, by rw [alloc_eq_grow, alloc_eq_grow, grow_grow]; rfl⟩
  · go_enter Tryz.func183, Tryz.ntmps183
    go_wp2_with (go_at_call 196; first | (refine (h1 _).mono ?_; rintro e w' ⟨rfl, rfl⟩) | (refine (h2 _).mono ?_; rintro e w' ⟨rfl, rfl⟩))
    go_ret
    exact ⟨by simp [hr], 0, _, by rw [alloc_eq_grow, alloc_eq_grow, grow_grow]; rfl⟩

theorem ltPr_swo : SWO (ltOf cmpPr) where
  irrefl x := lt_irrefl x
  trans x y z h1 h2 := lt_trans' (x := x) h1 h2
  ntrans x y z h1 h2 := by
    cases h : ltOf cmpPr x z with
    | false => rfl
    | true =>
      by_cases e : y = z
      · subst e; rw [h] at h1; cases h1
      · have := lt_trans' (x := x) h (lt_of_not h2 (Ne.symm (fun e' => e e'.symm)).symm)
        rw [show ltPr x y = ltOf cmpPr x y from rfl, h1] at this
        cases this
theorem news_get (l : List Pr) : ∀ (j : Nat), (l.flatMap encPr)[j]? = l[j / 2]?.bind fun p => (encPr p)[j % 2]? := by
  induction l with
  | nil => intro j; simp
  | cons p l ih =>
    intro j
    rw [List.flatMap_cons]
    by_cases h : j < 2
    · rw [List.getElem?_append_left (by simpa [encPr] using h), show j / 2 = 0 by omega, show j % 2 = j by omega]
      rfl
    · rw [List.getElem?_append_right (by simp [encPr]; omega), show (encPr p).length = 2 from rfl, ih, show j / 2 = (j - 2) / 2 + 1 by omega, show (j - 2) % 2 = j % 2 by omega]
      rfl
theorem news_len (l : List Pr) : (l.flatMap encPr).length = l.length * 2 := by
  induction l with
  | nil => rfl
  | cons p l ih => rw [List.flatMap_cons, List.length_append, ih, List.length_cons]; simp [encPr]; omega
theorem holds_news {w : World} {base g n cap : Nat} {ty : TypeId} {l : List Pr} (h : w.ownsRow base ty 2 (.slice (some ⟨g, 0, none⟩) n cap) n (l.flatMap encPr)) : ∃ cur, w.heap[g]? = some (.cells cur ty (0, 0)) ∧ cur.size = cap * 2 ∧ n = l.length ∧ n ≤ cap ∧ cap ≤ maxLen ∧ base ≤ g ∧ HoldsK encPr 2 w g 0 l.toArray := by
  have hn : l.length = n := by have := h.1; rw [news_len] at this; omega
  rcases h.2 with ⟨e, _⟩ | ⟨g', cap', cur, hv, hb, hg, h1, h2, h3, h4⟩
  · cases e
  · injection hv with e1 e2 e3
    injection e1 with e1
    injection e1 with e1 _
    subst e1 e3
    refine ⟨cur, hg, h3, hn.symm, h1, h2, hb, fun t ht => ?_⟩
    have ht' : t < l.length * 2 := by simpa using ht
    refine ⟨?_, by simp [World.frozen?, hg]⟩
    have e : (cur.toList.take (n * 2))[t]? = (l.flatMap encPr)[t]? := by rw [h4]
    rw [List.getElem?_take, if_pos (by omega), news_get] at e
    have hj : t / 2 < l.length := by omega
    rw [List.getElem?_eq_getElem hj] at e
    have hm : t % 2 < (encPr l[t / 2]).length := by show t % 2 < 2; omega
    simp only [Option.bind_some] at e
    rw [List.getElem?_eq_getElem hm] at e
    show w.cell? ⟨g, 0 + t, none⟩ = some (id (flatK encPr 2 l.toArray)[t]!)
    rw [get_flatK _ _ _ _ (by simpa using ht')]
    have e5 : l.toArray[t / 2]! = l[t / 2] := by simp [hj]
    rw [e5, getElem!_pos (encPr l[t / 2]) (t % 2) hm, Nat.zero_add]
    simp only [World.cell?, hg, id]
    rw [← e]
    simp

set_option maxHeartbeats 1000000 in
set_option maxRecDepth 100000 in
/-- What stands behind the copy: it is sorted and compacted. -/
theorem Tryz.sortTail (l : List Pr) (w W1 : World) (g cap : Nat) (cur : Array Value) (hb : RowKit.Below w.heap.size w W1) (hg : w.heap.size ≤ g) (hg1 : W1.heap[g]? = some (.cells cur 45 (0, 0))) (hcs : cur.size = cap * 2) (hcap : l.length ≤ cap) (hm : cap ≤ maxLen) (hl : l.length ≤ 1099511627776) (hH : HoldsK encPr 2 W1 g 0 l.toArray) :
    Calls Tryz.prog 182 #[.slice (some ⟨g, 0, none⟩) l.length cap, .func (.func 183) #[] #[]] W1 fun e W2 => e = .returned (.tuple #[]) ∧
      Calls Tryz.prog 184 #[.slice (some ⟨g, 0, none⟩) l.length cap] W2 (LeftPr w l) := by
  have hlt1 : g < W1.heap.size := by
    rcases Nat.lt_or_ge g W1.heap.size with h | h
    · exact h
    · rw [Array.getElem?_eq_none h] at hg1; cases hg1
  have eg : ∀ args w, (callFunc 183 args).run Tryz.prog w = .ok (.enter 183 args) w := enters_of Tryz.func183 (by kernel_rfl) rfl
  have hcon := AnyQ.slices_SortFunc Tryz.sortAddr 2 Tryz.isAgg45 Tryz.sizeOf45 encPr (fun _ => rfl) (fun x v hv => by simp [encPr] at hv; rcases hv with rfl | rfl <;> rfl) cmpPr ltPr_swo 183 #[] g 0 cap l.toArray W1 eg (fun _ _ _ _ x y => Tryz.cmpAddr x y _) hH hlt1 (by simp; omega)
  have hsz : l.toArray.size = l.length := by simp
  rw [hsz] at hcon
  refine hcon.mono ?_
  rintro e W2 ⟨rfl, d', nn, os, hp, hs, rfl⟩
  refine ⟨rfl, ?_⟩
  have hu := sorted_unique_holds ltPr_swo (fun x y h1 h2 => lt_tri (x := x) (y := y) h1 h2) l.toArray d' (by rw [hsz]; exact hp) (by rw [hsz]; exact hs)
  have hd : d' = (l.mergeSort fun x y => !ltPr y x).toArray := Array.ext' (show d'.toList = _ from hu)
  have hds : d'.size = l.length := by rw [hd]; simp
  have hH2 : HoldsK encPr 2 (sortWorldK encPr 2 W1 g 0 nn d' os) g 0 d' :=
    holdsK_grow encPr 2 _ os g 0 d' (by simp only [putRowK, size_putRow, heap_ahead]; exact hlt1) (holdsK_putRowK encPr 2 _ g 0 l.toArray d' (holdsK_ahead encPr 2 W1 nn g 0 _ hH) (by rw [hds]; simp))
  have hc := compact_struct Tryz.compAddr 2 Tryz.isAgg45 Tryz.sizeOf45 encPr (fun _ => rfl) (fun x v hv => by simp [encPr] at hv; rcases hv with rfl | rfl <;> rfl) Tryz.eqAddr Tryz.neAddr ([], []) Tryz.zeroValue45 g 0 cap d' _ hH2 (by rw [hds]; omega) (by rw [hds]; exact hcap)
  rw [hds] at hc
  refine Calls.mono hc ?_
  rintro e W3 ⟨rfl, q, F, hF, rfl, hFx⟩
  rw [← hds] at hF hFx
  have := left_pr (nn := nn) (q := q) (os := os) hb hg hg1 hcap hm hcs hd hF hFx
  rw [hds] at this
  exact this

set_option maxHeartbeats 2000000 in
set_option maxRecDepth 100000 in
theorem Tryz.SortAddrs_some (bk o cap : Nat) (l : List Pr) (w : World) (h0 : 0 < l.length) (hc : ∀ j x, l[j]? = some x → ∀ t v, (encPr x)[t]? = some v → w.cell? ⟨bk, o + j * 2 + t, none⟩ = some v) (hb : bk < w.heap.size) (hl : l.length ≤ 1099511627776) (hcap : l.length ≤ cap) :
    Calls Tryz.prog 141 #[.slice (some ⟨bk, o, none⟩) l.length cap] w fun e w' => LeftPr w l e w' := by
  obtain ⟨i0, hi, hz0, hz1, hz2⟩ := info_parts Tryz.infoAddr
  have hnews : ∀ (W : World), RowKit.Below w.heap.size w W → ∀ j u, (l.flatMap encPr)[j]? = some u → W.cell? ((⟨bk, o, none⟩ : Addr).add j) = some u := fun W hW j u hj => by
    have hjl : j < l.length * 2 := by rw [← news_len]; exact (List.getElem?_eq_some_iff.1 hj).1
    rw [news_get] at hj
    have hj2 : j / 2 < l.length := by omega
    rw [List.getElem?_eq_getElem hj2, Option.bind_some] at hj
    have := hc (j / 2) _ (List.getElem?_eq_getElem hj2) (j % 2) u hj
    rw [Addr.add_lit, hW.cell (p := ⟨bk, o + j, none⟩) hb]
    rwa [show o + j / 2 * 2 + j % 2 = o + j by omega] at this
  have HN : Aside (∀ (W : World), RowKit.Below w.heap.size w W → ∀ j u, (l.flatMap encPr)[j]? = some u → W.cell? ((⟨bk, o, none⟩ : Addr).add j) = some u) := hnews
  clear hnews hc
  have H1 : Aside (∀ u ∈ l.flatMap encPr, u.oneCell' = true) := fun u hu => by
    obtain ⟨p, _, hp⟩ := List.mem_flatMap.1 hu
    simp [encPr] at hp
    rcases hp with rfl | rfl <;> rfl
  have HA : Aside (RowKit.Below w.heap.size w (w.alloc (.cells #[] 45 (0, 0)))) := (RowKit.Below.refl _ _).alloc (Nat.le_refl _) _
  have HO : Aside ((w.alloc (.cells #[] 45 (0, 0))).ownsRow w.heap.size 45 2 (.slice (some ⟨w.heap.size, 0, none⟩) 0 0) 0 []) := ⟨rfl, .inr ⟨w.heap.size, 0, #[], rfl, Nat.le_refl _, (show (w.heap.push _)[w.heap.size]? = _ by simp), Nat.le_refl _, Nat.zero_le _, rfl, rfl⟩⟩
  have NL := news_len l
  generalize hxs : l.flatMap encPr = news at HN H1 NL
  go_enter Tryz.func141, Tryz.ntmps141
  go_wp2_with (first
    | (at_builtin; refine wpList_append_lies _ rfl _ _ 54 rfl w.heap.size 45 i0 (.agg #[.string ByteArray.empty, .string ByteArray.empty]) 2 32 Tryz.underlying54 hi hz0 hz1 hz2 rfl (by decide) (.slice (some ⟨w.heap.size, 0, none⟩) 0 0) 0 [] rfl HO.out ⟨bk, o, none⟩ l.length cap news rfl NL (HN.out _ HA.out) H1.out h0 (by unfold maxLen; omega) (by omega) (show w.heap.size ≤ (w.heap.push _).size by simp) _ rfl ?_; intro g cap1 W1 hown hgrow hat hlt
       rw [List.nil_append, Nat.zero_add] at hown
       rw [← hxs] at hown
       obtain ⟨cur, hg1, hcs, hnl, hcap1, hm1, hbg, hH⟩ := holds_news hown
       have hb1 : RowKit.Below w.heap.size w W1 := RowKit.Below.grown HA.out hgrow (show w.heap.size ≤ (w.heap.push _).size by simp) (fun k hk => by simp [Value.ownBlock] at hk; omega)
       have hT := Tryz.sortTail l w W1 g cap1 cur hb1 hbg hg1 hcs hcap1 hm1 hl hH
       clear hown hgrow hat hlt hg1 hcs hnl hcap1 hm1 hbg hH hb1)
    | (go_at_call 182; refine hT.mono ?_; rintro e W2 ⟨rfl, hC⟩)
    | (go_at_call 184; refine hC.mono ?_; intro e W3 hL; obtain ⟨g3, cap3, cur3, ty3, rfl, hrest⟩ := id hL; have HL : Aside (LeftPr w l _ W3) := hL; clear hL hrest))
  go_ret
  exact HL.out
theorem run_append_none {P : Program} (w : World) (t ty e : TypeId) (i : TypeInfo) (ht : P.underlying t = some (.slice e)) (hi : P.info? e = some i) (p : Addr) (b : Option Addr) (cap : Nat) :
    (Builtin.append_ #[t, t] ty #[.slice (some p) 0 0, .slice b 0 cap]).run P w = .ok (.slice (some p) 0 0) w := by
  cases b <;> simp [Builtin.append_, run_underlying ht, sizeOf, typeInfo, hi, storeCells, loadCells, loadCellsFrom, Builtin.lenOf, Builtin.firstCells]
theorem wpList_append_none {P : Program} (w : World) {ops : Array Oper} {rest : List Oper} {o : Oper} {a : Act} {Q : Exit → Act → World → Prop} (hgd : o.guard = none) (s x : Operand) (t : TypeId)
    (ho : o.op = .call { callee := .builtin .append, args := #[s, x], argTypes := #[t, t] }) (e : TypeId) (i : TypeInfo) (ht : P.underlying t = some (.slice e)) (hi : P.info? e = some i) (p : Addr) (b : Option Addr) (cap : Nat)
    (hs : a.eval s = .slice (some p) 0 0) (hx : a.eval x = .slice b 0 cap) (h : wpList P ops Q rest (a.put o.dst (.slice (some p) 0 0)) w) : wpList P ops Q (o :: rest) a w :=
  wpList_plain hgd fun _ hK => by
    unfold Oper.wp execOp
    simp only [ho, resolve, invoke, builtin, Sem.run_bind, Sem.run_pure, Result.andThen_ok, List.map_toArray, List.map_cons, List.map_nil, hs, hx, run_append_none w t o.type e i ht hi p b cap]
    exact hK _ _ h
set_option maxHeartbeats 2000000 in
set_option maxRecDepth 100000 in
theorem Tryz.SortAddrs_none (a : Option Addr) (cap : Nat) (w : World) :
    Calls Tryz.prog 141 #[.slice a 0 cap] w fun e w' => LeftPr w [] e w' := by
  obtain ⟨i0, hi, hz0, hz1, hz2⟩ := info_parts Tryz.infoAddr
  have hT := Tryz.sortTail [] w (w.alloc (.cells #[] 45 (0, 0))) w.heap.size 0 #[] ((RowKit.Below.refl _ _).alloc (Nat.le_refl _) _) (Nat.le_refl _) (show (w.heap.push _)[w.heap.size]? = _ by simp) rfl (Nat.le_refl _) (Nat.zero_le _) (Nat.zero_le _) (fun t ht => by simp at ht)
  change Calls Tryz.prog 182 #[.slice (some ⟨w.heap.size, 0, none⟩) 0 0, .func (.func 183) #[] #[]] _ (fun e W2 => e = .returned (.tuple #[]) ∧ Calls Tryz.prog 184 #[.slice (some ⟨w.heap.size, 0, none⟩) 0 0] W2 (LeftPr w [])) at hT
  go_enter Tryz.func141, Tryz.ntmps141
  go_wp2_with (first
    | (at_builtin; refine wpList_append_none _ rfl _ _ 54 rfl 45 i0 Tryz.underlying54 hi ⟨w.heap.size, 0, none⟩ a cap rfl rfl ?_)
    | (go_at_call 182; refine hT.mono ?_; rintro e W2 ⟨rfl, hC⟩)
    | (go_at_call 184; refine hC.mono ?_; intro e W3 hL; obtain ⟨g3, cap3, cur3, ty3, rfl, hrest⟩ := id hL; have HL : Aside (LeftPr w [] _ W3) := hL; clear hL hrest))
  go_ret
  exact HL.out
end Go.Proofs

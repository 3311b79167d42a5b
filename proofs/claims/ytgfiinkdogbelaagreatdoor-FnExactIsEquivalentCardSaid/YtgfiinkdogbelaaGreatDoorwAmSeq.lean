/-
  What laws.sz..S, laws.to..S and laws.eq..S compute on a list of structures, told once for all structures.
-/
import Derived.Shelf.Small.Bits
import Derived.Shelf.Utf8.RuneCount
import Derived.Shelf.Strconv.Atoi
import Derived.Shelf.Strconv.Itoa0
import Derived.Shelf.Strconv.Itoa1
import Derived.Shelf.LaysM
import Derived.Shelf.Strconv.Itoa2
import Derived.Shelf.Strconv.Itoa3
import Derived.Shelf.Strconv.AtoiErrFast
import Derived.Shelf.Strconv.ParseIntEmpty
import Derived.Shelf.Strconv.AtoiFail
import Derived.Shelf.Strconv.Clone
import Derived.Shelf.Strconv.SyntaxError
import Derived.Shelf.LaysC
import Derived.Shelf.Strconv.ToError
import Derived.Shelf.Strconv.AtoiErr
import Derived.Shelf.Strconv.ErrVar
import Derived.Shelf.Strconv.Lower
import Derived.Shelf.Strconv.ParseUint10
import Derived.Shelf.Strconv.ParseUint10Empty
import Derived.Shelf.Strconv.ParseUint10Any
import Derived.Shelf.Strconv.ParseInt10
import Derived.Shelf.Strconv.AtoiLong
import Derived.Shelf.Strconv.AtoiInnerAll
import Derived.Shelf.Strconv.RangeError
import Derived.Shelf.Strconv.ToErrorRange
import Derived.Shelf.Strconv.AtoiAll
import Derived.Shelf.Strconv.ParseUintEmpty
import Derived.Shelf.Strconv.ParseUint10b64
import Derived.Shelf.Strconv.ParseUint10b32
import Derived.Shelf.Strconv.ParseUint10b16
import Derived.Shelf.Strconv.ParseUint10b8
import Derived.Shelf.Strconv.ParseUint10At
import Derived.Shelf.Strconv.ParseInt10At64
import Derived.Shelf.Strconv.ParseInt10At32
import Derived.Shelf.Strconv.ParseInt10At16
import Derived.Shelf.Strconv.ParseInt10At8
import Derived.Shelf.Strings.Search1
import Derived.Shelf.Strings.Search2
import Derived.Shelf.Strings.Search3
import Derived.Shelf.Strings.Cut
import Derived.Shelf.Strings.Count
import Derived.Shelf.Strings.Shaped
import Derived.Shelf.Sort.Plain
import Derived.Shelf.Strings.Split
import Derived.Shelf.Strings.SplitShaped
import Derived.Shelf.Unicode.Decode
import Derived.Shelf.Strings.RuneCount
import Derived.Shelf.Strings.Explode
import Derived.Shelf.Unicode.DecodeSlow
import Derived.Shelf.Unicode.DecodeAny
import Derived.Shelf.Slices.Equal
import Derived.Shelf.Slices.CompactS
import Derived.Shelf.Slices.Cells
import Derived.Shelf.Slices.In.SortNone
import Derived.Shelf.Slices.Empties2
import Derived.Ground.SlgnProg
import Derived.Shelf.SlicesE.Equal
import Derived.Shelf.SlicesE.Compact
import Derived.Test.YtgfiinkdogbelaaGreatDoorProg
import Derived.Test.YtgfiinkdogbelaaGreatDoorwAmWrite
import Derived.WalkKit
import Derived.RegionTactic
import Derived.Sort.EncStr
import Derived.Test.YtgfiinkdogbelaaGreatDoorwAmCfg
import Derived.Test.YtgfiinkdogbelaaGreatDoorwAmSize
import Derived.Test.YtgfiinkdogbelaaGreatDoorwAmPure
section
namespace Go.Proofs
open Go.Shelf
def Tryz.laysM171_ren : Go.Shelf.Ren := ⟨fun | 171 => 210 | 243 => 227 | 246 => 234 | 283 => 237 | 284 => 238 | 285 => 239 | 286 => 240 | 129 => 184 | 317 => 241 | 318 => 242 | 319 => 243 | 320 => 244 | 337 => 245 | 338 => 246 | n => n, fun | 3 => 3 | 9 => 9 | 2 => 2 | 4 => 4 | 171 => 342 | 0 => 0 | 53 => 280 | 37 => 297 | 5 => 5 | 173 => 344 | 212 => 347 | 51 => 278 | 20 => 20 | 213 => 348 | 46 => 230 | 232 => 350 | 233 => 351 | n => n, fun | 17 => 5 | 18 => 6 | 19 => 7 | n => n⟩
theorem Tryz.laysM171 : Go.Proofs.LaysM.n171 Tryz.prog Tryz.laysM171_ren := {
  mixed := by kernel_rfl
  f129 := Tryz.func184.trans (congrArg some (by kernel_rfl))
  f171 := Tryz.func210.trans (congrArg some (by kernel_rfl))
  f243 := Tryz.func227.trans (congrArg some (by kernel_rfl))
  f246 := Tryz.func234.trans (congrArg some (by kernel_rfl))
  f283 := Tryz.func237.trans (congrArg some (by kernel_rfl))
  f284 := Tryz.func238.trans (congrArg some (by kernel_rfl))
  f285 := Tryz.func239.trans (congrArg some (by kernel_rfl))
  f286 := Tryz.func240.trans (congrArg some (by kernel_rfl))
  f317 := Tryz.func241.trans (congrArg some (by kernel_rfl))
  f318 := Tryz.func242.trans (congrArg some (by kernel_rfl))
  f319 := Tryz.func243.trans (congrArg some (by kernel_rfl))
  f320 := Tryz.func244.trans (congrArg some (by kernel_rfl))
  f337 := Tryz.func245.trans (congrArg some (by kernel_rfl))
  f338 := Tryz.func246.trans (congrArg some (by kernel_rfl))
  t0 := Tryz.underlying0
  a0 := Tryz.isAgg0
  z0 := Tryz.sizeOf0
  v0 := Tryz.zeroValue0
  t2 := Tryz.underlying2
  a2 := Tryz.isAgg2
  z2 := Tryz.sizeOf2
  v2 := Tryz.zeroValue2
  t3 := Tryz.underlying3
  a3 := Tryz.isAgg3
  z3 := Tryz.sizeOf3
  v3 := Tryz.zeroValue3
  t4 := Tryz.underlying4
  a4 := Tryz.isAgg4
  z4 := Tryz.sizeOf4
  v4 := Tryz.zeroValue4
  t5 := Tryz.underlying5
  a5 := Tryz.isAgg5
  z5 := Tryz.sizeOf5
  v5 := Tryz.zeroValue5
  t9 := Tryz.underlying9
  a9 := Tryz.isAgg9
  z9 := Tryz.sizeOf9
  v9 := Tryz.zeroValue9
  t20 := Tryz.underlying20
  a20 := Tryz.isAgg20
  z20 := Tryz.sizeOf20
  v20 := Tryz.zeroValue20
  t37 := Tryz.underlying297
  a37 := Tryz.isAgg297
  z37 := Tryz.sizeOf297
  v37 := Tryz.zeroValue297
  t46 := Tryz.underlying230
  a46 := Tryz.isAgg230
  z46 := Tryz.sizeOf230
  v46 := Tryz.zeroValue230
  t51 := Tryz.underlying278
  a51 := Tryz.isAgg278
  z51 := Tryz.sizeOf278
  v51 := Tryz.zeroValue278
  t53 := Tryz.underlying280
  a53 := Tryz.isAgg280
  z53 := Tryz.sizeOf280
  v53 := Tryz.zeroValue280
  t171 := Tryz.underlying342
  a171 := Tryz.isAgg342
  z171 := Tryz.sizeOf342
  v171 := Tryz.zeroValue342
  t173 := Tryz.underlying344
  a173 := Tryz.isAgg344
  z173 := Tryz.sizeOf344
  v173 := Tryz.zeroValue344
  t212 := Tryz.underlying347
  a212 := Tryz.isAgg347
  z212 := Tryz.sizeOf347
  v212 := Tryz.zeroValue347
  t213 := Tryz.underlying348
  a213 := Tryz.isAgg348
  z213 := Tryz.sizeOf348
  t232 := Tryz.underlying350
  a232 := Tryz.isAgg350
  z232 := Tryz.sizeOf350
  v232 := Tryz.zeroValue350
  t233 := Tryz.underlying351
  a233 := Tryz.isAgg351
  z233 := Tryz.sizeOf351
  v233 := Tryz.zeroValue351
  g17 := by kernel_rfl
  g18 := by kernel_rfl
  g19 := by kernel_rfl
  i0 := by kernel_rfl
  i2 := by kernel_rfl
  i3 := by kernel_rfl
  i4 := by kernel_rfl
  i5 := by kernel_rfl
  i9 := by kernel_rfl
  i20 := by kernel_rfl
  i37 := by kernel_rfl
  i46 := by kernel_rfl
  i51 := by kernel_rfl
  i53 := by kernel_rfl
  i171 := by kernel_rfl
  i173 := by kernel_rfl
  i212 := by kernel_rfl
  i232 := by kernel_rfl
  i233 := by kernel_rfl
  m17 := by kernel_rfl
  m18 := by kernel_rfl
  m19 := by kernel_rfl }
open Go.RowKit Go.Sort Go.Lib in
theorem Tryz.strconv_Itoa (n : Int) (h0 : -9223372036854775808 <= n) (h1 : n <= 9223372036854775807) (w : World) (htab : Lib.TabIs Tryz.prog w "internal/strconv.uint64pow10" .u64 Lib.pow10Tab) :
  Calls Tryz.prog 210 #[.int .i64 n] w fun e w' => e = .returned (.string ⟨(Lib.itoa n).toArray⟩) /\ ∃ k os, w' = grow (w.drewN k) os := Any.strconv_Itoa Tryz.laysM171 n h0 h1 w htab
def Tryz.laysC172_ren : Go.Shelf.Ren := ⟨fun | 172 => 187 | 244 => 208 | 245 => 209 | 247 => 222 | 279 => 223 | 280 => 224 | 281 => 225 | 282 => 226 | 287 => 231 | 316 => 232 | 171 => 210 | 205 => 233 | 321 => 235 | 322 => 236 | 243 => 227 | 246 => 234 | 283 => 237 | 284 => 238 | 285 => 239 | 286 => 240 | 129 => 184 | 317 => 241 | 318 => 242 | 319 => 243 | 320 => 244 | 337 => 245 | 338 => 246 | n => n, fun | 9 => 9 | 3 => 3 | 75 => 283 | 76 => 284 | 4 => 4 | 5 => 5 | 167 => 318 | 37 => 297 | 0 => 0 | 85 => 319 | 2 => 2 | 168 => 321 | 53 => 280 | 175 => 326 | 46 => 230 | 210 => 330 | 127 => 338 | 145 => 341 | 143 => 339 | 21 => 21 | 171 => 342 | 173 => 344 | 212 => 347 | 51 => 278 | 20 => 20 | 213 => 348 | 232 => 350 | 233 => 351 | 80 => 352 | n => n, fun | 15 => 1 | 16 => 2 | 17 => 5 | 18 => 6 | 19 => 7 | n => n⟩
theorem Tryz.laysC172 : Go.Proofs.LaysC.n172 Tryz.prog Tryz.laysC172_ren := {
  mixed := by kernel_rfl
  f129 := Tryz.func184.trans (congrArg some (by kernel_rfl))
  f171 := Tryz.func210.trans (congrArg some (by kernel_rfl))
  f172 := Tryz.func187.trans (congrArg some (by kernel_rfl))
  f205 := Tryz.func233.trans (congrArg some (by kernel_rfl))
  f243 := Tryz.func227.trans (congrArg some (by kernel_rfl))
  f244 := Tryz.func208.trans (congrArg some (by kernel_rfl))
  f245 := Tryz.func209.trans (congrArg some (by kernel_rfl))
  f246 := Tryz.func234.trans (congrArg some (by kernel_rfl))
  f247 := Tryz.func222.trans (congrArg some (by kernel_rfl))
  f279 := Tryz.func223.trans (congrArg some (by kernel_rfl))
  f280 := Tryz.func224.trans (congrArg some (by kernel_rfl))
  f281 := Tryz.func225.trans (congrArg some (by kernel_rfl))
  f282 := Tryz.func226.trans (congrArg some (by kernel_rfl))
  f283 := Tryz.func237.trans (congrArg some (by kernel_rfl))
  f284 := Tryz.func238.trans (congrArg some (by kernel_rfl))
  f285 := Tryz.func239.trans (congrArg some (by kernel_rfl))
  f286 := Tryz.func240.trans (congrArg some (by kernel_rfl))
  f287 := Tryz.func231.trans (congrArg some (by kernel_rfl))
  f316 := Tryz.func232.trans (congrArg some (by kernel_rfl))
  f317 := Tryz.func241.trans (congrArg some (by kernel_rfl))
  f318 := Tryz.func242.trans (congrArg some (by kernel_rfl))
  f319 := Tryz.func243.trans (congrArg some (by kernel_rfl))
  f320 := Tryz.func244.trans (congrArg some (by kernel_rfl))
  f321 := Tryz.func235.trans (congrArg some (by kernel_rfl))
  f322 := Tryz.func236.trans (congrArg some (by kernel_rfl))
  f337 := Tryz.func245.trans (congrArg some (by kernel_rfl))
  f338 := Tryz.func246.trans (congrArg some (by kernel_rfl))
  t0 := Tryz.underlying0
  a0 := Tryz.isAgg0
  z0 := Tryz.sizeOf0
  v0 := Tryz.zeroValue0
  t2 := Tryz.underlying2
  a2 := Tryz.isAgg2
  z2 := Tryz.sizeOf2
  v2 := Tryz.zeroValue2
  t3 := Tryz.underlying3
  a3 := Tryz.isAgg3
  z3 := Tryz.sizeOf3
  v3 := Tryz.zeroValue3
  t4 := Tryz.underlying4
  a4 := Tryz.isAgg4
  z4 := Tryz.sizeOf4
  v4 := Tryz.zeroValue4
  t5 := Tryz.underlying5
  a5 := Tryz.isAgg5
  z5 := Tryz.sizeOf5
  v5 := Tryz.zeroValue5
  t9 := Tryz.underlying9
  a9 := Tryz.isAgg9
  z9 := Tryz.sizeOf9
  v9 := Tryz.zeroValue9
  t20 := Tryz.underlying20
  a20 := Tryz.isAgg20
  z20 := Tryz.sizeOf20
  v20 := Tryz.zeroValue20
  t21 := Tryz.underlying21
  a21 := Tryz.isAgg21
  z21 := Tryz.sizeOf21
  v21 := Tryz.zeroValue21
  t37 := Tryz.underlying297
  a37 := Tryz.isAgg297
  z37 := Tryz.sizeOf297
  v37 := Tryz.zeroValue297
  t46 := Tryz.underlying230
  a46 := Tryz.isAgg230
  z46 := Tryz.sizeOf230
  v46 := Tryz.zeroValue230
  t51 := Tryz.underlying278
  a51 := Tryz.isAgg278
  z51 := Tryz.sizeOf278
  v51 := Tryz.zeroValue278
  t53 := Tryz.underlying280
  a53 := Tryz.isAgg280
  z53 := Tryz.sizeOf280
  v53 := Tryz.zeroValue280
  t75 := Tryz.underlying283
  a75 := Tryz.isAgg283
  z75 := Tryz.sizeOf283
  v75 := Tryz.zeroValue283
  t76 := Tryz.underlying284
  a76 := Tryz.isAgg284
  z76 := Tryz.sizeOf284
  v76 := Tryz.zeroValue284
  t85 := Tryz.underlying319
  a85 := Tryz.isAgg319
  z85 := Tryz.sizeOf319
  v85 := Tryz.zeroValue319
  t127 := Tryz.underlying338
  a127 := Tryz.isAgg338
  z127 := Tryz.sizeOf338
  v127 := Tryz.zeroValue338
  t143 := Tryz.underlying339
  a143 := Tryz.isAgg339
  z143 := Tryz.sizeOf339
  v143 := Tryz.zeroValue339
  t145 := Tryz.underlying341
  a145 := Tryz.isAgg341
  z145 := Tryz.sizeOf341
  v145 := Tryz.zeroValue341
  t167 := Tryz.underlying318
  a167 := Tryz.isAgg318
  z167 := Tryz.sizeOf318
  v167 := Tryz.zeroValue318
  t168 := Tryz.underlying321
  a168 := Tryz.isAgg321
  z168 := Tryz.sizeOf321
  v168 := Tryz.zeroValue321
  t171 := Tryz.underlying342
  a171 := Tryz.isAgg342
  z171 := Tryz.sizeOf342
  v171 := Tryz.zeroValue342
  t173 := Tryz.underlying344
  a173 := Tryz.isAgg344
  z173 := Tryz.sizeOf344
  v173 := Tryz.zeroValue344
  t175 := Tryz.underlying326
  a175 := Tryz.isAgg326
  z175 := Tryz.sizeOf326
  v175 := Tryz.zeroValue326
  t210 := Tryz.underlying330
  a210 := Tryz.isAgg330
  z210 := Tryz.sizeOf330
  v210 := Tryz.zeroValue330
  t212 := Tryz.underlying347
  a212 := Tryz.isAgg347
  z212 := Tryz.sizeOf347
  v212 := Tryz.zeroValue347
  t213 := Tryz.underlying348
  a213 := Tryz.isAgg348
  z213 := Tryz.sizeOf348
  t232 := Tryz.underlying350
  a232 := Tryz.isAgg350
  z232 := Tryz.sizeOf350
  v232 := Tryz.zeroValue350
  t233 := Tryz.underlying351
  a233 := Tryz.isAgg351
  z233 := Tryz.sizeOf351
  v233 := Tryz.zeroValue351
  g15 := by kernel_rfl
  g16 := by kernel_rfl
  g17 := by kernel_rfl
  g18 := by kernel_rfl
  g19 := by kernel_rfl
  t80 := Tryz.underlying352
  a80 := Tryz.isAgg352
  z80 := Tryz.sizeOf352
  v80 := Tryz.zeroValue352
  i0 := by kernel_rfl
  i2 := by kernel_rfl
  i3 := by kernel_rfl
  i4 := by kernel_rfl
  i5 := by kernel_rfl
  i9 := by kernel_rfl
  i20 := by kernel_rfl
  i21 := by kernel_rfl
  i37 := by kernel_rfl
  i46 := by kernel_rfl
  i51 := by kernel_rfl
  i53 := by kernel_rfl
  i75 := by kernel_rfl
  i76 := by kernel_rfl
  i80 := by kernel_rfl
  i85 := by kernel_rfl
  i127 := by kernel_rfl
  i143 := by kernel_rfl
  i145 := by kernel_rfl
  i167 := by kernel_rfl
  i168 := by kernel_rfl
  i171 := by kernel_rfl
  i173 := by kernel_rfl
  i175 := by kernel_rfl
  i210 := by kernel_rfl
  i212 := by kernel_rfl
  i232 := by kernel_rfl
  i233 := by kernel_rfl
  m15 := by kernel_rfl
  m16 := by kernel_rfl
  m17 := by kernel_rfl
  m18 := by kernel_rfl
  m19 := by kernel_rfl
  c0 := by kernel_rfl
  c2 := by kernel_rfl
  c3 := by kernel_rfl
  c4 := by kernel_rfl
  c5 := by kernel_rfl
  c9 := by kernel_rfl
  c20 := by kernel_rfl
  c21 := by kernel_rfl
  c37 := by kernel_rfl
  c46 := by kernel_rfl
  c51 := by kernel_rfl
  c53 := by kernel_rfl
  c75 := by kernel_rfl
  c76 := by kernel_rfl
  c80 := by kernel_rfl
  c85 := by kernel_rfl
  c127 := by kernel_rfl
  c143 := by kernel_rfl
  c145 := by kernel_rfl
  c167 := by kernel_rfl
  c168 := by kernel_rfl
  c171 := by kernel_rfl
  c173 := by kernel_rfl
  c175 := by kernel_rfl
  c210 := by kernel_rfl
  c212 := by kernel_rfl
  c213 := by kernel_rfl
  c232 := by kernel_rfl
  c233 := by kernel_rfl }
open Go.RowKit in
theorem Tryz.strconv_Atoi_ok (s : ByteArray) (hmax : s.size <= 9223372036854775806) (v : Int) (h : Lib.atoiAll s.data.toList = .ok v) (w : World) :
  Calls Tryz.prog 187 #[.string s] w fun e w' => e = .returned (.tuple #[.int .i64 v, .nilIface]) /\ (w' = w \/ ∃ t, w' = Lib.bytesWorld w 5 t) := Any.strconv_Atoi_ok Tryz.laysC172 s hmax v h w
open Go.RowKit in
theorem Tryz.strconv_Atoi_syntax (s : ByteArray) (hlim : s.size <= 281474976710656) (h : Lib.atoiAll s.data.toList = Lib.atoiAll []) (ev : Value) (w : World) (hv : w.cell? ⟨1, 0, none⟩ = some ev) (hev : ev = .nilIface \/ ∃ te pe, ev = .iface te pe) :
  Calls Tryz.prog 187 #[.string s] w fun e w' => ∃ N, e = .returned (.tuple #[.int .i64 (0), .iface 321 (.pointer (some ⟨N, 0, none⟩))]) /\ w.heap.size <= N /\ w'.heap[N]? = some (.cells #[.string ⟨#[65, 116, 111, 105]⟩, .string s, ev] 330 (0, 0)) /\ Below w.heap.size w w' := Any.strconv_Atoi_syntax Tryz.laysC172 s hlim h ev w hv hev
open Go.RowKit in
theorem Tryz.strconv_Atoi_range (s : ByteArray) (hlim : s.size <= 281474976710656) (h : Lib.atoiAll s.data.toList = .range) (ev : Value) (w : World) (hv : w.cell? ⟨2, 0, none⟩ = some ev) (hev : ev = .nilIface \/ ∃ te pe, ev = .iface te pe) :
  Calls Tryz.prog 187 #[.string s] w fun e w' => ∃ N, e = .returned (.tuple #[.int .i64 (Lib.atoiSat s.data.toList), .iface 321 (.pointer (some ⟨N, 0, none⟩))]) /\ w.heap.size <= N /\ w'.heap[N]? = some (.cells #[.string ⟨#[65, 116, 111, 105]⟩, .string s, ev] 330 (0, 0)) /\ Below w.heap.size w w' := Any.strconv_Atoi_range Tryz.laysC172 s hlim h ev w hv hev
def Tryz.lays145_ren : Go.Shelf.Ren := ⟨fun | 145 => 142 | 220 => 186 | 219 => 207 | 217 => 218 | 225 => 219 | 224 => 220 | 267 => 221 | 266 => 229 | 314 => 230 | n => n, fun | 9 => 9 | 4 => 4 | 59 => 232 | 3 => 3 | 5 => 5 | 46 => 230 | 146 => 324 | 51 => 278 | n => n, fun | 1 => 0 | n => n⟩
theorem Tryz.lays145 : Go.Proofs.Lays.n145 Tryz.prog Tryz.lays145_ren := {
  mixed := by kernel_rfl
  f145 := Tryz.func142.trans (congrArg some (by kernel_rfl))
  f217 := Tryz.func218.trans (congrArg some (by kernel_rfl))
  f219 := Tryz.func207.trans (congrArg some (by kernel_rfl))
  f220 := Tryz.func186.trans (congrArg some (by kernel_rfl))
  f224 := Tryz.func220.trans (congrArg some (by kernel_rfl))
  f225 := Tryz.func219.trans (congrArg some (by kernel_rfl))
  f266 := Tryz.func229.trans (congrArg some (by kernel_rfl))
  f267 := Tryz.func221.trans (congrArg some (by kernel_rfl))
  f314 := Tryz.func230.trans (congrArg some (by kernel_rfl))
  t3 := Tryz.underlying3
  a3 := Tryz.isAgg3
  z3 := Tryz.sizeOf3
  v3 := Tryz.zeroValue3
  t4 := Tryz.underlying4
  a4 := Tryz.isAgg4
  z4 := Tryz.sizeOf4
  v4 := Tryz.zeroValue4
  t5 := Tryz.underlying5
  a5 := Tryz.isAgg5
  z5 := Tryz.sizeOf5
  v5 := Tryz.zeroValue5
  t9 := Tryz.underlying9
  a9 := Tryz.isAgg9
  z9 := Tryz.sizeOf9
  v9 := Tryz.zeroValue9
  t46 := Tryz.underlying230
  a46 := Tryz.isAgg230
  z46 := Tryz.sizeOf230
  v46 := Tryz.zeroValue230
  t51 := Tryz.underlying278
  a51 := Tryz.isAgg278
  z51 := Tryz.sizeOf278
  v51 := Tryz.zeroValue278
  t59 := Tryz.underlying232
  a59 := Tryz.isAgg232
  z59 := Tryz.sizeOf232
  v59 := Tryz.zeroValue232
  t146 := Tryz.underlying324
  a146 := Tryz.isAgg324
  z146 := Tryz.sizeOf324
  v146 := Tryz.zeroValue324
  g1 := by kernel_rfl }
open Go.RowKit Go.Lib in
theorem Tryz.strings_Cut (s sep : ByteArray) (m : Int) (w : World) (hs : s.size < 4294967281) (hm : w.cell? ⟨0, 0, none⟩ = some (.int .i64 m)) :
  Calls Tryz.prog 142 #[.string s, .string sep] w fun e w' => e = .returned (.tuple #[.string ⟨(Lib.cut s.data.toList sep.data.toList).1.toArray⟩, .string ⟨(Lib.cut s.data.toList sep.data.toList).2.1.toArray⟩, .bool (Lib.cut s.data.toList sep.data.toList).2.2]) /\ ∃ n, w' = w.drewN n := Any.strings_Cut Tryz.lays145 s sep m w hs hm
def Tryz.laysM219_ren : Go.Shelf.Ren := ⟨fun | 219 => 207 | 217 => 218 | 225 => 219 | 224 => 220 | 267 => 221 | 266 => 229 | 314 => 230 | n => n, fun | 9 => 9 | 3 => 3 | 4 => 4 | 5 => 5 | 46 => 230 | 146 => 324 | 51 => 278 | n => n, fun | 1 => 0 | n => n⟩
theorem Tryz.laysM219 : Go.Proofs.LaysM.n219 Tryz.prog Tryz.laysM219_ren := {
  mixed := by kernel_rfl
  f217 := Tryz.func218.trans (congrArg some (by kernel_rfl))
  f219 := Tryz.func207.trans (congrArg some (by kernel_rfl))
  f224 := Tryz.func220.trans (congrArg some (by kernel_rfl))
  f225 := Tryz.func219.trans (congrArg some (by kernel_rfl))
  f266 := Tryz.func229.trans (congrArg some (by kernel_rfl))
  f267 := Tryz.func221.trans (congrArg some (by kernel_rfl))
  f314 := Tryz.func230.trans (congrArg some (by kernel_rfl))
  t3 := Tryz.underlying3
  a3 := Tryz.isAgg3
  z3 := Tryz.sizeOf3
  v3 := Tryz.zeroValue3
  t4 := Tryz.underlying4
  a4 := Tryz.isAgg4
  z4 := Tryz.sizeOf4
  v4 := Tryz.zeroValue4
  t5 := Tryz.underlying5
  a5 := Tryz.isAgg5
  z5 := Tryz.sizeOf5
  v5 := Tryz.zeroValue5
  t9 := Tryz.underlying9
  a9 := Tryz.isAgg9
  z9 := Tryz.sizeOf9
  v9 := Tryz.zeroValue9
  t46 := Tryz.underlying230
  a46 := Tryz.isAgg230
  z46 := Tryz.sizeOf230
  v46 := Tryz.zeroValue230
  t51 := Tryz.underlying278
  a51 := Tryz.isAgg278
  z51 := Tryz.sizeOf278
  v51 := Tryz.zeroValue278
  t146 := Tryz.underlying324
  a146 := Tryz.isAgg324
  z146 := Tryz.sizeOf324
  v146 := Tryz.zeroValue324
  g1 := by kernel_rfl
  i3 := by kernel_rfl
  i4 := by kernel_rfl
  i5 := by kernel_rfl
  i9 := by kernel_rfl
  i46 := by kernel_rfl
  i51 := by kernel_rfl
  i146 := by kernel_rfl
  m1 := by kernel_rfl
  s1_3 := fun w h => Go.Proofs.cell_of_shapedOpen_int (zero := #[.int .i64 0]) (t := 3) h (of_decide_eq_true (by kernel_rfl)) (by kernel_rfl) rfl (by kernel_rfl) (by kernel_rfl) Tryz.underlying3 }
def Tryz.lays190_ren : Go.Shelf.Ren := ⟨fun | 190 => 86 | 125 => 140 | 258 => 139 | 128 => 183 | 129 => 184 | 302 => 174 | 303 => 175 | 304 => 176 | 305 => 177 | 306 => 178 | 307 => 179 | 308 => 180 | 309 => 181 | 310 => 182 | 333 => 198 | 329 => 199 | 330 => 200 | 334 => 201 | 335 => 202 | 336 => 203 | 344 => 214 | n => n, fun | 31 => 41 | 9 => 9 | 3 => 3 | 46 => 230 | 0 => 0 | 51 => 278 | 53 => 280 | 4 => 4 | 183 => 271 | 182 => 270 | 131 => 224 | 5 => 5 | 218 => 298 | 222 => 302 | 228 => 311 | 229 => 312 | n => n, fun | n => n⟩
theorem Tryz.lays190 : Go.Proofs.Lays.n190 Tryz.prog Tryz.lays190_ren := {
  mixed := by kernel_rfl
  f125 := Tryz.func140.trans (congrArg some (by kernel_rfl))
  f128 := Tryz.func183.trans (congrArg some (by kernel_rfl))
  f129 := Tryz.func184.trans (congrArg some (by kernel_rfl))
  f190 := Tryz.func86.trans (congrArg some (by kernel_rfl))
  f258 := Tryz.func139.trans (congrArg some (by kernel_rfl))
  f302 := Tryz.func174.trans (congrArg some (by kernel_rfl))
  f303 := Tryz.func175.trans (congrArg some (by kernel_rfl))
  f304 := Tryz.func176.trans (congrArg some (by kernel_rfl))
  f305 := Tryz.func177.trans (congrArg some (by kernel_rfl))
  f306 := Tryz.func178.trans (congrArg some (by kernel_rfl))
  f307 := Tryz.func179.trans (congrArg some (by kernel_rfl))
  f308 := Tryz.func180.trans (congrArg some (by kernel_rfl))
  f309 := Tryz.func181.trans (congrArg some (by kernel_rfl))
  f310 := Tryz.func182.trans (congrArg some (by kernel_rfl))
  f329 := Tryz.func199.trans (congrArg some (by kernel_rfl))
  f330 := Tryz.func200.trans (congrArg some (by kernel_rfl))
  f333 := Tryz.func198.trans (congrArg some (by kernel_rfl))
  f334 := Tryz.func201.trans (congrArg some (by kernel_rfl))
  f335 := Tryz.func202.trans (congrArg some (by kernel_rfl))
  f336 := Tryz.func203.trans (congrArg some (by kernel_rfl))
  f344 := Tryz.func214.trans (congrArg some (by kernel_rfl))
  t0 := Tryz.underlying0
  a0 := Tryz.isAgg0
  z0 := Tryz.sizeOf0
  v0 := Tryz.zeroValue0
  t3 := Tryz.underlying3
  a3 := Tryz.isAgg3
  z3 := Tryz.sizeOf3
  v3 := Tryz.zeroValue3
  t4 := Tryz.underlying4
  a4 := Tryz.isAgg4
  z4 := Tryz.sizeOf4
  v4 := Tryz.zeroValue4
  t5 := Tryz.underlying5
  a5 := Tryz.isAgg5
  z5 := Tryz.sizeOf5
  v5 := Tryz.zeroValue5
  t9 := Tryz.underlying9
  a9 := Tryz.isAgg9
  z9 := Tryz.sizeOf9
  v9 := Tryz.zeroValue9
  t31 := Tryz.underlying41
  a31 := Tryz.isAgg41
  z31 := Tryz.sizeOf41
  v31 := Tryz.zeroValue41
  t46 := Tryz.underlying230
  a46 := Tryz.isAgg230
  z46 := Tryz.sizeOf230
  v46 := Tryz.zeroValue230
  t51 := Tryz.underlying278
  a51 := Tryz.isAgg278
  z51 := Tryz.sizeOf278
  v51 := Tryz.zeroValue278
  t53 := Tryz.underlying280
  a53 := Tryz.isAgg280
  z53 := Tryz.sizeOf280
  v53 := Tryz.zeroValue280
  t131 := Tryz.underlying224
  a131 := Tryz.isAgg224
  z131 := Tryz.sizeOf224
  v131 := Tryz.zeroValue224
  t182 := Tryz.underlying270
  a182 := Tryz.isAgg270
  z182 := Tryz.sizeOf270
  v182 := Tryz.zeroValue270
  t183 := Tryz.underlying271
  a183 := Tryz.isAgg271
  z183 := Tryz.sizeOf271
  v183 := Tryz.zeroValue271
  t218 := Tryz.underlying298
  a218 := Tryz.isAgg298
  z218 := Tryz.sizeOf298
  v218 := Tryz.zeroValue298
  t222 := Tryz.underlying302
  a222 := Tryz.isAgg302
  z222 := Tryz.sizeOf302
  v222 := Tryz.zeroValue302
  t228 := Tryz.underlying311
  a228 := Tryz.isAgg311
  z228 := Tryz.sizeOf311
  v228 := Tryz.zeroValue311
  t229 := Tryz.underlying312
  a229 := Tryz.isAgg312
  z229 := Tryz.sizeOf312
  v229 := Tryz.zeroValue312 }
open Go.Sort Go.RowKit in
theorem Tryz.slices_Sort_string (blk off cap : Nat) (ss : List (List UInt8)) (w : World) (hH : Holds encStr w blk off ss.toArray) (hblk : blk < w.heap.size) (hsz : ss.length < 4611686018427387904) :
  Calls Tryz.prog 86 #[.slice (some ⟨blk, off, none⟩) ss.length cap] w fun e w' =>
   e = .returned (.tuple #[]) /\ ∃ n os, w' = grow (putRow encStr (Sort.ahead w n) blk off (ss.mergeSort fun x y => decide (x <= y)).toArray) os := Any.slices_Sort_string Tryz.lays190 blk off cap ss w hH hblk hsz
def Tryz.lays146_ren : Go.Shelf.Ren := ⟨fun | 146 => 141 | 221 => 185 | 268 => 204 | 138 => 205 | 143 => 206 | 195 => 215 | 197 => 216 | 218 => 217 | 219 => 207 | 260 => 228 | 217 => 218 | 225 => 219 | 224 => 220 | 267 => 221 | 266 => 229 | 314 => 230 | n => n, fun | 9 => 9 | 31 => 41 | 3 => 3 | 4 => 4 | 0 => 0 | 105 => 315 | 21 => 21 | 5 => 5 | 46 => 230 | 119 => 333 | 139 => 336 | 138 => 335 | 146 => 324 | 51 => 278 | n => n, fun | 1 => 0 | 3 => 3 | 4 => 4 | n => n⟩
theorem Tryz.lays146 : Go.Proofs.Lays.n146 Tryz.prog Tryz.lays146_ren := {
  mixed := by kernel_rfl
  f138 := Tryz.func205.trans (congrArg some (by kernel_rfl))
  f143 := Tryz.func206.trans (congrArg some (by kernel_rfl))
  f146 := Tryz.func141.trans (congrArg some (by kernel_rfl))
  f195 := Tryz.func215.trans (congrArg some (by kernel_rfl))
  f197 := Tryz.func216.trans (congrArg some (by kernel_rfl))
  f217 := Tryz.func218.trans (congrArg some (by kernel_rfl))
  f218 := Tryz.func217.trans (congrArg some (by kernel_rfl))
  f219 := Tryz.func207.trans (congrArg some (by kernel_rfl))
  f221 := Tryz.func185.trans (congrArg some (by kernel_rfl))
  f224 := Tryz.func220.trans (congrArg some (by kernel_rfl))
  f225 := Tryz.func219.trans (congrArg some (by kernel_rfl))
  f260 := Tryz.func228.trans (congrArg some (by kernel_rfl))
  f266 := Tryz.func229.trans (congrArg some (by kernel_rfl))
  f267 := Tryz.func221.trans (congrArg some (by kernel_rfl))
  f268 := Tryz.func204.trans (congrArg some (by kernel_rfl))
  f314 := Tryz.func230.trans (congrArg some (by kernel_rfl))
  t0 := Tryz.underlying0
  a0 := Tryz.isAgg0
  z0 := Tryz.sizeOf0
  v0 := Tryz.zeroValue0
  t3 := Tryz.underlying3
  a3 := Tryz.isAgg3
  z3 := Tryz.sizeOf3
  v3 := Tryz.zeroValue3
  t4 := Tryz.underlying4
  a4 := Tryz.isAgg4
  z4 := Tryz.sizeOf4
  v4 := Tryz.zeroValue4
  t5 := Tryz.underlying5
  a5 := Tryz.isAgg5
  z5 := Tryz.sizeOf5
  v5 := Tryz.zeroValue5
  t9 := Tryz.underlying9
  a9 := Tryz.isAgg9
  z9 := Tryz.sizeOf9
  v9 := Tryz.zeroValue9
  t21 := Tryz.underlying21
  a21 := Tryz.isAgg21
  z21 := Tryz.sizeOf21
  v21 := Tryz.zeroValue21
  t31 := Tryz.underlying41
  a31 := Tryz.isAgg41
  z31 := Tryz.sizeOf41
  v31 := Tryz.zeroValue41
  t46 := Tryz.underlying230
  a46 := Tryz.isAgg230
  z46 := Tryz.sizeOf230
  v46 := Tryz.zeroValue230
  t51 := Tryz.underlying278
  a51 := Tryz.isAgg278
  z51 := Tryz.sizeOf278
  v51 := Tryz.zeroValue278
  t105 := Tryz.underlying315
  a105 := Tryz.isAgg315
  z105 := Tryz.sizeOf315
  v105 := Tryz.zeroValue315
  t119 := Tryz.underlying333
  a119 := Tryz.isAgg333
  z119 := Tryz.sizeOf333
  t138 := Tryz.underlying335
  a138 := Tryz.isAgg335
  z138 := Tryz.sizeOf335
  v138 := Tryz.zeroValue335
  t139 := Tryz.underlying336
  a139 := Tryz.isAgg336
  z139 := Tryz.sizeOf336
  v139 := Tryz.zeroValue336
  t146 := Tryz.underlying324
  a146 := Tryz.isAgg324
  z146 := Tryz.sizeOf324
  v146 := Tryz.zeroValue324
  g1 := by kernel_rfl
  g3 := by kernel_rfl
  g4 := by kernel_rfl }
open Go.RowKit Go.Lib in
theorem Tryz.strings_Split (s sep : ByteArray) (m : Int) (w : World) (hs : s.size < 4294967281) (hm : w.cell? ⟨0, 0, none⟩ = some (.int .i64 m)) (h1 : 1 <= sep.size) :
  Calls Tryz.prog 141 #[.string s, .string sep] w fun e w' =>
   e = .returned (.slice (some ⟨w.heap.size, 0, none⟩) (Lib.countB s sep + 1) (Lib.countB s sep + 1)) /\ w' = w.alloc (.cells ((Lib.splitB sep 0 (Lib.countB s sep) s).map Value.string).toArray 9) := Any.strings_Split Tryz.lays146 (by kernel_rfl) s sep m w hs hm h1
def Tryz.lays194_ren : Go.Shelf.Ren := ⟨fun | 194 => 87 | n => n, fun | 31 => 41 | 9 => 9 | 3 => 3 | 4 => 4 | 0 => 0 | n => n, fun | n => n⟩
theorem Tryz.lays194 : Go.Proofs.Lays.n194 Tryz.prog Tryz.lays194_ren := {
  mixed := by kernel_rfl
  f194 := Tryz.func87.trans (congrArg some (by kernel_rfl))
  t0 := Tryz.underlying0
  a0 := Tryz.isAgg0
  z0 := Tryz.sizeOf0
  v0 := Tryz.zeroValue0
  t3 := Tryz.underlying3
  a3 := Tryz.isAgg3
  z3 := Tryz.sizeOf3
  v3 := Tryz.zeroValue3
  t4 := Tryz.underlying4
  a4 := Tryz.isAgg4
  z4 := Tryz.sizeOf4
  v4 := Tryz.zeroValue4
  t9 := Tryz.underlying9
  a9 := Tryz.isAgg9
  z9 := Tryz.sizeOf9
  v9 := Tryz.zeroValue9
  t31 := Tryz.underlying41
  a31 := Tryz.isAgg41
  z31 := Tryz.sizeOf41
  v31 := Tryz.zeroValue41 }
open Go.RowKit Go.Lib Go.Sort in
theorem Tryz.slices_Compact_string_arr (blk off cap : Nat) (d : Array (List UInt8)) (w : World) (hH : Holds encStr w blk off d) (hsz : d.size <= 9223372036854775807) (hcap : d.size <= cap) :
  Calls Tryz.prog 87 #[.slice (some ⟨blk, off, none⟩) d.size cap] w fun e w' => e = .returned (.slice (some ⟨blk, off, none⟩) (compactUpTo d d.size).length cap) /\ ∃ q, w' = putRow encStr (Sort.ahead w q) blk off (compactUpTo d d.size ++ List.replicate (d.size - (compactUpTo d d.size).length) []).toArray := Any.slices_Compact_string_arr Tryz.lays194 blk off cap d w hH hsz hcap
open Go.RowKit Go.Lib Go.Sort in
theorem Tryz.slices_Compact_string_empty (a : Option Addr) (cap : Nat) (w : World) :
  Calls Tryz.prog 87 #[.slice a 0 cap] w fun e w' => e = .returned (.slice a 0 cap) /\ w' = w := Any.slices_Compact_string_empty Tryz.lays194 a cap w
open Go.RowKit Go.Sort in
theorem Tryz.slices_Sort_string_none (p : Option Addr) (cap : Nat) (w : World) :
  Calls Tryz.prog 86 #[.slice p 0 cap] w fun e w' => e = .returned (.tuple #[]) /\ w' = w := Any.slices_Sort_string_none Tryz.lays190 p cap w
end Go.Proofs
end
section
set_option linter.unusedVariables false
set_option linter.unusedSimpArgs false
namespace Go.Proofs
open Go Go.Am Go.Shelf Go.RowKit Go.Lib Go.Sort
theorem kept_below {w w' : World} (h : Below w.heap.size w w') : Kept w w' := ⟨h.os, h.tape, h.output, h.size, fun k hk => h.block k hk⟩
theorem Tryz.formatInt (n : Int) (h0 : -9223372036854775808 <= n) (h1 : n <= 9223372036854775807) (w : World) (htab : Lib.TabIs Tryz.prog w "internal/strconv.uint64pow10" .u64 Lib.pow10Tab) :
  Calls Tryz.prog 188 #[.int .i64 n] w fun e w' => e = .returned (.string ⟨(Lib.itoa n).toArray⟩) /\ Kept w w' := by
 have h := Tryz.strconv_Itoa n h0 h1 w htab
 go_enter Tryz.func188, Tryz.ntmps188
 go_wp2_with (go_at_call 210; refine h.mono ?_; rintro e w1 ⟨rfl, k, os, rfl⟩)
 go_ret
 exact ⟨rfl, Kept.grow _ _ _⟩
set_option maxHeartbeats 2000000 in
set_option maxRecDepth 100000 in
theorem Tryz.parse_err (s : ByteArray) (v : Int) (te : TypeId) (w : World) (hA : Calls Tryz.prog 187 #[.string s] w fun e w' => ∃ N, e = .returned (.tuple #[.int .i64 v, .iface te (.pointer (some ⟨N, 0, none⟩))]) /\ Kept w w') :
  Calls Tryz.prog 143 #[.string s] w fun e w' => e = .returned (.tuple #[.int .i64 0, .bool false]) /\ Kept w w' := by
 go_enter Tryz.func143, Tryz.ntmps143
 go_wp2_with (first
  | (go_at_call 187; refine hA.mono ?_; rintro e w1 ⟨N, rfl, k1⟩))
 go_ret2
 exact ⟨rfl, k1⟩
set_option maxHeartbeats 2000000 in
set_option maxRecDepth 100000 in
theorem Tryz.parse_lo (s : ByteArray) (v : Int) (hv : v < 0) (w : World) (hA : Calls Tryz.prog 187 #[.string s] w fun e w' => e = .returned (.tuple #[.int .i64 v, .nilIface]) /\ Kept w w') :
  Calls Tryz.prog 143 #[.string s] w fun e w' => e = .returned (.tuple #[.int .i64 0, .bool false]) /\ Kept w w' := by
 go_enter Tryz.func143, Tryz.ntmps143
 go_wp2_with (first
  | (go_at_call 187; refine hA.mono ?_; rintro e w1 ⟨rfl, k1⟩))
 go_ret2
 exact ⟨rfl, k1⟩
set_option maxHeartbeats 2000000 in
set_option maxRecDepth 100000 in
theorem Tryz.parse_hi (s : ByteArray) (v : Int) (hv : ¬ v < 0) (hv2 : 1000000000000 < v) (w : World) (hA : Calls Tryz.prog 187 #[.string s] w fun e w' => e = .returned (.tuple #[.int .i64 v, .nilIface]) /\ Kept w w') :
  Calls Tryz.prog 143 #[.string s] w fun e w' => e = .returned (.tuple #[.int .i64 0, .bool false]) /\ Kept w w' := by
 go_enter Tryz.func143, Tryz.ntmps143
 go_wp2_with (first
  | (go_at_call 187; refine hA.mono ?_; rintro e w1 ⟨rfl, k1⟩))
 go_ret2
 exact ⟨rfl, k1⟩
set_option maxHeartbeats 2000000 in
set_option maxRecDepth 100000 in
theorem Tryz.parse_ne (s t : ByteArray) (v : Int) (hv : ¬ v < 0) (hv2 : ¬ 1000000000000 < v) (hq : (t.toList == s.toList) = false) (w : World) (hA : Calls Tryz.prog 187 #[.string s] w fun e w' => e = .returned (.tuple #[.int .i64 v, .nilIface]) /\ Kept w w') (hF : ∀ w1, Kept w w1 -> Calls Tryz.prog 188 #[.int .i64 v] w1 fun e w' => e = .returned (.string t) /\ Kept w1 w') :
  Calls Tryz.prog 143 #[.string s] w fun e w' => e = .returned (.tuple #[.int .i64 0, .bool false]) /\ Kept w w' := by
 go_enter Tryz.func143, Tryz.ntmps143
 go_wp2_with (first
  | (go_at_call 187; refine hA.mono ?_; rintro e w1 ⟨rfl, k1⟩)
  | (go_at_call 188; refine (hF _ k1).mono ?_; rintro e w2 ⟨rfl, k2⟩))
 go_ret2
 exact ⟨rfl, k1.trans k2⟩
set_option maxHeartbeats 2000000 in
set_option maxRecDepth 100000 in
theorem Tryz.parse_eq (s t : ByteArray) (v : Int) (hv : ¬ v < 0) (hv2 : ¬ 1000000000000 < v) (hq : (t.toList == s.toList) = true) (w : World) (hA : Calls Tryz.prog 187 #[.string s] w fun e w' => e = .returned (.tuple #[.int .i64 v, .nilIface]) /\ Kept w w') (hF : ∀ w1, Kept w w1 -> Calls Tryz.prog 188 #[.int .i64 v] w1 fun e w' => e = .returned (.string t) /\ Kept w1 w') :
  Calls Tryz.prog 143 #[.string s] w fun e w' => e = .returned (.tuple #[.int .i64 v, .bool true]) /\ Kept w w' := by
 go_enter Tryz.func143, Tryz.ntmps143
 go_wp2_with (first
  | (go_at_call 187; refine hA.mono ?_; rintro e w1 ⟨rfl, k1⟩)
  | (go_at_call 188; refine (hF _ k1).mono ?_; rintro e w2 ⟨rfl, k2⟩))
 go_ret2
 exact ⟨rfl, k1.trans k2⟩
theorem Tryz.parseInt (s : ByteArray) (w : World) (hg : globOk w) (hs : s.size <= 281474976710656) :
  Calls Tryz.prog 143 #[.string s] w fun e w' => e = .returned (.tuple #[.int .i64 (pInt s.data.toList).1, .bool (pInt s.data.toList).2]) /\ Kept w w' := by
 have hg0 := hg
 obtain ⟨⟨_, ⟨e1, h1, h1'⟩, ⟨e2, h2, h2'⟩, htab⟩, hgn⟩ := hg
 cases h : Lib.atoiAll s.data.toList with
 | ok v =>
  have hA : Calls Tryz.prog 187 #[.string s] w fun e w' => e = .returned (.tuple #[.int .i64 v, .nilIface]) /\ Kept w w' := (Tryz.strconv_Atoi_ok s (by omega) v h w).mono (fun e w' he => by
   obtain ⟨rfl, hw⟩ := he
   refine ⟨rfl, ?_⟩
   rcases hw with rfl | ⟨t, rfl⟩
   ·exact Kept.refl _
   ·exact kept_below (Lib.bytesWorld_below _ _ _))
  have e0 : pInt s.data.toList = if 0 <= v /\ v <= 1000000000000 /\ Lib.itoa v = s.data.toList then (v, true) else (0, false) := by unfold pInt; rw [h]
  rw [e0]
  by_cases c1 : v < 0
  ·rw [if_neg (by omega)]
   exact Tryz.parse_lo s v c1 w hA
  ·by_cases c2 : 1000000000000 < v
   ·rw [if_neg (by omega)]
    exact Tryz.parse_hi s v c1 c2 w hA
   ·have hF : ∀ w1, Kept w w1 -> Calls Tryz.prog 188 #[.int .i64 v] w1 fun e w' => e = .returned (.string ⟨(Lib.itoa v).toArray⟩) /\ Kept w1 w' := fun w1 hk => Tryz.formatInt v (by omega) (by omega) w1 (hk.glob hg0).1.2.2.2
    by_cases c3 : Lib.itoa v = s.data.toList
    ·rw [if_pos ⟨by omega, by omega, c3⟩]
     exact Tryz.parse_eq s ⟨(Lib.itoa v).toArray⟩ v c1 c2 (by rw [Lib.toList_data, Lib.toList_data, beq_iff_eq]; exact c3) w hA hF
    ·rw [if_neg (fun h => c3 h.2.2)]
     exact Tryz.parse_ne s ⟨(Lib.itoa v).toArray⟩ v c1 c2 (by rw [Lib.toList_data, Lib.toList_data, beq_eq_false_iff_ne]; exact c3) w hA hF
 | range =>
  have e0 : pInt s.data.toList = (0, false) := by unfold pInt; rw [h]
  rw [e0]
  exact Tryz.parse_err s _ _ w ((Tryz.strconv_Atoi_range s hs h e2 w h2 h2').mono (fun e w' he => by obtain ⟨N, rfl, _, _, hb⟩ := he; exact ⟨N, rfl, kept_below hb⟩))
 | _ =>
  have e0 : pInt s.data.toList = (0, false) := by unfold pInt; rw [h]
  rw [e0]
  exact Tryz.parse_err s 0 _ w ((Tryz.strconv_Atoi_syntax s hs h e1 w h1 h1').mono (fun e w' he => by obtain ⟨N, rfl, _, _, hb⟩ := he; exact ⟨N, rfl, kept_below hb⟩))
end Go.Proofs
end
section
set_option linter.unusedVariables false
set_option linter.unusedSimpArgs false
namespace Go.Am
open Go Go.Proofs Go.RowKit Go.Sort
theorem holds_of_rows {w : World} {b o : Nat} {l : List (List UInt8)} {cur : Array Value} {ty : TypeId} {S : Nat -> Prop} (hg : w.heap[b]? = some (.cells cur ty (0, 0))) (h : Rows w S 1 (rStr l) b o) : Holds encStr w b o l.toArray := by
 obtain ⟨_, g, h2, h3⟩ := h
 intro t ht
 have ht' : t < l.length := by simpa using ht
 have hc := (h2 t 0 (by rw [rStr_len]; exact ht') (by decide)).1
 have hr := h3 t (.str l[t]) 0 (.str l[t]) (by rw [show rStr l = l.map V.str from rfl, List.getElem?_map, List.getElem?_eq_getElem ht']; rfl) rfl
 obtain ⟨x, hx, hxl⟩ := rd_str hr
 refine ⟨?_, by simp [World.frozen?, hg]⟩
 rw [Nat.mul_one, Nat.add_zero] at hc
 rw [hc, hx]
 have : l.toArray[t]! = x.data.toList := by rw [hxl]; simp [ht']
 rw [this]
theorem block_putS {w : World} {blk o : Nat} {d : Array (List UInt8)} {cur : Array Value} {ty : TypeId} (h : w.heap[blk]? = some (.cells cur ty (0, 0))) (hs : o + d.size <= cur.size) :
  ∃ cur' : Array Value, (putRow encStr w blk o d).heap[blk]? = some (.cells cur' ty (0, 0)) /\ cur'.size = cur.size /\ ∀ t, t < d.size -> cur'[o + t]? = some (encStr d[t]!) := by
 refine ⟨putCells encStr o d cur, ?_, by simp [putCells], fun t ht => ?_⟩
 ·simp [putRow, mapBlock, Array.getElem?_modify, h, onCells]
 ·have : o + t < cur.size := by omega
  simp [putCells, Array.getElem?_mapIdx, this, ht]
theorem put_says {w : World} {b o n : Nat} {m : List (List UInt8)} {cur : Array Value} {ty : TypeId} {os : Array Obj} (hg : w.heap[b]? = some (.cells cur ty (0, 0))) (hs : o + m.length <= cur.size) :
  KeptBut (fun k => k = b) w (grow (putRow encStr (Sort.ahead w n) b o m.toArray) os) /\ (∃ cur' ty', (grow (putRow encStr (Sort.ahead w n) b o m.toArray) os).heap[b]? = some (.cells cur' ty' (0, 0)) /\ cur'.size = cur.size) /\
   Rows (grow (putRow encStr (Sort.ahead w n) b o m.toArray) os) (fun _ => False) 1 (rStr m) b o := by
 have hlt : b < w.heap.size := (Array.getElem?_eq_some_iff.1 hg).1
 obtain ⟨cur', hg2, hs2, hc2⟩ := block_putS (w := Sort.ahead w n) (blk := b) (o := o) (d := m.toArray) (cur := cur) (ty := ty) hg (by simpa using hs)
 have hg3 : (grow (putRow encStr (Sort.ahead w n) b o m.toArray) os).heap[b]? = some (.cells cur' ty (0, 0)) := by
  rw [heap_grow_old _ _ (by rw [size_putRow, heap_ahead]; exact hlt)]
  exact hg2
 refine ⟨⟨rfl, rfl, rfl, ?_, fun k hk hp => ?_⟩, ⟨cur', ty, hg3, hs2⟩, fun x hx => ?_, fun i _ => encStr m.toArray[i]!, fun i j hi hj => ?_, fun i x j c hx hc => ?_⟩
 ·simp only [grow, Array.size_append, size_putRow, heap_ahead]
  omega
 ·rw [heap_grow_old _ _ (by rw [size_putRow, heap_ahead]; exact hk)]
  simp [putRow, mapBlock, Sort.ahead, Array.getElem?_modify, show b ≠ k from fun e => hp e.symm]
 ·obtain ⟨p, _, rfl⟩ := List.mem_map.1 hx
  rfl
 ·rw [rStr_len] at hi
  have hj0 : j = 0 := by omega
  subst hj0
  refine ⟨?_, rfl⟩
  simp only [World.cell?, hg3, Nat.mul_one, Nat.add_zero]
  exact hc2 i (by simpa using hi)
 ·have hi := (gs_ hx).1
  rw [rStr_len] at hi
  have hx2 : x = .str m[i] := by
   rw [show rStr m = m.map V.str from rfl, List.getElem?_map, List.getElem?_eq_getElem hi] at hx
   injection hx with hx
   exact hx.symm
  subst hx2
  have hj0 : c = .str m[i] := by
   match j, hc with
   | 0, hc => injection hc with hc; exact hc.symm
   | j + 1, hc => simp [V.cells] at hc
  subst hj0
  show Rd _ _ _ (encStr m.toArray[i]!)
  have e5 : m.toArray[i]! = m[i] := by simp [hi]
  rw [e5]
  exact .str _ _ rfl
theorem flat_rStr (l : List (List UInt8)) : ∀ x ∈ rStr l, ∀ c ∈ x.cells, noSl c := fun x hx c hc => by
 obtain ⟨p, _, rfl⟩ := List.mem_map.1 hx
 simp only [CK.enc, V.cells, List.mem_cons, List.not_mem_nil, or_false] at hc
 subst hc
 exact trivial
theorem wr_sort {P : Program} {f : Nat} (hfn : ∃ fn, P.funcs[f]? = some fn /\ fn.body.isNone = false /\ (fn.name == "runtime.NumGoroutine") = false)
  (h0 : ∀ (cap : Nat) (w : World), Calls P f #[.slice none 0 cap] w fun e w' => e = .returned (.tuple #[]) /\ w' = w)
  (h1 : ∀ (blk off cap : Nat) (ss : List (List UInt8)) (w : World), Holds encStr w blk off ss.toArray -> blk < w.heap.size -> ss.length < 4611686018427387904 ->
   Calls P f #[.slice (some ⟨blk, off, none⟩) ss.length cap] w fun e w' => e = .returned (.tuple #[]) /\ ∃ n os, w' = grow (putRow encStr (Sort.ahead w n) blk off (ss.mergeSort fun x y => decide (x <= y)).toArray) os) : WrFn P f sortW := by
 refine ⟨hfn, fun xs ys n hg => ?_⟩
 unfold sortW at hg
 simp only at hg
 split at hg
 ·rename_i l hl
  split at hg
  ·rename_i hlen
   injection hg with hg
   injection hg with hy hn
   subst hy
   subst hn
   have hxl := strsOf_inv hl
   have hxr : xs = rStr l := hxl
   have hm : (sortS l).length = l.length := List.length_mergeSort l
   subst hxr
   refine ⟨by rw [rStr_len, rStr_len, hm], Nat.zero_le _, flat_rStr _, fun _ w _ => ?_, fun w b o cap cur ty hgl hgn hgb hc1 hc2 hc3 hr hf => ?_⟩
   ·refine (h0 0 w).mono ?_
    rintro e w' ⟨rfl, rfl⟩
    exact ⟨rfl, rfl, rfl, rfl, Nat.le_refl _, fun _ _ _ => rfl⟩
   ·have hlt : b < w.heap.size := (Array.getElem?_eq_some_iff.1 hgb).1
    have hcall := h1 b o cap l w (holds_of_rows hgb hr) hlt (by omega)
    rw [rStr_len]
    refine hcall.mono ?_
    rintro e w' ⟨rfl, n, os, rfl⟩
    rw [rStr_len] at hc1
    have hc3 : o + cap * 1 <= cur.size := hc3
    have := put_says (w := w) (b := b) (o := o) (n := n) (m := sortS l) (os := os) hgb (by omega)
    exact ⟨rfl, this⟩
  ·cases hg
 ·cases hg
theorem wr_comp {P : Program} {f : Nat} (hfn : ∃ fn, P.funcs[f]? = some fn /\ fn.body.isNone = false /\ (fn.name == "runtime.NumGoroutine") = false)
  (h0 : ∀ (cap : Nat) (w : World), Calls P f #[.slice none 0 cap] w fun e w' => e = .returned (.slice none 0 cap) /\ w' = w)
  (h1 : ∀ (blk off cap : Nat) (d : Array (List UInt8)) (w : World), Holds encStr w blk off d -> d.size <= 9223372036854775807 -> d.size <= cap ->
   Calls P f #[.slice (some ⟨blk, off, none⟩) d.size cap] w fun e w' => e = .returned (.slice (some ⟨blk, off, none⟩) (Lib.compactUpTo d d.size).length cap) /\ ∃ q, w' = putRow encStr (Sort.ahead w q) blk off (Lib.compactUpTo d d.size ++ List.replicate (d.size - (Lib.compactUpTo d d.size).length) []).toArray) : WrFn P f compactW := by
 refine ⟨hfn, fun xs ys n hg => ?_⟩
 unfold compactW at hg
 simp only at hg
 split at hg
 ·rename_i l hl
  split at hg
  ·rename_i hlen
   injection hg with hg
   injection hg with hy hn
   subst hy
   subst hn
   have hxr : xs = rStr l := strsOf_inv hl
   have hm : (compS l).length <= l.length := by
    unfold compS Lib.compact Lib.compactUpTo
    rw [List.length_map]
    exact Nat.le_trans (List.length_filter_le _ _) (by simp)
   subst hxr
   refine ⟨by rw [rStr_len, rStr_len, List.length_append, List.length_replicate]; omega, by rw [rStr_len]; exact hm, flat_rStr _, fun _ w _ => ?_, fun w b o cap cur ty hgl hgn hgb hc1 hc2 hc3 hr hf => ?_⟩
   ·refine (h0 0 w).mono ?_
    rintro e w' ⟨rfl, rfl⟩
    exact ⟨rfl, rfl, rfl, rfl, Nat.le_refl _, fun _ _ _ => rfl⟩
   ·rw [rStr_len] at hc1 ⊢
    have hcall := h1 b o cap l.toArray w (holds_of_rows hgb hr) (by simp only [List.size_toArray]; omega) (by simpa using hc1)
    rw [List.size_toArray] at hcall
    refine hcall.mono ?_
    rintro e w' ⟨rfl, q, rfl⟩
    have hc3 : o + cap * 1 <= cur.size := hc3
    have := put_says (w := w) (b := b) (o := o) (n := q) (m := compS l ++ List.replicate (l.length - (compS l).length) []) (os := #[]) hgb (by rw [List.length_append, List.length_replicate]; omega)
    rw [grow_empty] at this
    exact ⟨rfl, this⟩
  ·cases hg
 ·cases hg
end Go.Am
end
section
set_option linter.unusedVariables false
namespace Go.Am
open Go Go.Proofs
theorem wrFn86 : WrFn Go.Proofs.Tryz.prog 86 sortW := wr_sort ⟨Tryz.f86, Tryz.func86, rfl, by decide⟩ (fun cap w => Tryz.slices_Sort_string_none none cap w) (fun blk off cap ss w h1 h2 h3 => Tryz.slices_Sort_string blk off cap ss w h1 h2 h3)
theorem wrFn87 : WrFn Go.Proofs.Tryz.prog 87 compactW := wr_comp ⟨Tryz.f87, Tryz.func87, rfl, by decide⟩ (fun cap w => Tryz.slices_Compact_string_empty none cap w) (fun blk off cap d w h1 h2 h3 => Tryz.slices_Compact_string_arr blk off cap d w h1 h2 h3)
theorem wrOk : WrOk Go.Proofs.Tryz.prog cfg := fun f g h => by
 simp only [cfg, wrL, lookN] at h
 split at h
 ·rename_i e; subst e; injection h with h; subst h; exact wrFn86
 split at h
 ·rename_i e; subst e; injection h with h; subst h; exact wrFn87
 cases h
theorem extAns : Answers Go.Proofs.Tryz.prog ext0 := ext_cons (ext_split Tryz.func141 (by kernel_rfl) (by kernel_rfl) (fun s c w hg h => by obtain ⟨m, hm⟩ := hg.1.1; exact Tryz.strings_Split s ⟨#[c]⟩ m w h hm (Nat.le_refl 1))) (ext_cons (ext_scut Tryz.func142 (by kernel_rfl) (by kernel_rfl) (fun a b w hg h => by obtain ⟨m, hm⟩ := hg.1.1; exact Tryz.strings_Cut a b m w h hm)) (ext_cons (ext_pint Tryz.func143 (by kernel_rfl) (by kernel_rfl) Tryz.parseInt) (ext_cons (ext_itoa Tryz.func210 (by kernel_rfl) (by kernel_rfl) (fun n w hg h0 h1 => Tryz.strconv_Itoa n h0 h1 w hg.1.2.2.2)) (ext_nil))))
end Go.Am
end
section
set_option linter.unusedVariables false
set_option linter.unusedSimpArgs false
namespace Go.Am
open Go
section
variable {P : Program} {fl : Nat -> Bool} {n t e : Nat} {vs : List V}
theorem cn_bool (h : Cn P fl n t vs) (hu : P.underlying t = some .bool) : ∃ b, vs = [.bool b] := by
 cases n with
 | zero => cases h
 | succ n => unfold Cn at h; rw [hu] at h; exact h
theorem cn_int {k : IntKind} (h : Cn P fl n t vs) (hu : P.underlying t = some (.int k)) : ∃ m, vs = [.int k m] /\ (Lit.int k m).wf = true := by
 cases n with
 | zero => cases h
 | succ n => unfold Cn at h; rw [hu] at h; exact h
theorem cn_str (h : Cn P fl n t vs) (hu : P.underlying t = some .string) : ∃ s, vs = [.str s] /\ s.length <= maxLen := by
 cases n with
 | zero => cases h
 | succ n => unfold Cn at h; rw [hu] at h; exact h
def fieldsC (P : Program) (fl : Nat -> Bool) (n : Nat) (vs : List V) : List Field -> Prop
 | [] => True
 | f :: fs => Cn P fl n f.type ((vs.drop f.offset).take (P.cellsOf f.type)) /\ fieldsC P fl n vs fs
theorem cn_struct {fs : Array Field} (h : Cn P fl n t vs) (hu : P.underlying t = some (.struct fs)) : ∃ m, vs.length = P.cellsOf t /\ fieldsC P fl m vs fs.toList := by
 cases n with
 | zero => cases h
 | succ n =>
  unfold Cn at h
  rw [hu] at h
  refine ⟨n, h.1, ?_⟩
  have : ∀ l : List Field, (∀ f ∈ l, Cn P fl n f.type ((vs.drop f.offset).take (P.cellsOf f.type))) -> fieldsC P fl n vs l := by
   intro l
   induction l with
   | nil => intro _; trivial
   | cons f l ih => intro g; exact ⟨g f (by simp), ih (fun f hf => g f (by simp [hf]))⟩
  exact this _ h.2
theorem cn_rows {fs : Array Field} (h : Cn P fl n t vs) (hu : P.underlying t = some (.slice e)) (he : P.underlying e = some (.struct fs)) : ∃ m rows, vs = [.sl (P.cellsOf e) (fl e) rows] /\ rows.length <= maxLen /\ ∀ r ∈ rows, ∃ us, Cn P fl m e us /\ r = .agg us := by
 cases n with
 | zero => cases h
 | succ n =>
  unfold Cn at h
  rw [hu] at h
  obtain ⟨rows, h1, h2, h3⟩ := h
  refine ⟨n, rows, h1, h2, fun r hr => ?_⟩
  obtain ⟨us, _, g2, g3⟩ := h3 r hr
  rw [he] at g3
  exact ⟨us, g2, g3⟩
theorem cn_rows1 (h : Cn P fl n t vs) (hu : P.underlying t = some (.slice e)) (he : ∀ fs, P.underlying e ≠ some (.struct fs)) : ∃ m rows, vs = [.sl (P.cellsOf e) (fl e) rows] /\ rows.length <= maxLen /\ ∀ r ∈ rows, ∃ us, Cn P fl m e us /\ r = us.headD .undef := by
 cases n with
 | zero => cases h
 | succ n =>
  unfold Cn at h
  rw [hu] at h
  obtain ⟨rows, h1, h2, h3⟩ := h
  refine ⟨n, rows, h1, h2, fun r hr => ?_⟩
  obtain ⟨us, _, g2, g3⟩ := h3 r hr
  refine ⟨us, g2, ?_⟩
  rw [g3]
  cases hd : P.underlying e with
  | none => rfl
  | some d => cases d <;> first | rfl | exact absurd hd (he _)
theorem pack_struct {fs : Array Field} (hu : P.underlying t = some (.struct fs)) : packT P t vs = .agg vs := by unfold packT; rw [hu]
theorem rows_of {T : Type} {ks : List CK} {g : T -> cellsT ks} {ok : T -> Prop} {l : List V} (h : ∀ r ∈ l, ∃ y, ok y /\ r = rowEnc true ks (g y)) : ∃ ys, l = rows ks g ys /\ ∀ y ∈ ys, ok y := by
 induction l with
 | nil => exact ⟨[], rfl, fun y hy => by cases hy⟩
 | cons r l ih =>
  obtain ⟨ys, h1, h2⟩ := ih (fun r hr => h r (by simp [hr]))
  obtain ⟨y, g1, g2⟩ := h r (by simp)
  exact ⟨y :: ys, by rw [g2, h1]; rfl, fun z hz => (List.mem_cons.1 hz).elim (fun e => e ▸ g1) (fun hz => h2 z hz)⟩
theorem rows1_of {T : Type} {kd : CK} {g : T -> kd.T} {ok : T -> Prop} {l : List V} (h : ∀ r ∈ l, ∃ y, ok y /\ r = kd.enc (g y)) : ∃ ys, l = rows1 kd g ys /\ ∀ y ∈ ys, ok y := by
 induction l with
 | nil => exact ⟨[], rfl, fun y hy => by cases hy⟩
 | cons r l ih =>
  obtain ⟨ys, h1, h2⟩ := ih (fun r hr => h r (by simp [hr]))
  obtain ⟨y, g1, g2⟩ := h r (by simp)
  exact ⟨y :: ys, by rw [g2, h1]; rfl, fun z hz => (List.mem_cons.1 hz).elim (fun e => e ▸ g1) (fun hz => h2 z hz)⟩
end
end Go.Am
end
section
set_option linter.unusedVariables false
set_option linter.unusedSimpArgs false
namespace Go.Am
open Go
section
variable {M T : Type} {ks : List CK} {g : T -> cellsT ks} {size : T -> Nat} {ok : T -> Prop} {z : T} {zero : V} {C : Int}
abbrev OLf := Option (List Leaf ⊕ (Nat × List Leaf))
theorem szS_g (F : cellsT ks -> Int -> (Int -> OLf) -> OLf) (hF : ∀ y m, 0 <= m -> m <= 1048576 -> ok y -> ∀ k, F (g y) m k = k (szL m (size y))) (a : List T) (l : Int) (h0 : 0 <= l) (h1 : l <= 1048576) (h : okL ok a) (k : Int -> Option M) :
  br (decide (IntKind.wrap .i64 (l - ((rows ks g a).length : Int)) < 0)) (
   k (-1)) (
   whileK (fun s1 =>
   br (decide ((lI s1 2) < ((lL s1 0).length : Int))) (
   chk (0 <= (lI s1 2)) <|
   idx true ks (lL s1 0) ((lI s1 2).toNat) fun e2 =>
   F e2 (lI s1 1) fun n3 =>
   br (decide (n3 < 0)) (
   some (.inr (0, [.i n3, .i (-1)]))) (
   some (.inl [.l (lL s1 0), .i n3, .i (IntKind.wrap .i64 ((lI s1 2) + 1))]))) (
   some (.inr (1, [.i (lI s1 1)])))) [.l (rows ks g a), .i (IntKind.wrap .i64 (l - ((rows ks g a).length : Int))), .i 0] fun (r4 : Nat × List Leaf) =>
   if r4.1 = 0 then
   k (lI r4.2 1)
   else
   k (lI r4.2 0)) = k (szL l (a.length + sumL size a)) := by
 simp only [rows_len]
 refine szCut h0 h1 h.1 (fun m e h0 h1 => ?_)
 rw [e]
 refine while_sz (fun (i : Nat) (m : Int) => ([.l (rows ks g a), .i m, .i (i : Int)] : List Leaf)) a size (fun m => (1, [.i m])) (fun i y m hi hm0 hm1 => ?_) (fun m => brN rirr rfl) (fun m => rfl) h0 h1 rfl
 have hlt : i < a.length := (gs_ hi).1
 have hb := h.1
 unfold maxLen at hb
 rcases @szCase m (size y) with ⟨c, e⟩ | ⟨c, e⟩
 ·exact .inl ⟨_, c, brE (rlt hlt) (chkE (Int.natCast_nonneg _) (idxE (i := i) hi ((hF y m hm0 hm1 (h.2 y (List.mem_of_getElem? hi)) _).trans (brE (by rw [e]; decide) rfl)))), rfl⟩
 ·exact .inr ⟨c, brE (rlt hlt) (chkE (Int.natCast_nonneg _) (idxE (i := i) hi ((hF y m hm0 hm1 (h.2 y (List.mem_of_getElem? hi)) _).trans (brN (by rw [e]; omega) (two (fun m j : Int => (some (Sum.inl ([.l (rows ks g a), .i m, .i j] : List Leaf)) : OLf)) e (wrapS (i := i) (by omega)))))))⟩
theorem toS_g (F : cellsT ks -> (List V -> OLf) -> OLf) (hF : ∀ y, size y <= 1048576 -> ∀ k, F (g y) k = k (cellsEnc ks (g y))) (hC : C <= 134217728 /\ 0 <= C) (hz : zero = rowEnc true ks (g z)) (a : List T) (h : a.length + sumL size a <= 1048576) (k : List V -> Option M) :
  chk (0 <= ((rows ks g a).length : Int) /\ ((rows ks g a).length : Int) <= ((rows ks g a).length : Int) /\ ((rows ks g a).length : Int) * C <= 140737488355328 /\ ((rows ks g a).length : Int) <= 140737488355328) (
   whileK (fun s1 =>
   br (decide ((lI s1 2) < ((lL s1 0).length : Int))) (
   chk (0 <= (lI s1 2)) <|
   idx true ks (lL s1 0) ((lI s1 2).toNat) fun e2 =>
   F e2 fun new =>
   chk (0 <= (lI s1 2) /\ (lI s1 2).toNat < (lL s1 1).length) <|
   storeO (lL s1 1) ((lI s1 2).toNat) 0 new fun l10 =>
   some (.inl [.l (lL s1 0), .l l10, .i (IntKind.wrap .i64 ((lI s1 2) + 1))])) (
   some (.inr (0, [.l (lL s1 1)])))) [.l (rows ks g a), .l (List.replicate (((rows ks g a).length : Int).toNat) zero), .i 0] fun (r11 : Nat × List Leaf) =>
   k (lL r11.2 0)) = k (rows ks g a) := by
 have hm : (a.length : Int) * C <= 140737488355328 := Int.le_trans (Int.mul_le_mul (show (a.length : Int) <= 1048576 by omega) hC.1 hC.2 (by omega)) (by decide)
 simp only [rows_len, whileK, Int.toNat_natCast]
 refine chkE ⟨by omega, by omega, hm, by omega⟩ ?_
 rw [while_each (fun i : Nat => ([.l (rows ks g a), .l (rows ks g (copyS a z i)), .i (i : Int)] : List Leaf)) a (0, [.l (rows ks g a)]) ?h1 ?h2 _ ?hs]
 case hs => rw [<- rows_copy0 hz]; rfl
 case h1 =>
  intro i y hi
  have hlt : i < a.length := (gs_ hi).1
  have hl := copyS_len (a := a) (n := z) (i := i) (by omega)
  have hm := sumL_mem (f := size) (List.mem_of_getElem? hi)
  refine brE (rlt hlt) (chkE (Int.natCast_nonneg _) (idxE (i := i) hi ((hF y (by omega) _).trans (chkE ⟨Int.natCast_nonneg _, ?_⟩ (storeE (g := g) (y := y) (i := i) rfl (Nat.lt_of_lt_of_eq hlt hl.symm) ?_)))))
  ·show (Int.toNat (i : Int)) < (rows ks g (copyS a z i)).length
   rw [rows_len]; exact Nat.lt_of_lt_of_eq hlt hl.symm
  ·exact two (fun (c : List T) (j : Int) => (some (Sum.inl ([.l (rows ks g a), .l (rows ks g c), .i j] : List Leaf)) : OLf)) (copyS_set hi) (wrapS (i := i) (by omega))
 case h2 =>
  rw [copyS_end]
  exact brN rirr rfl
 ·rfl
theorem eqS_g [DecidableEq T] (F : cellsT ks -> cellsT ks -> (Bool -> OLf) -> OLf) (hF : ∀ x y, ok x -> ∀ k, F (g x) (g y) k = k (decide (x = y))) (a b : List T) (h : okL ok a) (k : Bool -> Option M) :
  br (((rows ks g a).length : Int) != ((rows ks g b).length : Int)) (
   k false) (
   whileK (fun s1 =>
   br (decide ((lI s1 2) < ((lL s1 0).length : Int))) (
   chk (0 <= (lI s1 2)) <|
   idx true ks (lL s1 0) ((lI s1 2).toNat) fun e2 =>
   chk (0 <= (lI s1 2)) <|
   idx true ks (lL s1 1) ((lI s1 2).toNat) fun e3 =>
   F e2 e3 fun b4 =>
   br (!b4) (
   some (.inr (0, [.b false]))) (
   some (.inl [.l (lL s1 0), .l (lL s1 1), .i (IntKind.wrap .i64 ((lI s1 2) + 1))]))) (
   some (.inr (1, [])))) [.l (rows ks g a), .l (rows ks g b), .i 0] fun (r5 : Nat × List Leaf) =>
   if r5.1 = 0 then
   k (lB r5.2 0)
   else
   k true) = k (decide (a = b)) := by
 refine eqLen (rows_len ..) (rows_len ..) (fun hl => ?_)
 refine while_eq (fun i : Nat => ([.l (rows ks g a), .l (rows ks g b), .i (i : Int)] : List Leaf)) a b hl (fun i x y hi hx hy => ?_) (brN rirr rfl) rfl rfl rfl
 have hb := h.1
 unfold maxLen at hb
 exact brE (rlt hi) (chkE (Int.natCast_nonneg _) (idxE (i := i) hx (chkE (Int.natCast_nonneg _) (idxE (i := i) hy ((hF x y (h.2 x (List.mem_of_getElem? hx)) _).trans (brB rfl rfl (congrArg (fun j : Int => (some (Sum.inl ([.l (rows ks g a), .l (rows ks g b), .i j] : List Leaf)) : OLf)) (wrapS (i := i) (by omega)))))))))
end
section
variable {P : Program} {fl : Nat -> Bool} {n : Nat} {t e c : TypeId} {b : Bool} {vs : List V} {T : Type} {ks : List CK} {g : T -> cellsT ks} {ok : T -> Prop} {F : T -> List V} {fs : Array Field}
theorem fBool (h : Cn P fl n t vs) (hu : P.underlying t = some .bool) : ∃ y : Bool, True /\ vs = [.bool y] := by
 obtain ⟨y, z⟩ := cn_bool h hu
 exact ⟨y, trivial, z⟩
theorem fInt (h : Cn P fl n t vs) (hu : P.underlying t = some (.int .i64)) : ∃ y : Int, okI y /\ vs = [.int .i64 y] := by
 obtain ⟨y, z, o⟩ := cn_int h hu
 exact ⟨y, okI_of o, z⟩
theorem fStr (h : Cn P fl n t vs) (hu : P.underlying t = some .string) : ∃ y : List UInt8, okS y /\ vs = [.str y] := by
 obtain ⟨y, z, o⟩ := cn_str h hu
 exact ⟨y, o, z⟩
theorem fRows (h : Cn P fl n t vs) (hu : P.underlying t = some (.slice e)) (he : P.underlying e = some (.struct fs)) (hc : P.cellsOf e = c) (hb : fl e = b) (ho : ∀ {m : Nat} {us : List V}, Cn P fl m e us -> ∃ a : T, ok a /\ us = F a) (hr : ∀ a, V.agg (F a) = rowEnc true ks (g a)) :
  ∃ y : List T, okL ok y /\ vs = [.sl c b (rows ks g y)] := by
 obtain ⟨_, r, z, l, w⟩ := cn_rows h hu he
 obtain ⟨y, rfl, v⟩ := rows_of (ks := ks) (g := g) (ok := ok) (fun r hr2 => by
  obtain ⟨us, h1, h2⟩ := w r hr2
  obtain ⟨a, h3, h4⟩ := ho h1
  exact ⟨a, h3, by rw [h2, h4]; exact hr a⟩)
 rw [hc, hb] at z
 exact ⟨y, ⟨by rw [rows_len] at l; exact l, v⟩, z⟩
theorem fStrs (h : Cn P fl n t vs) (hu : P.underlying t = some (.slice e)) (he : P.underlying e = some .string) (hc : P.cellsOf e = c) (hb : fl e = b) : ∃ y : List (List UInt8), okL okS y /\ vs = [.sl c b (rStr y)] := by
 obtain ⟨_, r, z, l, w⟩ := cn_rows1 h hu (by rw [he]; intro fs hfs; cases hfs)
 obtain ⟨y, rfl, v⟩ := rows1_of (kd := .str) (g := fun e => e) (ok := okS) (fun r hr => by
  obtain ⟨us, h1, h2⟩ := w r hr
  obtain ⟨a, h3, h4⟩ := cn_str h1 he
  exact ⟨a, h4, by rw [h2, h3]; rfl⟩)
 rw [hc, hb] at z
 exact ⟨y, ⟨by rw [rows1_len] at l; exact l, v⟩, z⟩
theorem fInts (h : Cn P fl n t vs) (hu : P.underlying t = some (.slice e)) (he : P.underlying e = some (.int .i64)) (hc : P.cellsOf e = c) (hb : fl e = b) : ∃ y : List Int, okL okI y /\ vs = [.sl c b (rInt y)] := by
 obtain ⟨_, r, z, l, w⟩ := cn_rows1 h hu (by rw [he]; intro fs hfs; cases hfs)
 obtain ⟨y, rfl, v⟩ := rows1_of (kd := .int .i64) (g := fun e => e) (ok := okI) (fun r hr => by
  obtain ⟨us, h1, h2⟩ := w r hr
  obtain ⟨a, h3, h4⟩ := cn_int h1 he
  exact ⟨a, okI_of h4, by rw [h2, h3]; rfl⟩)
 rw [hc, hb] at z
 exact ⟨y, ⟨by rw [rows1_len] at l; exact l, v⟩, z⟩
theorem glue {us vs ws : List V} {o m c : Nat} (hc : m = c) (h : (us.drop o).take m = vs) (h2 : us.drop (o + c) = ws) : us.drop o = vs ++ ws := by
 subst hc
 rw [<- h, <- h2, <- List.drop_drop, List.take_append_drop]
end
end Go.Am
end

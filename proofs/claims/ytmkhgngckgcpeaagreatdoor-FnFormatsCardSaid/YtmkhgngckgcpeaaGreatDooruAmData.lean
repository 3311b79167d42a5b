/-
  Proved: lemmas for Rows.FnFormatsCardSaid.
-/
import Derived.Shelf.Strings.Builder1
import Derived.Shelf.Strings.Builder2
import Derived.Shelf.Strings.OnBuilder
import Derived.Shelf.Strconv.Itoa0
import Derived.Shelf.Strconv.Itoa1
import Derived.Shelf.LaysM
import Derived.Shelf.Strconv.Itoa2
import Derived.Shelf.Strconv.Itoa3
import Derived.Test.YtmkhgngckgcpeaaGreatDooruWalkK
import Derived.Test.YtmkhgngckgcpeaaGreatDooruWalkC
import Derived.Test.YtmkhgngckgcpeaaGreatDooruUp0
set_option linter.all false
section
namespace Go.Proofs
open Go.Shelf
def Tryz.lays156_ren:Go.Shelf.Ren:=⟨λ|156=>42|165=>68|166=>69|169=>70|240=>102|241=>103|276=>150|277=>151|n=>n,λ|31=>29|9=>9|3=>3|4=>4|0=>0|20=>20|72=>111|76=>115|70=>109|37=>22|75=>114|127=>143|164=>189|5=>5|80=>117|n=>n,λ|n=>n⟩
theorem Tryz.lays156:Go.Proofs.Lays.n156 Tryz.prog Tryz.lays156_ren:={
  mixed:=by kernel_rfl
  f156:=Tryz.func42.trans (congrArg some (by kernel_rfl))
  f165:=Tryz.func68.trans (congrArg some (by kernel_rfl))
  f166:=Tryz.func69.trans (congrArg some (by kernel_rfl))
  f169:=Tryz.func70.trans (congrArg some (by kernel_rfl))
  f240:=Tryz.func102.trans (congrArg some (by kernel_rfl))
  f241:=Tryz.func103.trans (congrArg some (by kernel_rfl))
  f276:=Tryz.func150.trans (congrArg some (by kernel_rfl))
  f277:=Tryz.func151.trans (congrArg some (by kernel_rfl))
  t0:=Tryz.underlying0
  a0:=Tryz.isAgg0
  z0:=Tryz.sizeOf0
  v0:=Tryz.zeroValue0
  t3:=Tryz.underlying3
  a3:=Tryz.isAgg3
  z3:=Tryz.sizeOf3
  v3:=Tryz.zeroValue3
  t4:=Tryz.underlying4
  a4:=Tryz.isAgg4
  z4:=Tryz.sizeOf4
  v4:=Tryz.zeroValue4
  t9:=Tryz.underlying9
  a9:=Tryz.isAgg9
  z9:=Tryz.sizeOf9
  v9:=Tryz.zeroValue9
  t20:=Tryz.underlying20
  a20:=Tryz.isAgg20
  z20:=Tryz.sizeOf20
  v20:=Tryz.zeroValue20
  t31:=Tryz.underlying29
  a31:=Tryz.isAgg29
  z31:=Tryz.sizeOf29
  v31:=Tryz.zeroValue29
  t37:=Tryz.underlying22
  a37:=Tryz.isAgg22
  z37:=Tryz.sizeOf22
  v37:=Tryz.zeroValue22
  t70:=Tryz.underlying109
  a70:=Tryz.isAgg109
  z70:=Tryz.sizeOf109
  v70:=Tryz.zeroValue109
  t72:=Tryz.underlying111
  a72:=Tryz.isAgg111
  z72:=Tryz.sizeOf111
  v72:=Tryz.zeroValue111
  t75:=Tryz.underlying114
  a75:=Tryz.isAgg114
  z75:=Tryz.sizeOf114
  v75:=Tryz.zeroValue114
  t76:=Tryz.underlying115
  a76:=Tryz.isAgg115
  z76:=Tryz.sizeOf115
  v76:=Tryz.zeroValue115
  t127:=Tryz.underlying143
  a127:=Tryz.isAgg143
  z127:=Tryz.sizeOf143
  v127:=Tryz.zeroValue143
  t164:=Tryz.underlying189
  a164:=Tryz.isAgg189
  z164:=Tryz.sizeOf189
  v164:=Tryz.zeroValue189 }
theorem Tryz.Builder_Extra_156:Builder.Extra Tryz.prog Tryz.lays156_ren:={
  sizeBuilder:=by kernel_rfl
  liesBuilder:=by kernel_rfl
  t5:=Tryz.underlying5
  a5:=Tryz.isAgg5
  z5:=Tryz.sizeOf5
  v5:=Tryz.zeroValue5
  infoByte:=by kernel_rfl
  cellsByte:=by kernel_rfl
  sizeByte:=by kernel_rfl
  neB5:=by decide }
open Go.RowKit in
theorem Tryz.strings_Join_none (a:Option Addr)(c:Nat)(sep:ByteArray)(w:World) :
  Calls Tryz.prog 42 #[.slice a 0 c,.string sep] w λe w'=>e = .returned (.string ⟨#[]⟩)/\w'=w:=Any.strings_Join_none Tryz.lays156 Tryz.Builder_Extra_156 a c sep w
open Go.RowKit in
theorem Tryz.strings_Join (f o c:Nat)(xs:List ByteArray)(sep:ByteArray)(w:World)(a:∀(j:Nat) x,xs[j]?=some x->w.cell? ⟨f,o+j,none⟩=some (.string x))(g:f<w.heap.size)(h:xs.length<=140737488355328)(d:xs.length<=c)(b:(Lib.join (xs.map (·.data.toList)) sep.data.toList).length<=140737488355328) :
  Calls Tryz.prog 42 #[.slice (some ⟨f,o,none⟩) xs.length c,.string sep] w λe w'=>e = .returned (.string ⟨(Lib.join (xs.map (·.data.toList)) sep.data.toList).toArray⟩)/\Below w.heap.size w w':=Any.strings_Join Tryz.lays156 Tryz.Builder_Extra_156 f o c xs sep w a g h d b
def Tryz.laysM171_ren:Go.Shelf.Ren:=⟨λ|171=>64|243=>99|246=>149|283=>196|284=>197|285=>198|286=>199|129=>232|317=>231|318=>233|319=>234|320=>235|337=>247|338=>248|n=>n,λ|3=>3|9=>9|2=>2|4=>4|171=>248|0=>0|53=>249|37=>22|5=>5|173=>252|212=>292|51=>293|20=>20|213=>294|46=>162|232=>321|233=>322|n=>n,λ|17=>1|18=>2|19=>3|n=>n⟩
theorem Tryz.laysM171:Go.Proofs.LaysM.n171 Tryz.prog Tryz.laysM171_ren:={
  mixed:=by kernel_rfl
  f129:=Tryz.func232.trans (congrArg some (by kernel_rfl))
  f171:=Tryz.func64.trans (congrArg some (by kernel_rfl))
  f243:=Tryz.func99.trans (congrArg some (by kernel_rfl))
  f246:=Tryz.func149.trans (congrArg some (by kernel_rfl))
  f283:=Tryz.func196.trans (congrArg some (by kernel_rfl))
  f284:=Tryz.func197.trans (congrArg some (by kernel_rfl))
  f285:=Tryz.func198.trans (congrArg some (by kernel_rfl))
  f286:=Tryz.func199.trans (congrArg some (by kernel_rfl))
  f317:=Tryz.func231.trans (congrArg some (by kernel_rfl))
  f318:=Tryz.func233.trans (congrArg some (by kernel_rfl))
  f319:=Tryz.func234.trans (congrArg some (by kernel_rfl))
  f320:=Tryz.func235.trans (congrArg some (by kernel_rfl))
  f337:=Tryz.func247.trans (congrArg some (by kernel_rfl))
  f338:=Tryz.func248.trans (congrArg some (by kernel_rfl))
  t0:=Tryz.underlying0
  a0:=Tryz.isAgg0
  z0:=Tryz.sizeOf0
  v0:=Tryz.zeroValue0
  t2:=Tryz.underlying2
  a2:=Tryz.isAgg2
  z2:=Tryz.sizeOf2
  v2:=Tryz.zeroValue2
  t3:=Tryz.underlying3
  a3:=Tryz.isAgg3
  z3:=Tryz.sizeOf3
  v3:=Tryz.zeroValue3
  t4:=Tryz.underlying4
  a4:=Tryz.isAgg4
  z4:=Tryz.sizeOf4
  v4:=Tryz.zeroValue4
  t5:=Tryz.underlying5
  a5:=Tryz.isAgg5
  z5:=Tryz.sizeOf5
  v5:=Tryz.zeroValue5
  t9:=Tryz.underlying9
  a9:=Tryz.isAgg9
  z9:=Tryz.sizeOf9
  v9:=Tryz.zeroValue9
  t20:=Tryz.underlying20
  a20:=Tryz.isAgg20
  z20:=Tryz.sizeOf20
  v20:=Tryz.zeroValue20
  t37:=Tryz.underlying22
  a37:=Tryz.isAgg22
  z37:=Tryz.sizeOf22
  v37:=Tryz.zeroValue22
  t46:=Tryz.underlying162
  a46:=Tryz.isAgg162
  z46:=Tryz.sizeOf162
  v46:=Tryz.zeroValue162
  t51:=Tryz.underlying293
  a51:=Tryz.isAgg293
  z51:=Tryz.sizeOf293
  v51:=Tryz.zeroValue293
  t53:=Tryz.underlying249
  a53:=Tryz.isAgg249
  z53:=Tryz.sizeOf249
  v53:=Tryz.zeroValue249
  t171:=Tryz.underlying248
  a171:=Tryz.isAgg248
  z171:=Tryz.sizeOf248
  v171:=Tryz.zeroValue248
  t173:=Tryz.underlying252
  a173:=Tryz.isAgg252
  z173:=Tryz.sizeOf252
  v173:=Tryz.zeroValue252
  t212:=Tryz.underlying292
  a212:=Tryz.isAgg292
  z212:=Tryz.sizeOf292
  v212:=Tryz.zeroValue292
  t213:=Tryz.underlying294
  a213:=Tryz.isAgg294
  z213:=Tryz.sizeOf294
  t232:=Tryz.underlying321
  a232:=Tryz.isAgg321
  z232:=Tryz.sizeOf321
  v232:=Tryz.zeroValue321
  t233:=Tryz.underlying322
  a233:=Tryz.isAgg322
  z233:=Tryz.sizeOf322
  v233:=Tryz.zeroValue322
  g17:=by kernel_rfl
  g18:=by kernel_rfl
  g19:=by kernel_rfl
  i0:=by kernel_rfl
  i2:=by kernel_rfl
  i3:=by kernel_rfl
  i4:=by kernel_rfl
  i5:=by kernel_rfl
  i9:=by kernel_rfl
  i20:=by kernel_rfl
  i37:=by kernel_rfl
  i46:=by kernel_rfl
  i51:=by kernel_rfl
  i53:=by kernel_rfl
  i171:=by kernel_rfl
  i173:=by kernel_rfl
  i212:=by kernel_rfl
  i232:=by kernel_rfl
  i233:=by kernel_rfl
  m17:=by kernel_rfl
  m18:=by kernel_rfl
  m19:=by kernel_rfl }
open Go.RowKit Go.Sort Go.Lib in
theorem Tryz.strconv_Itoa (n:Int)(h0:-9223372036854775808<=n)(h1:n<=9223372036854775807)(w:World)(htab:Lib.TabIs Tryz.prog w "internal/strconv.uint64pow10" .u64 Lib.pow10Tab) :
  Calls Tryz.prog 64 #[.int .i64 n] w λe w'=>e = .returned (.string ⟨(Lib.itoa n).toArray⟩) /\ ∃k os,w'=grow (w.drewN k) os:=Any.strconv_Itoa Tryz.laysM171 n h0 h1 w htab
end Go.Proofs
end
section
namespace Go.Am
open Go Go.Proofs
theorem zX:bE Go.Proofs.Tryz.prog Yq:=jv (Eb Tryz.func42 (by kernel_rfl) (by kernel_rfl) Tryz.strings_Join_none Tryz.strings_Join) (jv (Ea Tryz.func64 (by kernel_rfl) (by kernel_rfl) (λn w b a c=>Tryz.strconv_Itoa n a c w b.1)) (jv (Il Tryz.func237 (by kernel_rfl) (by kernel_rfl) (λs w _ h=>Tryz.markup s w (by omega))) (jv Tryz.cls_ok (Im))))
theorem n0w:bE Go.Proofs.Tryz.prog D1:=tF agree f0q (by kernel_rfl) zX
theorem QW:bE Go.Proofs.Tryz.prog Yp:=jv (Tryz.put_ok n0w) (zX)
end Go.Am
end
section
namespace Go.Am
open Go
section
variable {P:Program}{fl:Nat->Bool}{n t e:Nat}{vs:List V}
theorem Pi {k:IntKind}(h:Cn P fl n t vs)(a:P.underlying t=some (.int k)):∃m,vs=[.int k m]/\(Lit.int k m).wf=true:=by
 cases n with
 |zero=>cases h
 |succ n=>unfold Cn at h;rw[a]at h;exact h
theorem D3 (h:Cn P fl n t vs)(k:P.underlying t=some (.slice e))(c:∀fs,P.underlying e≠some (.struct fs)):∃m rows,vs=[.sl (P.cellsOf e) (fl e) rows]/\rows.length<=maxLen /\ ∀r∈rows,∃a,Cn P fl m e a/\r=a.headD .undef:=by
 cases n with
 |zero=>cases h
 |succ n=>
  unfold Cn at h;rw[k]at h;obtain⟨rows,g,l,i⟩:=h;refine⟨n,rows,g,l,λr b=>?_⟩;obtain⟨a,_,j,o⟩:=i r b;refine⟨a,j,?_⟩;rw[o];cases f:P.underlying e with
  |none=>rfl
  |some d=>cases d<;>first|rfl|exact absurd f (c _)
theorem FM (b:∀fs,P.underlying t≠some (.struct fs)):s_ P t vs=vs.headD .undef:=by
 unfold s_;cases a:P.underlying t with
 |none=>rfl
 |some d=>cases d<;>first|rfl|exact absurd a (b _)
end
end Go.Am
end

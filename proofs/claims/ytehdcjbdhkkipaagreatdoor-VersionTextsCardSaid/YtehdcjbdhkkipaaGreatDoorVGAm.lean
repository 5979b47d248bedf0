/- Part of the proofs of laws of the package version. Texts: VnFnOK, VnShelf, VnPrimA. -/
import Derived.Test.YtehdcjbdhkkipaaGreatDoorVGAc
import Derived.Test.YtehdcjbdhkkipaaGreatDoorEAg
import Derived.Test.YtehdcjbdhkkipaaGreatDoorProg
import Derived.Shelf.Strings.OnBuilder
import Derived.Shelf.Strconv.Itoa3
import Derived.Shelf.Strings.Split
import Derived.Test.YtehdcjbdhkkipaaGreatDoorEAk
set_option linter.unusedSimpArgs false
set_option linter.unusedVariables false
section
namespace Go.Den.Ve
open Go.Proofs
set_option maxRecDepth 100000
def mu0:TypeId→Bool:=fun _=>false
def mu1:TypeId→Bool:=fun t=>t==22
def mu2:TypeId→Bool:=fun t=>t==22 || t==77
theorem en10:funcC Tryz.prog mu0 Tryz.f10=some den10:=by kernel_rfl
theorem en24:funcC Tryz.prog mu0 Tryz.f24=some den24:=by kernel_rfl
theorem en25:funcC Tryz.prog mu0 Tryz.f25=some den25:=by kernel_rfl
theorem en26:funcC Tryz.prog mu0 Tryz.f26=some den26:=by kernel_rfl
theorem en27:funcC Tryz.prog mu0 Tryz.f27=some den27:=by kernel_rfl
theorem en28:funcC Tryz.prog mu0 Tryz.f28=some den28:=by kernel_rfl
theorem en29:funcC Tryz.prog mu0 Tryz.f29=some den29:=by kernel_rfl
theorem en30:funcC Tryz.prog mu0 Tryz.f30=some den30:=by kernel_rfl
theorem en32:funcC Tryz.prog mu0 Tryz.f32=some den32:=by kernel_rfl
theorem en33:funcC Tryz.prog mu0 Tryz.f33=some den33:=by kernel_rfl
theorem en37:funcC Tryz.prog mu0 Tryz.f37=some den37:=by kernel_rfl
theorem en38:funcC Tryz.prog mu0 Tryz.f38=some den38:=by kernel_rfl
theorem en42:funcC Tryz.prog mu0 Tryz.f42=some den42:=by kernel_rfl
theorem en43:funcC Tryz.prog mu0 Tryz.f43=some den43:=by kernel_rfl
theorem en45:funcC Tryz.prog mu0 Tryz.f45=some den45:=by kernel_rfl
theorem en50:funcC Tryz.prog mu0 Tryz.f50=some den50:=by kernel_rfl
theorem en51:funcC Tryz.prog mu0 Tryz.f51=some den51:=by kernel_rfl
theorem en52:funcC Tryz.prog mu0 Tryz.f52=some den52:=by kernel_rfl
theorem en53:funcC Tryz.prog mu0 Tryz.f53=some den53:=by kernel_rfl
theorem en54:funcC Tryz.prog mu0 Tryz.f54=some den54:=by kernel_rfl
theorem en55:funcC Tryz.prog mu0 Tryz.f55=some den55:=by kernel_rfl
theorem en58:funcC Tryz.prog mu0 Tryz.f58=some den58:=by kernel_rfl
theorem en59:funcC Tryz.prog mu0 Tryz.f59=some den59:=by kernel_rfl
theorem en63:funcC Tryz.prog mu0 Tryz.f63=some den63:=by kernel_rfl
theorem en64:funcC Tryz.prog mu0 Tryz.f64=some den64:=by kernel_rfl
theorem en70:funcC Tryz.prog mu0 Tryz.f70=some den70:=by kernel_rfl
theorem en75:funcC Tryz.prog mu0 Tryz.f75=some den75:=by kernel_rfl
theorem en76:funcC Tryz.prog mu0 Tryz.f76=some den76:=by kernel_rfl
theorem en79:funcC Tryz.prog mu0 Tryz.f79=some den79:=by kernel_rfl
theorem en80:funcC Tryz.prog mu0 Tryz.f80=some den80:=by kernel_rfl
theorem en81:funcC Tryz.prog mu0 Tryz.f81=some den81:=by kernel_rfl
theorem en82:funcC Tryz.prog mu0 Tryz.f82=some den82:=by kernel_rfl
theorem en83:funcC Tryz.prog mu0 Tryz.f83=some den83:=by kernel_rfl
theorem en84:funcC Tryz.prog mu0 Tryz.f84=some den84:=by kernel_rfl
theorem en85:funcC Tryz.prog mu0 Tryz.f85=some den85:=by kernel_rfl
theorem en86:funcC Tryz.prog mu0 Tryz.f86=some den86:=by kernel_rfl
theorem en87:funcC Tryz.prog mu0 Tryz.f87=some den87:=by kernel_rfl
theorem en88:funcC Tryz.prog mu0 Tryz.f88=some den88:=by kernel_rfl
theorem en90:funcC Tryz.prog mu0 Tryz.f90=some den90:=by kernel_rfl
theorem en91:funcC Tryz.prog mu0 Tryz.f91=some den91:=by kernel_rfl
theorem en92:funcC Tryz.prog mu0 Tryz.f92=some den92:=by kernel_rfl
theorem en93:funcC Tryz.prog mu0 Tryz.f93=some den93:=by kernel_rfl
theorem en94:funcC Tryz.prog mu0 Tryz.f94=some den94:=by kernel_rfl
theorem en95:funcC Tryz.prog mu0 Tryz.f95=some den95:=by kernel_rfl
theorem en96:funcC Tryz.prog mu0 Tryz.f96=some den96:=by kernel_rfl
theorem en97:funcC Tryz.prog mu0 Tryz.f97=some den97:=by kernel_rfl
theorem en98:funcC Tryz.prog mu0 Tryz.f98=some den98:=by kernel_rfl
theorem en99:funcC Tryz.prog mu0 Tryz.f99=some den99:=by kernel_rfl
theorem en100:funcC Tryz.prog mu0 Tryz.f100=some den100:=by kernel_rfl
theorem en101:funcC Tryz.prog mu0 Tryz.f101=some den101:=by kernel_rfl
theorem en102:funcC Tryz.prog mu0 Tryz.f102=some den102:=by kernel_rfl
theorem en103:funcC Tryz.prog mu0 Tryz.f103=some den103:=by kernel_rfl
theorem en104:funcC Tryz.prog mu0 Tryz.f104=some den104:=by kernel_rfl
theorem en105:funcC Tryz.prog mu0 Tryz.f105=some den105:=by kernel_rfl
theorem en108:funcC Tryz.prog mu0 Tryz.f108=some den108:=by kernel_rfl
theorem en109:funcC Tryz.prog mu0 Tryz.f109=some den109:=by kernel_rfl
theorem en110:funcC Tryz.prog mu0 Tryz.f110=some den110:=by kernel_rfl
theorem en111:funcC Tryz.prog mu0 Tryz.f111=some den111:=by kernel_rfl
theorem en112:funcC Tryz.prog mu0 Tryz.f112=some den112:=by kernel_rfl
theorem en114:funcC Tryz.prog mu0 Tryz.f114=some den114:=by kernel_rfl
theorem en115:funcC Tryz.prog mu0 Tryz.f115=some den115:=by kernel_rfl
theorem en116:funcC Tryz.prog mu0 Tryz.f116=some den116:=by kernel_rfl
theorem en117:funcC Tryz.prog mu0 Tryz.f117=some den117:=by kernel_rfl
theorem en118:funcC Tryz.prog mu0 Tryz.f118=some den118:=by kernel_rfl
theorem en119:funcC Tryz.prog mu0 Tryz.f119=some den119:=by kernel_rfl
theorem en121:funcC Tryz.prog mu0 Tryz.f121=some den121:=by kernel_rfl
theorem en123:funcC Tryz.prog mu0 Tryz.f123=some den123:=by kernel_rfl
theorem en124:funcC Tryz.prog mu1 Tryz.f124=some den124:=by kernel_rfl
theorem en125:funcC Tryz.prog mu0 Tryz.f125=some den125:=by kernel_rfl
theorem en126:funcC Tryz.prog mu0 Tryz.f126=some den126:=by kernel_rfl
theorem en129:funcC Tryz.prog mu0 Tryz.f129=some den129:=by kernel_rfl
theorem en130:funcC Tryz.prog mu0 Tryz.f130=some den130:=by kernel_rfl
theorem en131:funcC Tryz.prog mu0 Tryz.f131=some den131:=by kernel_rfl
theorem en132:funcC Tryz.prog mu0 Tryz.f132=some den132:=by kernel_rfl
theorem en133:funcC Tryz.prog mu0 Tryz.f133=some den133:=by kernel_rfl
theorem en134:funcC Tryz.prog mu0 Tryz.f134=some den134:=by kernel_rfl
theorem en135:funcC Tryz.prog mu0 Tryz.f135=some den135:=by kernel_rfl
theorem en136:funcC Tryz.prog mu0 Tryz.f136=some den136:=by kernel_rfl
theorem en137:funcC Tryz.prog mu0 Tryz.f137=some den137:=by kernel_rfl
theorem en138:funcC Tryz.prog mu0 Tryz.f138=some den138:=by kernel_rfl
theorem en139:funcC Tryz.prog mu0 Tryz.f139=some den139:=by kernel_rfl
theorem en140:funcC Tryz.prog mu0 Tryz.f140=some den140:=by kernel_rfl
theorem en141:funcC Tryz.prog mu0 Tryz.f141=some den141:=by kernel_rfl
theorem en142:funcC Tryz.prog mu0 Tryz.f142=some den142:=by kernel_rfl
theorem en143:funcC Tryz.prog mu0 Tryz.f143=some den143:=by kernel_rfl
theorem en144:funcC Tryz.prog mu0 Tryz.f144=some den144:=by kernel_rfl
theorem en147:funcC Tryz.prog mu0 Tryz.f147=some den147:=by kernel_rfl
theorem en148:funcC Tryz.prog mu0 Tryz.f148=some den148:=by kernel_rfl
theorem en149:funcC Tryz.prog mu0 Tryz.f149=some den149:=by kernel_rfl
theorem en150:funcC Tryz.prog mu0 Tryz.f150=some den150:=by kernel_rfl
theorem en151:funcC Tryz.prog mu0 Tryz.f151=some den151:=by kernel_rfl
theorem en156:funcC Tryz.prog mu0 Tryz.f156=some den156:=by kernel_rfl
theorem en157:funcC Tryz.prog mu0 Tryz.f157=some den157:=by kernel_rfl
theorem en158:funcC Tryz.prog mu0 Tryz.f158=some den158:=by kernel_rfl
theorem en160:funcC Tryz.prog mu0 Tryz.f160=some den160:=by kernel_rfl
theorem en161:funcC Tryz.prog mu0 Tryz.f161=some den161:=by kernel_rfl
theorem en162:funcC Tryz.prog mu0 Tryz.f162=some den162:=by kernel_rfl
theorem en163:funcC Tryz.prog mu0 Tryz.f163=some den163:=by kernel_rfl
theorem en164:funcC Tryz.prog mu0 Tryz.f164=some den164:=by kernel_rfl
theorem en165:funcC Tryz.prog mu0 Tryz.f165=some den165:=by kernel_rfl
theorem en166:funcC Tryz.prog mu0 Tryz.f166=some den166:=by kernel_rfl
theorem en167:funcC Tryz.prog mu0 Tryz.f167=some den167:=by kernel_rfl
theorem en168:funcC Tryz.prog mu0 Tryz.f168=some den168:=by kernel_rfl
theorem en169:funcC Tryz.prog mu0 Tryz.f169=some den169:=by kernel_rfl
theorem en170:funcC Tryz.prog mu0 Tryz.f170=some den170:=by kernel_rfl
theorem en176:funcC Tryz.prog mu0 Tryz.f176=some den176:=by kernel_rfl
theorem en177:funcC Tryz.prog mu0 Tryz.f177=some den177:=by kernel_rfl
theorem en223:funcC Tryz.prog mu0 Tryz.f223=some den223:=by kernel_rfl
theorem en224:funcC Tryz.prog mu0 Tryz.f224=some den224:=by kernel_rfl
theorem en225:funcC Tryz.prog mu0 Tryz.f225=some den225:=by kernel_rfl
theorem en226:funcC Tryz.prog mu0 Tryz.f226=some den226:=by kernel_rfl
theorem en_of {g:Nat} {df df':DFunc} {fn:Func} {mu:TypeId→Bool} (h:some df'=some df) (h1:Tryz.prog.funcs[g]? = some fn) (h2:funcC Tryz.prog mu fn=some df') (h3:(fn.name== "runtime.NumGoroutine")=false):∃ fn mu,Tryz.prog.funcs[g]? = some fn∧funcC Tryz.prog mu fn=some df∧(fn.name== "runtime.NumGoroutine")=false:=by
 cases h
 exact ⟨fn,mu,h1,h2,h3⟩
theorem envFn:EnvFn Tryz.prog EE:=⟨fun g df h=>by
 have h:fnT g=some df:=h
 unfold fnT at h
 split at h
 ·exact en_of h Tryz.func10 en10 (by kernel_rfl)
 ·exact en_of h Tryz.func24 en24 (by kernel_rfl)
 ·exact en_of h Tryz.func25 en25 (by kernel_rfl)
 ·exact en_of h Tryz.func26 en26 (by kernel_rfl)
 ·exact en_of h Tryz.func27 en27 (by kernel_rfl)
 ·exact en_of h Tryz.func28 en28 (by kernel_rfl)
 ·exact en_of h Tryz.func29 en29 (by kernel_rfl)
 ·exact en_of h Tryz.func30 en30 (by kernel_rfl)
 ·exact en_of h Tryz.func32 en32 (by kernel_rfl)
 ·exact en_of h Tryz.func33 en33 (by kernel_rfl)
 ·exact en_of h Tryz.func37 en37 (by kernel_rfl)
 ·exact en_of h Tryz.func38 en38 (by kernel_rfl)
 ·exact en_of h Tryz.func42 en42 (by kernel_rfl)
 ·exact en_of h Tryz.func43 en43 (by kernel_rfl)
 ·exact en_of h Tryz.func45 en45 (by kernel_rfl)
 ·exact en_of h Tryz.func50 en50 (by kernel_rfl)
 ·exact en_of h Tryz.func51 en51 (by kernel_rfl)
 ·exact en_of h Tryz.func52 en52 (by kernel_rfl)
 ·exact en_of h Tryz.func53 en53 (by kernel_rfl)
 ·exact en_of h Tryz.func54 en54 (by kernel_rfl)
 ·exact en_of h Tryz.func55 en55 (by kernel_rfl)
 ·exact en_of h Tryz.func58 en58 (by kernel_rfl)
 ·exact en_of h Tryz.func59 en59 (by kernel_rfl)
 ·exact en_of h Tryz.func63 en63 (by kernel_rfl)
 ·exact en_of h Tryz.func64 en64 (by kernel_rfl)
 ·exact en_of h Tryz.func70 en70 (by kernel_rfl)
 ·exact en_of h Tryz.func75 en75 (by kernel_rfl)
 ·exact en_of h Tryz.func76 en76 (by kernel_rfl)
 ·exact en_of h Tryz.func79 en79 (by kernel_rfl)
 ·exact en_of h Tryz.func80 en80 (by kernel_rfl)
 ·exact en_of h Tryz.func81 en81 (by kernel_rfl)
 ·exact en_of h Tryz.func82 en82 (by kernel_rfl)
 ·exact en_of h Tryz.func83 en83 (by kernel_rfl)
 ·exact en_of h Tryz.func84 en84 (by kernel_rfl)
 ·exact en_of h Tryz.func85 en85 (by kernel_rfl)
 ·exact en_of h Tryz.func86 en86 (by kernel_rfl)
 ·exact en_of h Tryz.func87 en87 (by kernel_rfl)
 ·exact en_of h Tryz.func88 en88 (by kernel_rfl)
 ·exact en_of h Tryz.func90 en90 (by kernel_rfl)
 ·exact en_of h Tryz.func91 en91 (by kernel_rfl)
 ·exact en_of h Tryz.func92 en92 (by kernel_rfl)
 ·exact en_of h Tryz.func93 en93 (by kernel_rfl)
 ·exact en_of h Tryz.func94 en94 (by kernel_rfl)
 ·exact en_of h Tryz.func95 en95 (by kernel_rfl)
 ·exact en_of h Tryz.func96 en96 (by kernel_rfl)
 ·exact en_of h Tryz.func97 en97 (by kernel_rfl)
 ·exact en_of h Tryz.func98 en98 (by kernel_rfl)
 ·exact en_of h Tryz.func99 en99 (by kernel_rfl)
 ·exact en_of h Tryz.func100 en100 (by kernel_rfl)
 ·exact en_of h Tryz.func101 en101 (by kernel_rfl)
 ·exact en_of h Tryz.func102 en102 (by kernel_rfl)
 ·exact en_of h Tryz.func103 en103 (by kernel_rfl)
 ·exact en_of h Tryz.func104 en104 (by kernel_rfl)
 ·exact en_of h Tryz.func105 en105 (by kernel_rfl)
 ·exact en_of h Tryz.func108 en108 (by kernel_rfl)
 ·exact en_of h Tryz.func109 en109 (by kernel_rfl)
 ·exact en_of h Tryz.func110 en110 (by kernel_rfl)
 ·exact en_of h Tryz.func111 en111 (by kernel_rfl)
 ·exact en_of h Tryz.func112 en112 (by kernel_rfl)
 ·exact en_of h Tryz.func114 en114 (by kernel_rfl)
 ·exact en_of h Tryz.func115 en115 (by kernel_rfl)
 ·exact en_of h Tryz.func116 en116 (by kernel_rfl)
 ·exact en_of h Tryz.func117 en117 (by kernel_rfl)
 ·exact en_of h Tryz.func118 en118 (by kernel_rfl)
 ·exact en_of h Tryz.func119 en119 (by kernel_rfl)
 ·exact en_of h Tryz.func121 en121 (by kernel_rfl)
 ·exact en_of h Tryz.func123 en123 (by kernel_rfl)
 ·exact en_of h Tryz.func124 en124 (by kernel_rfl)
 ·exact en_of h Tryz.func125 en125 (by kernel_rfl)
 ·exact en_of h Tryz.func126 en126 (by kernel_rfl)
 ·exact en_of h Tryz.func129 en129 (by kernel_rfl)
 ·exact en_of h Tryz.func130 en130 (by kernel_rfl)
 ·exact en_of h Tryz.func131 en131 (by kernel_rfl)
 ·exact en_of h Tryz.func132 en132 (by kernel_rfl)
 ·exact en_of h Tryz.func133 en133 (by kernel_rfl)
 ·exact en_of h Tryz.func134 en134 (by kernel_rfl)
 ·exact en_of h Tryz.func135 en135 (by kernel_rfl)
 ·exact en_of h Tryz.func136 en136 (by kernel_rfl)
 ·exact en_of h Tryz.func137 en137 (by kernel_rfl)
 ·exact en_of h Tryz.func138 en138 (by kernel_rfl)
 ·exact en_of h Tryz.func139 en139 (by kernel_rfl)
 ·exact en_of h Tryz.func140 en140 (by kernel_rfl)
 ·exact en_of h Tryz.func141 en141 (by kernel_rfl)
 ·exact en_of h Tryz.func142 en142 (by kernel_rfl)
 ·exact en_of h Tryz.func143 en143 (by kernel_rfl)
 ·exact en_of h Tryz.func144 en144 (by kernel_rfl)
 ·exact en_of h Tryz.func147 en147 (by kernel_rfl)
 ·exact en_of h Tryz.func148 en148 (by kernel_rfl)
 ·exact en_of h Tryz.func149 en149 (by kernel_rfl)
 ·exact en_of h Tryz.func150 en150 (by kernel_rfl)
 ·exact en_of h Tryz.func151 en151 (by kernel_rfl)
 ·exact en_of h Tryz.func156 en156 (by kernel_rfl)
 ·exact en_of h Tryz.func157 en157 (by kernel_rfl)
 ·exact en_of h Tryz.func158 en158 (by kernel_rfl)
 ·exact en_of h Tryz.func160 en160 (by kernel_rfl)
 ·exact en_of h Tryz.func161 en161 (by kernel_rfl)
 ·exact en_of h Tryz.func162 en162 (by kernel_rfl)
 ·exact en_of h Tryz.func163 en163 (by kernel_rfl)
 ·exact en_of h Tryz.func164 en164 (by kernel_rfl)
 ·exact en_of h Tryz.func165 en165 (by kernel_rfl)
 ·exact en_of h Tryz.func166 en166 (by kernel_rfl)
 ·exact en_of h Tryz.func167 en167 (by kernel_rfl)
 ·exact en_of h Tryz.func168 en168 (by kernel_rfl)
 ·exact en_of h Tryz.func169 en169 (by kernel_rfl)
 ·exact en_of h Tryz.func170 en170 (by kernel_rfl)
 ·exact en_of h Tryz.func176 en176 (by kernel_rfl)
 ·exact en_of h Tryz.func177 en177 (by kernel_rfl)
 ·exact en_of h Tryz.func223 en223 (by kernel_rfl)
 ·exact en_of h Tryz.func224 en224 (by kernel_rfl)
 ·exact en_of h Tryz.func225 en225 (by kernel_rfl)
 ·exact en_of h Tryz.func226 en226 (by kernel_rfl)
 ·cases h⟩
theorem meth1 (v:Value) (w:World):(method (Tryz.prog.types.size+Made.depth) 191 v "kelir/version.numbers").run Tryz.prog w = .ok (223,v) w:=by kernel_rfl
theorem meth2 (v:Value) (w:World):(method (Tryz.prog.types.size+Made.depth) 193 v "kelir/version.numbers").run Tryz.prog w = .ok (224,v) w:=by kernel_rfl
theorem meth3 (v:Value) (w:World):(method (Tryz.prog.types.size+Made.depth) 194 v "kelir/version.numbers").run Tryz.prog w = .ok (225,v) w:=by kernel_rfl
theorem meth4 (v:Value) (w:World):(method (Tryz.prog.types.size+Made.depth) 195 v "kelir/version.numbers").run Tryz.prog w = .ok (226,v) w:=by kernel_rfl
theorem envOK:EnvOK Tryz.prog EE:=⟨fun t m f h v w=>by
 have h:methT t m=some f:=h
 unfold methT at h
 split at h
 ·split at h
  ·rename_i hm;subst hm;cases h;exact meth1 v w
  ·cases h
 ·split at h
  ·rename_i hm;subst hm;cases h;exact meth2 v w
  ·cases h
 ·split at h
  ·rename_i hm;subst hm;cases h;exact meth3 v w
  ·cases h
 ·split at h
  ·rename_i hm;subst hm;cases h;exact meth4 v w
  ·cases h
 ·cases h⟩
theorem follows:Tryz.prog.follows .mixedOrders=true:=by kernel_rfl
end Go.Den.Ve
end
section
namespace Go.Proofs
open Go.Shelf
def Tryz.lays156_ren:Go.Shelf.Ren:=⟨fun|156=>153|165=>172|166=>173|169=>174|240=>179|241=>180|276=>188|277=>189|n=>n,fun|31=>167|9=>9|3=>3|4=>4|0=>0|20=>20|72=>223|76=>227|70=>221|37=>111|75=>226|127=>233|164=>242|5=>5|80=>229|n=>n,fun|n=>n⟩
theorem Tryz.lays156:Go.Proofs.Lays.n156 Tryz.prog Tryz.lays156_ren:={
 mixed:=by kernel_rfl
 f156:=Tryz.func153.trans (congrArg some (by kernel_rfl))
 f165:=Tryz.func172.trans (congrArg some (by kernel_rfl))
 f166:=Tryz.func173.trans (congrArg some (by kernel_rfl))
 f169:=Tryz.func174.trans (congrArg some (by kernel_rfl))
 f240:=Tryz.func179.trans (congrArg some (by kernel_rfl))
 f241:=Tryz.func180.trans (congrArg some (by kernel_rfl))
 f276:=Tryz.func188.trans (congrArg some (by kernel_rfl))
 f277:=Tryz.func189.trans (congrArg some (by kernel_rfl))
 t0:=Tryz.underlying0
 a0:=Tryz.isAgg0
 z0:=Tryz.sizeOf0
 v0:=Tryz.zeroValue0
 t3:=Tryz.underlying3
 a3:=Tryz.isAgg3
 z3:=Tryz.sizeOf3
 v3:=Tryz.zeroValue3
 t4:=Tryz.underlying4
 a4:=Tryz.isAgg4
 z4:=Tryz.sizeOf4
 v4:=Tryz.zeroValue4
 t9:=Tryz.underlying9
 a9:=Tryz.isAgg9
 z9:=Tryz.sizeOf9
 v9:=Tryz.zeroValue9
 t20:=Tryz.underlying20
 a20:=Tryz.isAgg20
 z20:=Tryz.sizeOf20
 v20:=Tryz.zeroValue20
 t31:=Tryz.underlying167
 a31:=Tryz.isAgg167
 z31:=Tryz.sizeOf167
 v31:=Tryz.zeroValue167
 t37:=Tryz.underlying111
 a37:=Tryz.isAgg111
 z37:=Tryz.sizeOf111
 v37:=Tryz.zeroValue111
 t70:=Tryz.underlying221
 a70:=Tryz.isAgg221
 z70:=Tryz.sizeOf221
 v70:=Tryz.zeroValue221
 t72:=Tryz.underlying223
 a72:=Tryz.isAgg223
 z72:=Tryz.sizeOf223
 v72:=Tryz.zeroValue223
 t75:=Tryz.underlying226
 a75:=Tryz.isAgg226
 z75:=Tryz.sizeOf226
 v75:=Tryz.zeroValue226
 t76:=Tryz.underlying227
 a76:=Tryz.isAgg227
 z76:=Tryz.sizeOf227
 v76:=Tryz.zeroValue227
 t127:=Tryz.underlying233
 a127:=Tryz.isAgg233
 z127:=Tryz.sizeOf233
 v127:=Tryz.zeroValue233
 t164:=Tryz.underlying242
 a164:=Tryz.isAgg242
 z164:=Tryz.sizeOf242
 v164:=Tryz.zeroValue242 }
theorem Tryz.Builder_Extra_156:Builder.Extra Tryz.prog Tryz.lays156_ren:={
 sizeBuilder:=by kernel_rfl
 liesBuilder:=by kernel_rfl
 t5:=Tryz.underlying5
 a5:=Tryz.isAgg5
 z5:=Tryz.sizeOf5
 v5:=Tryz.zeroValue5
 infoByte:=by kernel_rfl
 cellsByte:=by kernel_rfl
 sizeByte:=by kernel_rfl
 neB5:=by decide }
open Go.RowKit in
theorem Tryz.strings_Join_none (a:Option Addr) (c:Nat) (sep:ByteArray) (w:World) :
  Calls Tryz.prog 153 #[.slice a 0 c,.string sep] w fun e w'=>e = .returned (.string ⟨#[]⟩)∧w'=w:=Any.strings_Join_none Tryz.lays156 Tryz.Builder_Extra_156 a c sep w
open Go.RowKit in
theorem Tryz.strings_Join (bk o c:Nat) (xs:List ByteArray) (sep:ByteArray) (w:World) (hcells:∀ (j:Nat) x,xs[j]? = some x→w.cell? ⟨bk,o+j,none⟩=some (.string x)) (hbk:bk<w.heap.size) (hN:xs.length≤140737488355328) (hcap:xs.length≤c) (hlen:(Lib.join (xs.map (·.data.toList)) sep.data.toList).length≤140737488355328) :
  Calls Tryz.prog 153 #[.slice (some ⟨bk,o,none⟩) xs.length c,.string sep] w fun e w'=>e = .returned (.string ⟨(Lib.join (xs.map (·.data.toList)) sep.data.toList).toArray⟩)∧Below w.heap.size w w':=Any.strings_Join Tryz.lays156 Tryz.Builder_Extra_156 bk o c xs sep w hcells hbk hN hcap hlen
def Tryz.lays171_ren:Go.Shelf.Ren:=⟨fun|171=>152|243=>171|246=>178|283=>184|284=>185|285=>186|286=>187|129=>195|317=>194|318=>196|319=>197|320=>198|337=>204|338=>205|n=>n,fun|3=>3|9=>9|2=>2|4=>4|171=>236|0=>0|53=>237|37=>111|5=>5|173=>240|212=>251|51=>252|20=>20|213=>253|46=>254|232=>263|233=>264|n=>n,fun|17=>0|18=>4|19=>5|n=>n⟩
theorem Tryz.lays171:Go.Proofs.Lays.n171 Tryz.prog Tryz.lays171_ren:={
 mixed:=by kernel_rfl
 f129:=Tryz.func195.trans (congrArg some (by kernel_rfl))
 f171:=Tryz.func152.trans (congrArg some (by kernel_rfl))
 f243:=Tryz.func171.trans (congrArg some (by kernel_rfl))
 f246:=Tryz.func178.trans (congrArg some (by kernel_rfl))
 f283:=Tryz.func184.trans (congrArg some (by kernel_rfl))
 f284:=Tryz.func185.trans (congrArg some (by kernel_rfl))
 f285:=Tryz.func186.trans (congrArg some (by kernel_rfl))
 f286:=Tryz.func187.trans (congrArg some (by kernel_rfl))
 f317:=Tryz.func194.trans (congrArg some (by kernel_rfl))
 f318:=Tryz.func196.trans (congrArg some (by kernel_rfl))
 f319:=Tryz.func197.trans (congrArg some (by kernel_rfl))
 f320:=Tryz.func198.trans (congrArg some (by kernel_rfl))
 f337:=Tryz.func204.trans (congrArg some (by kernel_rfl))
 f338:=Tryz.func205.trans (congrArg some (by kernel_rfl))
 t0:=Tryz.underlying0
 a0:=Tryz.isAgg0
 z0:=Tryz.sizeOf0
 v0:=Tryz.zeroValue0
 t2:=Tryz.underlying2
 a2:=Tryz.isAgg2
 z2:=Tryz.sizeOf2
 v2:=Tryz.zeroValue2
 t3:=Tryz.underlying3
 a3:=Tryz.isAgg3
 z3:=Tryz.sizeOf3
 v3:=Tryz.zeroValue3
 t4:=Tryz.underlying4
 a4:=Tryz.isAgg4
 z4:=Tryz.sizeOf4
 v4:=Tryz.zeroValue4
 t5:=Tryz.underlying5
 a5:=Tryz.isAgg5
 z5:=Tryz.sizeOf5
 v5:=Tryz.zeroValue5
 t9:=Tryz.underlying9
 a9:=Tryz.isAgg9
 z9:=Tryz.sizeOf9
 v9:=Tryz.zeroValue9
 t20:=Tryz.underlying20
 a20:=Tryz.isAgg20
 z20:=Tryz.sizeOf20
 v20:=Tryz.zeroValue20
 t37:=Tryz.underlying111
 a37:=Tryz.isAgg111
 z37:=Tryz.sizeOf111
 v37:=Tryz.zeroValue111
 t46:=Tryz.underlying254
 a46:=Tryz.isAgg254
 z46:=Tryz.sizeOf254
 v46:=Tryz.zeroValue254
 t51:=Tryz.underlying252
 a51:=Tryz.isAgg252
 z51:=Tryz.sizeOf252
 v51:=Tryz.zeroValue252
 t53:=Tryz.underlying237
 a53:=Tryz.isAgg237
 z53:=Tryz.sizeOf237
 v53:=Tryz.zeroValue237
 t171:=Tryz.underlying236
 a171:=Tryz.isAgg236
 z171:=Tryz.sizeOf236
 v171:=Tryz.zeroValue236
 t173:=Tryz.underlying240
 a173:=Tryz.isAgg240
 z173:=Tryz.sizeOf240
 v173:=Tryz.zeroValue240
 t212:=Tryz.underlying251
 a212:=Tryz.isAgg251
 z212:=Tryz.sizeOf251
 v212:=Tryz.zeroValue251
 t213:=Tryz.underlying253
 a213:=Tryz.isAgg253
 z213:=Tryz.sizeOf253
 t232:=Tryz.underlying263
 a232:=Tryz.isAgg263
 z232:=Tryz.sizeOf263
 v232:=Tryz.zeroValue263
 t233:=Tryz.underlying264
 a233:=Tryz.isAgg264
 z233:=Tryz.sizeOf264
 v233:=Tryz.zeroValue264
 g17:=by kernel_rfl
 g18:=by kernel_rfl
 g19:=by kernel_rfl }
open Go.RowKit Go.Sort Go.Lib in
theorem Tryz.strconv_Itoa_small (i:Nat) (hi:i<100) (w:World) :
  Calls Tryz.prog 152 #[.int .i64 i] w fun e w'=>e = .returned (.string ⟨(Lib.decDigits i).toArray⟩)∧w'=w:=Any.strconv_Itoa_small Tryz.lays171 i hi w
def Tryz.lays146_ren:Go.Shelf.Ren:=⟨fun|146=>155|221=>175|268=>181|138=>182|143=>183|195=>190|197=>191|218=>192|219=>193|260=>199|217=>200|225=>201|224=>202|267=>203|266=>206|314=>207|n=>n,fun|9=>9|31=>167|3=>3|4=>4|0=>0|105=>246|21=>21|5=>5|46=>254|119=>257|139=>260|138=>259|146=>261|51=>252|n=>n,fun|1=>1|3=>2|4=>3|n=>n⟩
theorem Tryz.lays146:Go.Proofs.Lays.n146 Tryz.prog Tryz.lays146_ren:={
 mixed:=by kernel_rfl
 f138:=Tryz.func182.trans (congrArg some (by kernel_rfl))
 f143:=Tryz.func183.trans (congrArg some (by kernel_rfl))
 f146:=Tryz.func155.trans (congrArg some (by kernel_rfl))
 f195:=Tryz.func190.trans (congrArg some (by kernel_rfl))
 f197:=Tryz.func191.trans (congrArg some (by kernel_rfl))
 f217:=Tryz.func200.trans (congrArg some (by kernel_rfl))
 f218:=Tryz.func192.trans (congrArg some (by kernel_rfl))
 f219:=Tryz.func193.trans (congrArg some (by kernel_rfl))
 f221:=Tryz.func175.trans (congrArg some (by kernel_rfl))
 f224:=Tryz.func202.trans (congrArg some (by kernel_rfl))
 f225:=Tryz.func201.trans (congrArg some (by kernel_rfl))
 f260:=Tryz.func199.trans (congrArg some (by kernel_rfl))
 f266:=Tryz.func206.trans (congrArg some (by kernel_rfl))
 f267:=Tryz.func203.trans (congrArg some (by kernel_rfl))
 f268:=Tryz.func181.trans (congrArg some (by kernel_rfl))
 f314:=Tryz.func207.trans (congrArg some (by kernel_rfl))
 t0:=Tryz.underlying0
 a0:=Tryz.isAgg0
 z0:=Tryz.sizeOf0
 v0:=Tryz.zeroValue0
 t3:=Tryz.underlying3
 a3:=Tryz.isAgg3
 z3:=Tryz.sizeOf3
 v3:=Tryz.zeroValue3
 t4:=Tryz.underlying4
 a4:=Tryz.isAgg4
 z4:=Tryz.sizeOf4
 v4:=Tryz.zeroValue4
 t5:=Tryz.underlying5
 a5:=Tryz.isAgg5
 z5:=Tryz.sizeOf5
 v5:=Tryz.zeroValue5
 t9:=Tryz.underlying9
 a9:=Tryz.isAgg9
 z9:=Tryz.sizeOf9
 v9:=Tryz.zeroValue9
 t21:=Tryz.underlying21
 a21:=Tryz.isAgg21
 z21:=Tryz.sizeOf21
 v21:=Tryz.zeroValue21
 t31:=Tryz.underlying167
 a31:=Tryz.isAgg167
 z31:=Tryz.sizeOf167
 v31:=Tryz.zeroValue167
 t46:=Tryz.underlying254
 a46:=Tryz.isAgg254
 z46:=Tryz.sizeOf254
 v46:=Tryz.zeroValue254
 t51:=Tryz.underlying252
 a51:=Tryz.isAgg252
 z51:=Tryz.sizeOf252
 v51:=Tryz.zeroValue252
 t105:=Tryz.underlying246
 a105:=Tryz.isAgg246
 z105:=Tryz.sizeOf246
 v105:=Tryz.zeroValue246
 t119:=Tryz.underlying257
 a119:=Tryz.isAgg257
 z119:=Tryz.sizeOf257
 t138:=Tryz.underlying259
 a138:=Tryz.isAgg259
 z138:=Tryz.sizeOf259
 v138:=Tryz.zeroValue259
 t139:=Tryz.underlying260
 a139:=Tryz.isAgg260
 z139:=Tryz.sizeOf260
 v139:=Tryz.zeroValue260
 t146:=Tryz.underlying261
 a146:=Tryz.isAgg261
 z146:=Tryz.sizeOf261
 v146:=Tryz.zeroValue261
 g1:=by kernel_rfl
 g3:=by kernel_rfl
 g4:=by kernel_rfl }
open Go.RowKit Go.Lib in
theorem Tryz.strings_Split (s sep:ByteArray) (m:Int) (w:World) (hs:s.size<4294967281) (hm:w.cell? ⟨1,0,none⟩=some (.int .i64 m)) (h1:1≤sep.size) :
  Calls Tryz.prog 155 #[.string s,.string sep] w fun e w' =>
   e = .returned (.slice (some ⟨w.heap.size,0,none⟩) (Lib.countB s sep+1) (Lib.countB s sep+1))∧w'=w.alloc (.cells ((Lib.splitB sep 0 (Lib.countB s sep) s).map Value.string).toArray 9):=Any.strings_Split Tryz.lays146 (by kernel_rfl) s sep m w hs hm h1
end Go.Proofs
end
section
namespace Go.Den.Ve
open Go.Proofs
def cutS (b:UInt8):List UInt8→List (List UInt8)
 | []=>[[]]
 | x::xs=>if x=b then []::cutS b xs else match cutS b xs with
  | h::t=>(x::h)::t
  | []=>[[x]]
theorem cutS_cons (b:UInt8) (s:List UInt8):∃ h t,cutS b s=h::t:=by
 cases s with
 | nil=>exact ⟨_,_,rfl⟩
 | cons x xs =>
  simp only [cutS]
  split
  ·exact ⟨_,_,rfl⟩
  ·split <;> exact ⟨_,_,rfl⟩
theorem splitL_cut (b:UInt8):∀ (s acc h:List UInt8) (t:List (List UInt8)),cutS b s=h::t→splitL b acc s=(acc++h)::t
 | [],acc,h,t,e=>by simp only [cutS,List.cons.injEq] at e;obtain ⟨rfl,rfl⟩:=e;simp [splitL]
 | x::xs,acc,h,t,e=>by
  obtain ⟨h',t',e'⟩:=cutS_cons b xs
  simp only [cutS,e'] at e
  simp only [splitL]
  split at e
  ·rename_i hx
   rw [if_pos hx]
   simp only [List.cons.injEq] at e
   obtain ⟨rfl,rfl⟩:=e
   rw [splitL_cut b xs [] h' t' e']
   simp
  ·rename_i hx
   rw [if_neg hx]
   simp only [List.cons.injEq] at e
   obtain ⟨rfl,rfl⟩:=e
   rw [splitL_cut b xs (acc++[x]) h' t' e']
   simp
theorem splitL_cutS (b:UInt8) (s:List UInt8):splitL b [] s=cutS b s:=by
 obtain ⟨h,t,e⟩:=cutS_cons b s
 rw [splitL_cut b s [] h t e,e];rfl
theorem index_cons (b x:UInt8) (l:List UInt8):Lib.index (x::l) [b]=if x=b then 0 else if Lib.index l [b] == -1 then -1 else Lib.index l [b]+1:=by
 rw [Lib.index]
 by_cases h:x=b
 ·subst h;simp
 ·have:(b==x)=false:=by rw [beq_eq_false_iff_ne];exact fun e=>h e.symm
  have h2:¬ b=x:=fun e=>h e.symm
  simp [h2,h]
theorem cutS_miss (b:UInt8):∀ s:List UInt8,Lib.index s [b] = -1→cutS b s=[s]
 | [],_=>rfl
 | x::l,h=>by
  rw [index_cons] at h
  split at h
  ·omega
  ·rename_i hx
   have:=Lib.index_ge l [b]
   split at h
   ·rename_i h1
    simp only [cutS,if_neg hx,cutS_miss b l (eq_of_beq h1)]
   ·omega
theorem cutS_hit (b:UInt8):∀ (s:List UInt8) (i:Nat),Lib.index s [b]=i→cutS b s=s.take i::cutS b (s.drop (i+1))
 | [],i,h=>by simp [Lib.index] at h
 | x::l,i,h=>by
  rw [index_cons] at h
  split at h
  ·rename_i hx
   have:i=0:=by omega
   subst this
   simp only [cutS,if_pos hx];rfl
  ·rename_i hx
   split at h
   ·omega
   ·have hg:=Lib.index_ge l [b]
    rename_i hn
    have hn':Lib.index l [b] ≠ -1:=fun e=>hn (by rw [e];rfl)
    obtain ⟨j,rfl⟩:∃ j,i=j+1:=⟨i - 1,by omega⟩
    have ih:=cutS_hit b l j (by omega)
    simp only [cutS,if_neg hx,ih]
    rfl
theorem splitK_cut (b:UInt8):∀ (n:Nat) (s:List UInt8),s.length<n→Lib.splitK [b] 0 (Lib.countFrom [b] n s) s=cutS b s∧(cutS b s).length=Lib.countFrom [b] n s+1
 | 0,s,h=>by omega
 | n+1,s,h=>by
  have hg:=Lib.index_ge s [b]
  by_cases hi:Lib.index s [b] = -1
  ·have h1:(Lib.index s [b] == -1)=true:=by rw [hi];rfl
   simp only [Lib.countFrom,h1,if_true,Lib.splitK]
   rw [cutS_miss b s hi]
   exact ⟨rfl,rfl⟩
  ·have h1:(Lib.index s [b] == -1)=false:=by rw [beq_eq_false_iff_ne];exact hi
   obtain ⟨i,e⟩:∃ i:Nat,Lib.index s [b]=i:=⟨(Lib.index s [b]).toNat,by omega⟩
   have hc:=cutS_hit b s i e
   have hi2:i<s.length:=by
    have:=Lib.index_room s [b] (by omega)
    simp at this;omega
   obtain ⟨k1,k2⟩:=splitK_cut b n (s.drop (i+1)) (by simp;omega)
   have e2:(Lib.index s [b]).toNat=i:=by omega
   simp only [Lib.countFrom,h1,Bool.false_eq_true,if_false,e2,List.length_cons,List.length_nil,Nat.zero_add]
   rw [Nat.add_comm 1]
   simp only [Lib.splitK,h1,Bool.false_eq_true,if_false,e2,List.length_cons,List.length_nil,Nat.zero_add,Nat.add_zero]
   rw [k1,hc]
   exact ⟨rfl,by simp only [List.length_cons];omega⟩
theorem split_data (s sep:ByteArray) (b:UInt8) (hb:unB sep=[b]):(Lib.splitB sep 0 (Lib.countB s sep) s).map unB=splitL b [] (unB s)∧(splitL b [] (unB s)).length=Lib.countB s sep+1:=by
 have h1:=Lib.splitB_data sep 0 (Lib.countB s sep) s
 have hb':sep.data.toList=[b]:=hb
 have hc:Lib.countB s sep=Lib.countFrom [b] ((unB s).length+1) (unB s):=by
  show Lib.count s.data.toList sep.data.toList=_
  rw [hb'];rfl
 rw [hc] at h1 ⊢
 rw [hb'] at h1
 obtain ⟨k1,k2⟩:=splitK_cut b ((unB s).length+1) (unB s) (by omega)
 rw [splitL_cutS]
 exact ⟨h1.trans k1,k2⟩
theorem strs_row {G:Gh} {w:World} {b:Nat} {T:TypeId}:∀ (l pre:List ByteArray),w.heap[b]? = some (Obj.cells ((pre++l).map Value.string).toArray T (0,0))→VRC G w (l.map PV.str) b pre.length
 | [],pre,h=>by simp only [List.map_nil,VRC]
 | s::l,pre,h=>by
  simp only [List.map_cons,VRC]
  refine ⟨⟨.string s,?_,by simp only [VR]⟩,?_⟩
  ·rw [cell_row h];simp
  ·have:=strs_row (G:=G) l (pre++[s]) (by simpa using h)
   simpa using this
theorem encS_map (l:List ByteArray):(l.map unB).flatMap encS=l.map PV.str:=by
 induction l with
 | nil=>rfl
 | cons s l ih=>rw [List.map_cons,List.flatMap_cons,ih];rfl
theorem strs_low (m:Nat):∀ l:List ByteArray,lowL m (l.map PV.str)=true
 | []=>rfl
 | s::l=>by simp only [List.map_cons,lowL,PV.low,strs_low m l,Bool.and_self]
theorem enter152:Enterable Tryz.prog 152:=⟨_,Tryz.func152,by kernel_rfl,by kernel_rfl⟩
theorem enter153:Enterable Tryz.prog 153:=⟨_,Tryz.func153,by kernel_rfl,by kernel_rfl⟩
theorem enter155:Enterable Tryz.prog 155:=⟨_,Tryz.func155,by kernel_rfl,by kernel_rfl⟩
theorem digits_itoa:∀ i,i<100→Lib.decDigits i=itoaL i:=by decide +kernel
section
variable {B0:Nat} {w0 w:World} {G:Gh} {st st':St} {args:List PV} {avs:List Value} {r:CR}
theorem callR_same (hw:WR Tryz.prog B0 w0 G st.heap w) {v:PV} {u:Value} (hv:VR G w v u):CallR Tryz.prog B0 w0 G st w (.ret v) st (.returned u) w :=
 ⟨G,hw,Ext.refl _ _ _ _,u,rfl,hv⟩
theorem itoa_ok (h:itoaR st args=some (some (r,st'))) (hw:WR Tryz.prog B0 w0 G st.heap w) (ha:VRL G w args avs):∀ n,CallsIn Fence.wide n Tryz.prog 152 avs.toArray w (CallR Tryz.prog B0 w0 G st w r st'):=by
 intro n
 unfold itoaR at h
 split at h
 ·rename_i k
  split at h
  ·rename_i hk
   simp only [Option.some.injEq,Prod.mk.injEq] at h
   obtain ⟨rfl,rfl⟩:=h
   obtain ⟨v,vs',rfl,h1,h2⟩:=VRL.cons_iff.1 ha
   rw [VRL.nil_iff.1 h2]
   simp only [VR] at h1
   subst h1
   obtain ⟨i,rfl⟩:∃ i:Nat,k=i:=⟨k.toNat,by omega⟩
   refine callsIn_wide.2 ((Tryz.strconv_Itoa_small i (by omega) w).mono ?_)
   rintro e w' ⟨rfl,rfl⟩
   refine callR_same hw ?_
   rw [digits_itoa i (by omega),Int.toNat_natCast]
   simp only [VR]
   rfl
  ·cases h
 ·cases h
theorem strs_eq:∀ {cs:List PV} {l:List ByteArray},strs cs=some l→cs=l.map PV.str
 | [],l,h=>by simp only [strs,Option.some.injEq] at h;subst h;rfl
 | c::cs,l,h=>by
  cases c with
  | str s =>
   simp only [strs,Option.map_eq_some_iff] at h
   obtain ⟨l',h1,rfl⟩:=h
   rw [strs_eq h1];rfl
  | _=>simp [strs] at h
theorem VRC_get {G:Gh} {w:World}:∀ {cs:List PV} {b off j:Nat} {p:PV},VRC G w cs b off→cs[j]? = some p→∃ v,w.cell? ⟨b,off+j,none⟩=some v∧VR G w p v
 | [],b,off,j,p,h,hj=>by simp at hj
 | c::cs,b,off,0,p,h,hj=>by
  simp only [VRC] at h
  simp only [List.getElem?_cons_zero,Option.some.injEq] at hj
  subst hj
  exact h.1
 | c::cs,b,off,j+1,p,h,hj=>by
  simp only [VRC] at h
  simp only [List.getElem?_cons_succ] at hj
  obtain ⟨v,h1,h2⟩:=VRC_get h.2 hj
  exact ⟨v,by rw [← h1];congr 2;omega,h2⟩
theorem join_ok (h:joinR st args=some (some (r,st'))) (hw:WR Tryz.prog B0 w0 G st.heap w) (ha:VRL G w args avs):∀ n,CallsIn Fence.wide n Tryz.prog 153 avs.toArray w (CallR Tryz.prog B0 w0 G st w r st'):=by
 intro n
 unfold joinR at h
 split at h
 ·rename_i o k cs sep
  split at h
  ·rename_i l hl
   split at h
   ·rename_i hk
    simp only [Option.some.injEq,Prod.mk.injEq] at h
    obtain ⟨rfl,rfl⟩:=h
    obtain ⟨v,vs',rfl,h1,h2⟩:=VRL.cons_iff.1 ha
    obtain ⟨v2,vs2,rfl,h3,h4⟩:=VRL.cons_iff.1 h2
    rw [VRL.nil_iff.1 h4]
    simp only [VR] at h1 h3
    subst h3
    rcases h1 with ⟨b,off,cap,rfl,hcap,hcm,_,hrow⟩|⟨_,rfl,rfl,x0,rfl⟩
    rotate_left
    ·have h0:l=[]:=by simpa [strs] using hl
     subst h0
     refine callsIn_wide.2 ((Tryz.strings_Join_none _ 0 sep w).mono ?_)
     rintro e w' ⟨rfl,rfl⟩
     refine callR_same hw ?_
     simp only [VR]
     simp [List.intercalate,toB]
    have hcs:=strs_eq hl
    have hlen:l.length=k:=by rw [hk.1,hcs,List.length_map]
    by_cases h0:l=[]
    ·subst h0
     have hk0:k=0:=by rw [← hlen];rfl
     subst hk0
     refine callsIn_wide.2 ((Tryz.strings_Join_none _ cap sep w).mono ?_)
     rintro e w' ⟨rfl,rfl⟩
     refine callR_same hw ?_
     simp only [VR]
     simp [List.intercalate,toB]
    ·have hne:cs≠[]:=by rw [hcs];simpa using h0
     obtain ⟨m,hm1,hm2⟩:=hcm hne
     have hb:=hw.cmLt hm1
     have hj:(Lib.join (l.map (·.data.toList)) sep.data.toList).length≤140737488355328:=by
      have hl2:∀ (xs:List ByteArray),(∀ s∈xs,s.size≤1000)→(Lib.join (xs.map (·.data.toList)) sep.data.toList).length≤xs.length*2000:=by
       intro xs hxs
       cases xs with
       | nil=>simp [Lib.join,List.intercalate]
       | cons x xs =>
        rw [List.map_cons,Lib.join_cons]
        have hx:x.data.toList.length≤1000:=hxs x (by simp)
        have ht:∀ ys:List ByteArray,(∀ s∈ys,s.size≤1000)→(Lib.joinTail sep.data.toList (ys.map (·.data.toList))).length≤ys.length*2000:=by
         intro ys hys
         induction ys with
         | nil=>simp [Lib.joinTail]
         | cons y ys ih =>
          have h5:=ih (fun s hs=>hys s (by simp [hs]))
          have h6:y.data.toList.length≤1000:=hys y (by simp)
          have h7:sep.data.toList.length≤1000:=hk.2.2.1
          simp only [Lib.joinTail,List.map_cons,List.flatten_cons,List.length_append,List.length_cons] at h5 ⊢
          omega
        have h8:=ht xs (fun s hs=>hxs s (by simp [hs]))
        simp only [List.length_append,List.length_cons]
        omega
      have h9:=hl2 l (fun s hs=>by
       have:=List.all_eq_true.1 hk.2.2.2 s hs
       exact of_decide_eq_true this)
      have h10:l.length*2000≤1000*2000:=Nat.mul_le_mul_right _ (by omega)
      omega
     have hv:=Tryz.strings_Join b off cap l sep w (fun j x hx=>by
      obtain ⟨v,h5,h6⟩:=VRC_get (j:=j) (p := .str x) hrow (by rw [hcs,List.getElem?_map,hx];rfl)
      simp only [VR] at h6
      rw [h5,h6]) hb (by omega) (by omega) hj
     rw [hlen] at hv
     refine callsIn_wide.2 (hv.mono ?_)
     rintro e w' ⟨rfl,hbl⟩
     have hf:Foreign B0 G w w' (fun _=>False) := .grow hbl.size (fun b hb=>hbl.block b hb) ⟨hbl.os,hbl.output⟩
     refine ⟨G,hf.wr hw,Ext.grow hw hf,_,rfl,?_⟩
     simp only [VR]
     rfl
   ·cases h
  ·cases h
 ·cases h
theorem split_ok {m:Int} (hB:1<B0) (hm:w0.cell? ⟨1,0,none⟩=some (.int .i64 m)) (h:splitR st args=some (some (r,st'))) (hw:WR Tryz.prog B0 w0 G st.heap w) (ha:VRL G w args avs):∀ n,CallsIn Fence.wide n Tryz.prog 155 avs.toArray w (CallR Tryz.prog B0 w0 G st w r st'):=by
 intro n
 unfold splitR at h
 split at h
 ·rename_i s sep
  split at h
  ·rename_i b hb
   split at h
   ·rename_i hk
    simp only [Option.some.injEq,Prod.mk.injEq] at h
    obtain ⟨rfl,rfl⟩:=h
    obtain ⟨v,vs',rfl,h1,h2⟩:=VRL.cons_iff.1 ha
    obtain ⟨v2,vs2,rfl,h3,h4⟩:=VRL.cons_iff.1 h2
    rw [VRL.nil_iff.1 h4]
    simp only [VR] at h1 h3
    subst h1 h3
    have hm':w.cell? ⟨1,0,none⟩=some (.int .i64 m):=by
     rw [cell_of_heap (hw.low.2 1 hB)];exact hm
    have hsep:1≤sep.size:=by
     have:(unB sep).length=1:=by rw [hb];rfl
     have h5:sep.size=(unB sep).length:=rfl
     omega
    refine callsIn_wide.2 ((Tryz.strings_Split s sep m w (by omega) hm' hsep).mono ?_)
    rintro e w' ⟨rfl,rfl⟩
    obtain ⟨d1,d2⟩:=split_data s sep b hb
    rw [d2,← d1,encS_map]
    have hlen:(Lib.splitB sep 0 (Lib.countB s sep) s).length=Lib.countB s sep+1:=by rw [← d2,← d1,List.length_map]
    obtain ⟨G',k1,k2,k3⟩:=shared_row hw ((Lib.splitB sep 0 (Lib.countB s sep) s).map PV.str) ((Lib.splitB sep 0 (Lib.countB s sep) s).map Value.string).toArray 9 (by simp) (fun m=>strs_low m _) (fun G' w' hh=>strs_row _ [] (by simpa using hh)) (Lib.countB s sep+1) (Lib.countB s sep+1) (Nat.le_refl _)
    exact ⟨G',k1,k2 _,_,rfl,k3⟩
   ·cases h
  ·cases h
 ·cases h
end
end Go.Den.Ve
end

/- Part of the proofs of laws of the package version. Texts: TnFnOK, TnPrimA, TnPrimB, TnEntry, TnRow. -/
import Derived.Test.YthnfeimjhibcaaaTBAq
import Derived.Test.YthnfeimjhibcaaaTBAg
import Derived.Test.YthnfeimjhibcaaaProg
import Derived.Test.YthnfeimjhibcaaaTBAk
import Derived.WalkKit
import Derived.Defers
import Derived.Recover
import Derived.Test.YthnfeimjhibcaaaTBAi
import Derived.ProofKit
import Derived.HandedShaped
import Derived.Shelf.Vars
import Derived.LaidLaws
import Derived.Lay
import Derived.LaidHandle
import Derived.Test.YthnfeimjhibcaaaRows
import Derived.LaidMore
import Derived.OpenShut
import Derived.Stop.Joined
import Derived.Carry
set_option linter.unusedSimpArgs false
set_option linter.unusedVariables false
section
namespace Go.Den.Tp
open Go.Proofs
set_option maxRecDepth 100000
def mu0:TypeId→Bool:=fun _=>false
def mu4:TypeId→Bool:=fun t=>t==47
theorem en3:funcC Try.prog mu0 Try.f3=some den3:=by kernel_rfl
theorem en4:funcC Try.prog mu4 Try.f4=some den4:=by kernel_rfl
theorem en5:funcC Try.prog mu0 Try.f5=some den5:=by kernel_rfl
theorem en6:funcC Try.prog mu0 Try.f6=some den6:=by kernel_rfl
theorem en7:funcC Try.prog mu0 Try.f7=some den7:=by kernel_rfl
theorem en8:funcC Try.prog mu0 Try.f8=some den8:=by kernel_rfl
theorem en9:funcC Try.prog mu0 Try.f9=some den9:=by kernel_rfl
theorem en10:funcC Try.prog mu0 Try.f10=some den10:=by kernel_rfl
theorem en11:funcC Try.prog mu0 Try.f11=some den11:=by kernel_rfl
theorem en12:funcC Try.prog mu0 Try.f12=some den12:=by kernel_rfl
theorem en13:funcC Try.prog mu0 Try.f13=some den13:=by kernel_rfl
theorem en14:funcC Try.prog mu0 Try.f14=some den14:=by kernel_rfl
theorem en15:funcC Try.prog mu0 Try.f15=some den15:=by kernel_rfl
theorem en16:funcC Try.prog mu0 Try.f16=some den16:=by kernel_rfl
theorem en17:funcC Try.prog mu0 Try.f17=some den17:=by kernel_rfl
theorem en18:funcC Try.prog mu0 Try.f18=some den18:=by kernel_rfl
theorem en19:funcC Try.prog mu0 Try.f19=some den19:=by kernel_rfl
theorem en20:funcC Try.prog mu0 Try.f20=some den20:=by kernel_rfl
theorem en21:funcC Try.prog mu0 Try.f21=some den21:=by kernel_rfl
theorem en22:funcC Try.prog mu0 Try.f22=some den22:=by kernel_rfl
theorem en23:funcC Try.prog mu0 Try.f23=some den23:=by kernel_rfl
theorem en24:funcC Try.prog mu0 Try.f24=some den24:=by kernel_rfl
theorem en25:funcC Try.prog mu0 Try.f25=some den25:=by kernel_rfl
theorem en26:funcC Try.prog mu0 Try.f26=some den26:=by kernel_rfl
theorem en27:funcC Try.prog mu0 Try.f27=some den27:=by kernel_rfl
theorem en28:funcC Try.prog mu0 Try.f28=some den28:=by kernel_rfl
theorem en29:funcC Try.prog mu0 Try.f29=some den29:=by kernel_rfl
theorem en30:funcC Try.prog mu0 Try.f30=some den30:=by kernel_rfl
theorem en31:funcC Try.prog mu0 Try.f31=some den31:=by kernel_rfl
theorem en32:funcC Try.prog mu0 Try.f32=some den32:=by kernel_rfl
theorem en33:funcC Try.prog mu0 Try.f33=some den33:=by kernel_rfl
theorem en34:funcC Try.prog mu0 Try.f34=some den34:=by kernel_rfl
theorem en35:funcC Try.prog mu0 Try.f35=some den35:=by kernel_rfl
theorem en36:funcC Try.prog mu0 Try.f36=some den36:=by kernel_rfl
theorem en37:funcC Try.prog mu0 Try.f37=some den37:=by kernel_rfl
theorem en38:funcC Try.prog mu0 Try.f38=some den38:=by kernel_rfl
theorem en39:funcC Try.prog mu0 Try.f39=some den39:=by kernel_rfl
theorem en40:funcC Try.prog mu0 Try.f40=some den40:=by kernel_rfl
theorem en41:funcC Try.prog mu0 Try.f41=some den41:=by kernel_rfl
theorem en42:funcC Try.prog mu0 Try.f42=some den42:=by kernel_rfl
theorem en43:funcC Try.prog mu0 Try.f43=some den43:=by kernel_rfl
theorem en44:funcC Try.prog mu0 Try.f44=some den44:=by kernel_rfl
theorem en45:funcC Try.prog mu0 Try.f45=some den45:=by kernel_rfl
theorem en46:funcC Try.prog mu0 Try.f46=some den46:=by kernel_rfl
theorem en47:funcC Try.prog mu0 Try.f47=some den47:=by kernel_rfl
theorem en48:funcC Try.prog mu0 Try.f48=some den48:=by kernel_rfl
theorem en49:funcC Try.prog mu0 Try.f49=some den49:=by kernel_rfl
theorem en50:funcC Try.prog mu0 Try.f50=some den50:=by kernel_rfl
theorem en51:funcC Try.prog mu0 Try.f51=some den51:=by kernel_rfl
theorem en52:funcC Try.prog mu0 Try.f52=some den52:=by kernel_rfl
theorem en54:funcC Try.prog mu0 Try.f54=some den54:=by kernel_rfl
theorem en55:funcC Try.prog mu0 Try.f55=some den55:=by kernel_rfl
theorem en56:funcC Try.prog mu0 Try.f56=some den56:=by kernel_rfl
theorem en57:funcC Try.prog mu0 Try.f57=some den57:=by kernel_rfl
theorem en58:funcC Try.prog mu0 Try.f58=some den58:=by kernel_rfl
theorem en59:funcC Try.prog mu0 Try.f59=some den59:=by kernel_rfl
theorem en60:funcC Try.prog mu0 Try.f60=some den60:=by kernel_rfl
theorem en61:funcC Try.prog mu0 Try.f61=some den61:=by kernel_rfl
theorem en62:funcC Try.prog mu0 Try.f62=some den62:=by kernel_rfl
theorem en63:funcC Try.prog mu0 Try.f63=some den63:=by kernel_rfl
theorem en64:funcC Try.prog mu0 Try.f64=some den64:=by kernel_rfl
theorem en65:funcC Try.prog mu0 Try.f65=some den65:=by kernel_rfl
theorem en66:funcC Try.prog mu0 Try.f66=some den66:=by kernel_rfl
theorem en67:funcC Try.prog mu0 Try.f67=some den67:=by kernel_rfl
theorem en68:funcC Try.prog mu0 Try.f68=some den68:=by kernel_rfl
theorem en69:funcC Try.prog mu0 Try.f69=some den69:=by kernel_rfl
theorem en70:funcC Try.prog mu0 Try.f70=some den70:=by kernel_rfl
theorem en71:funcC Try.prog mu0 Try.f71=some den71:=by kernel_rfl
theorem en72:funcC Try.prog mu0 Try.f72=some den72:=by kernel_rfl
theorem en73:funcC Try.prog mu0 Try.f73=some den73:=by kernel_rfl
theorem en74:funcC Try.prog mu0 Try.f74=some den74:=by kernel_rfl
theorem en75:funcC Try.prog mu0 Try.f75=some den75:=by kernel_rfl
theorem en76:funcC Try.prog mu0 Try.f76=some den76:=by kernel_rfl
theorem en77:funcC Try.prog mu0 Try.f77=some den77:=by kernel_rfl
theorem en78:funcC Try.prog mu0 Try.f78=some den78:=by kernel_rfl
theorem en79:funcC Try.prog mu0 Try.f79=some den79:=by kernel_rfl
theorem en80:funcC Try.prog mu0 Try.f80=some den80:=by kernel_rfl
theorem en81:funcC Try.prog mu0 Try.f81=some den81:=by kernel_rfl
theorem en82:funcC Try.prog mu0 Try.f82=some den82:=by kernel_rfl
theorem en83:funcC Try.prog mu0 Try.f83=some den83:=by kernel_rfl
theorem en84:funcC Try.prog mu0 Try.f84=some den84:=by kernel_rfl
theorem en85:funcC Try.prog mu0 Try.f85=some den85:=by kernel_rfl
theorem en86:funcC Try.prog mu0 Try.f86=some den86:=by kernel_rfl
theorem en87:funcC Try.prog mu0 Try.f87=some den87:=by kernel_rfl
theorem en88:funcC Try.prog mu0 Try.f88=some den88:=by kernel_rfl
theorem en89:funcC Try.prog mu0 Try.f89=some den89:=by kernel_rfl
theorem en90:funcC Try.prog mu0 Try.f90=some den90:=by kernel_rfl
theorem en91:funcC Try.prog mu0 Try.f91=some den91:=by kernel_rfl
theorem en92:funcC Try.prog mu0 Try.f92=some den92:=by kernel_rfl
theorem en93:funcC Try.prog mu0 Try.f93=some den93:=by kernel_rfl
theorem en94:funcC Try.prog mu0 Try.f94=some den94:=by kernel_rfl
theorem en95:funcC Try.prog mu0 Try.f95=some den95:=by kernel_rfl
theorem en96:funcC Try.prog mu0 Try.f96=some den96:=by kernel_rfl
theorem en97:funcC Try.prog mu0 Try.f97=some den97:=by kernel_rfl
theorem en98:funcC Try.prog mu0 Try.f98=some den98:=by kernel_rfl
theorem en99:funcC Try.prog mu0 Try.f99=some den99:=by kernel_rfl
theorem en100:funcC Try.prog mu0 Try.f100=some den100:=by kernel_rfl
theorem en101:funcC Try.prog mu0 Try.f101=some den101:=by kernel_rfl
theorem en102:funcC Try.prog mu0 Try.f102=some den102:=by kernel_rfl
theorem en103:funcC Try.prog mu0 Try.f103=some den103:=by kernel_rfl
theorem en104:funcC Try.prog mu0 Try.f104=some den104:=by kernel_rfl
theorem en105:funcC Try.prog mu0 Try.f105=some den105:=by kernel_rfl
theorem en106:funcC Try.prog mu0 Try.f106=some den106:=by kernel_rfl
theorem en108:funcC Try.prog mu0 Try.f108=some den108:=by kernel_rfl
theorem en109:funcC Try.prog mu0 Try.f109=some den109:=by kernel_rfl
theorem en110:funcC Try.prog mu0 Try.f110=some den110:=by kernel_rfl
theorem en111:funcC Try.prog mu0 Try.f111=some den111:=by kernel_rfl
theorem en112:funcC Try.prog mu0 Try.f112=some den112:=by kernel_rfl
theorem en113:funcC Try.prog mu0 Try.f113=some den113:=by kernel_rfl
theorem en114:funcC Try.prog mu0 Try.f114=some den114:=by kernel_rfl
theorem en115:funcC Try.prog mu0 Try.f115=some den115:=by kernel_rfl
theorem en116:funcC Try.prog mu0 Try.f116=some den116:=by kernel_rfl
theorem en117:funcC Try.prog mu0 Try.f117=some den117:=by kernel_rfl
theorem en118:funcC Try.prog mu0 Try.f118=some den118:=by kernel_rfl
theorem en119:funcC Try.prog mu0 Try.f119=some den119:=by kernel_rfl
theorem en120:funcC Try.prog mu0 Try.f120=some den120:=by kernel_rfl
theorem en121:funcC Try.prog mu0 Try.f121=some den121:=by kernel_rfl
theorem en122:funcC Try.prog mu0 Try.f122=some den122:=by kernel_rfl
theorem en123:funcC Try.prog mu0 Try.f123=some den123:=by kernel_rfl
theorem en124:funcC Try.prog mu0 Try.f124=some den124:=by kernel_rfl
theorem en125:funcC Try.prog mu0 Try.f125=some den125:=by kernel_rfl
theorem en126:funcC Try.prog mu0 Try.f126=some den126:=by kernel_rfl
theorem en127:funcC Try.prog mu0 Try.f127=some den127:=by kernel_rfl
theorem en128:funcC Try.prog mu0 Try.f128=some den128:=by kernel_rfl
theorem en129:funcC Try.prog mu0 Try.f129=some den129:=by kernel_rfl
theorem en130:funcC Try.prog mu0 Try.f130=some den130:=by kernel_rfl
theorem en131:funcC Try.prog mu0 Try.f131=some den131:=by kernel_rfl
theorem en132:funcC Try.prog mu0 Try.f132=some den132:=by kernel_rfl
theorem en133:funcC Try.prog mu0 Try.f133=some den133:=by kernel_rfl
theorem en134:funcC Try.prog mu0 Try.f134=some den134:=by kernel_rfl
theorem en135:funcC Try.prog mu0 Try.f135=some den135:=by kernel_rfl
theorem en136:funcC Try.prog mu0 Try.f136=some den136:=by kernel_rfl
theorem en137:funcC Try.prog mu0 Try.f137=some den137:=by kernel_rfl
theorem en138:funcC Try.prog mu0 Try.f138=some den138:=by kernel_rfl
theorem en139:funcC Try.prog mu0 Try.f139=some den139:=by kernel_rfl
theorem en140:funcC Try.prog mu0 Try.f140=some den140:=by kernel_rfl
theorem en141:funcC Try.prog mu0 Try.f141=some den141:=by kernel_rfl
theorem en_of {g:Nat} {df df':DFunc} {fn:Func} {mu:TypeId→Bool} (h:some df'=some df) (h1:Try.prog.funcs[g]? = some fn) (h2:funcC Try.prog mu fn=some df') (h3:(fn.name== "runtime.NumGoroutine")=false):∃ fn mu,Try.prog.funcs[g]? = some fn∧funcC Try.prog mu fn=some df∧(fn.name== "runtime.NumGoroutine")=false:=by
 cases h
 exact ⟨fn,mu,h1,h2,h3⟩
theorem envFn:EnvFn Try.prog EE:=⟨fun g df h=>by
 have h:fnT g=some df:=h
 unfold fnT at h
 split at h
 ·exact en_of h Try.func3 en3 (by kernel_rfl)
 ·exact en_of h Try.func4 en4 (by kernel_rfl)
 ·exact en_of h Try.func5 en5 (by kernel_rfl)
 ·exact en_of h Try.func6 en6 (by kernel_rfl)
 ·exact en_of h Try.func7 en7 (by kernel_rfl)
 ·exact en_of h Try.func8 en8 (by kernel_rfl)
 ·exact en_of h Try.func9 en9 (by kernel_rfl)
 ·exact en_of h Try.func10 en10 (by kernel_rfl)
 ·exact en_of h Try.func11 en11 (by kernel_rfl)
 ·exact en_of h Try.func12 en12 (by kernel_rfl)
 ·exact en_of h Try.func13 en13 (by kernel_rfl)
 ·exact en_of h Try.func14 en14 (by kernel_rfl)
 ·exact en_of h Try.func15 en15 (by kernel_rfl)
 ·exact en_of h Try.func16 en16 (by kernel_rfl)
 ·exact en_of h Try.func17 en17 (by kernel_rfl)
 ·exact en_of h Try.func18 en18 (by kernel_rfl)
 ·exact en_of h Try.func19 en19 (by kernel_rfl)
 ·exact en_of h Try.func20 en20 (by kernel_rfl)
 ·exact en_of h Try.func21 en21 (by kernel_rfl)
 ·exact en_of h Try.func22 en22 (by kernel_rfl)
 ·exact en_of h Try.func23 en23 (by kernel_rfl)
 ·exact en_of h Try.func24 en24 (by kernel_rfl)
 ·exact en_of h Try.func25 en25 (by kernel_rfl)
 ·exact en_of h Try.func26 en26 (by kernel_rfl)
 ·exact en_of h Try.func27 en27 (by kernel_rfl)
 ·exact en_of h Try.func28 en28 (by kernel_rfl)
 ·exact en_of h Try.func29 en29 (by kernel_rfl)
 ·exact en_of h Try.func30 en30 (by kernel_rfl)
 ·exact en_of h Try.func31 en31 (by kernel_rfl)
 ·exact en_of h Try.func32 en32 (by kernel_rfl)
 ·exact en_of h Try.func33 en33 (by kernel_rfl)
 ·exact en_of h Try.func34 en34 (by kernel_rfl)
 ·exact en_of h Try.func35 en35 (by kernel_rfl)
 ·exact en_of h Try.func36 en36 (by kernel_rfl)
 ·exact en_of h Try.func37 en37 (by kernel_rfl)
 ·exact en_of h Try.func38 en38 (by kernel_rfl)
 ·exact en_of h Try.func39 en39 (by kernel_rfl)
 ·exact en_of h Try.func40 en40 (by kernel_rfl)
 ·exact en_of h Try.func41 en41 (by kernel_rfl)
 ·exact en_of h Try.func42 en42 (by kernel_rfl)
 ·exact en_of h Try.func43 en43 (by kernel_rfl)
 ·exact en_of h Try.func44 en44 (by kernel_rfl)
 ·exact en_of h Try.func45 en45 (by kernel_rfl)
 ·exact en_of h Try.func46 en46 (by kernel_rfl)
 ·exact en_of h Try.func47 en47 (by kernel_rfl)
 ·exact en_of h Try.func48 en48 (by kernel_rfl)
 ·exact en_of h Try.func49 en49 (by kernel_rfl)
 ·exact en_of h Try.func50 en50 (by kernel_rfl)
 ·exact en_of h Try.func51 en51 (by kernel_rfl)
 ·exact en_of h Try.func52 en52 (by kernel_rfl)
 ·exact en_of h Try.func54 en54 (by kernel_rfl)
 ·exact en_of h Try.func55 en55 (by kernel_rfl)
 ·exact en_of h Try.func56 en56 (by kernel_rfl)
 ·exact en_of h Try.func57 en57 (by kernel_rfl)
 ·exact en_of h Try.func58 en58 (by kernel_rfl)
 ·exact en_of h Try.func59 en59 (by kernel_rfl)
 ·exact en_of h Try.func60 en60 (by kernel_rfl)
 ·exact en_of h Try.func61 en61 (by kernel_rfl)
 ·exact en_of h Try.func62 en62 (by kernel_rfl)
 ·exact en_of h Try.func63 en63 (by kernel_rfl)
 ·exact en_of h Try.func64 en64 (by kernel_rfl)
 ·exact en_of h Try.func65 en65 (by kernel_rfl)
 ·exact en_of h Try.func66 en66 (by kernel_rfl)
 ·exact en_of h Try.func67 en67 (by kernel_rfl)
 ·exact en_of h Try.func68 en68 (by kernel_rfl)
 ·exact en_of h Try.func69 en69 (by kernel_rfl)
 ·exact en_of h Try.func70 en70 (by kernel_rfl)
 ·exact en_of h Try.func71 en71 (by kernel_rfl)
 ·exact en_of h Try.func72 en72 (by kernel_rfl)
 ·exact en_of h Try.func73 en73 (by kernel_rfl)
 ·exact en_of h Try.func74 en74 (by kernel_rfl)
 ·exact en_of h Try.func75 en75 (by kernel_rfl)
 ·exact en_of h Try.func76 en76 (by kernel_rfl)
 ·exact en_of h Try.func77 en77 (by kernel_rfl)
 ·exact en_of h Try.func78 en78 (by kernel_rfl)
 ·exact en_of h Try.func79 en79 (by kernel_rfl)
 ·exact en_of h Try.func80 en80 (by kernel_rfl)
 ·exact en_of h Try.func81 en81 (by kernel_rfl)
 ·exact en_of h Try.func82 en82 (by kernel_rfl)
 ·exact en_of h Try.func83 en83 (by kernel_rfl)
 ·exact en_of h Try.func84 en84 (by kernel_rfl)
 ·exact en_of h Try.func85 en85 (by kernel_rfl)
 ·exact en_of h Try.func86 en86 (by kernel_rfl)
 ·exact en_of h Try.func87 en87 (by kernel_rfl)
 ·exact en_of h Try.func88 en88 (by kernel_rfl)
 ·exact en_of h Try.func89 en89 (by kernel_rfl)
 ·exact en_of h Try.func90 en90 (by kernel_rfl)
 ·exact en_of h Try.func91 en91 (by kernel_rfl)
 ·exact en_of h Try.func92 en92 (by kernel_rfl)
 ·exact en_of h Try.func93 en93 (by kernel_rfl)
 ·exact en_of h Try.func94 en94 (by kernel_rfl)
 ·exact en_of h Try.func95 en95 (by kernel_rfl)
 ·exact en_of h Try.func96 en96 (by kernel_rfl)
 ·exact en_of h Try.func97 en97 (by kernel_rfl)
 ·exact en_of h Try.func98 en98 (by kernel_rfl)
 ·exact en_of h Try.func99 en99 (by kernel_rfl)
 ·exact en_of h Try.func100 en100 (by kernel_rfl)
 ·exact en_of h Try.func101 en101 (by kernel_rfl)
 ·exact en_of h Try.func102 en102 (by kernel_rfl)
 ·exact en_of h Try.func103 en103 (by kernel_rfl)
 ·exact en_of h Try.func104 en104 (by kernel_rfl)
 ·exact en_of h Try.func105 en105 (by kernel_rfl)
 ·exact en_of h Try.func106 en106 (by kernel_rfl)
 ·exact en_of h Try.func108 en108 (by kernel_rfl)
 ·exact en_of h Try.func109 en109 (by kernel_rfl)
 ·exact en_of h Try.func110 en110 (by kernel_rfl)
 ·exact en_of h Try.func111 en111 (by kernel_rfl)
 ·exact en_of h Try.func112 en112 (by kernel_rfl)
 ·exact en_of h Try.func113 en113 (by kernel_rfl)
 ·exact en_of h Try.func114 en114 (by kernel_rfl)
 ·exact en_of h Try.func115 en115 (by kernel_rfl)
 ·exact en_of h Try.func116 en116 (by kernel_rfl)
 ·exact en_of h Try.func117 en117 (by kernel_rfl)
 ·exact en_of h Try.func118 en118 (by kernel_rfl)
 ·exact en_of h Try.func119 en119 (by kernel_rfl)
 ·exact en_of h Try.func120 en120 (by kernel_rfl)
 ·exact en_of h Try.func121 en121 (by kernel_rfl)
 ·exact en_of h Try.func122 en122 (by kernel_rfl)
 ·exact en_of h Try.func123 en123 (by kernel_rfl)
 ·exact en_of h Try.func124 en124 (by kernel_rfl)
 ·exact en_of h Try.func125 en125 (by kernel_rfl)
 ·exact en_of h Try.func126 en126 (by kernel_rfl)
 ·exact en_of h Try.func127 en127 (by kernel_rfl)
 ·exact en_of h Try.func128 en128 (by kernel_rfl)
 ·exact en_of h Try.func129 en129 (by kernel_rfl)
 ·exact en_of h Try.func130 en130 (by kernel_rfl)
 ·exact en_of h Try.func131 en131 (by kernel_rfl)
 ·exact en_of h Try.func132 en132 (by kernel_rfl)
 ·exact en_of h Try.func133 en133 (by kernel_rfl)
 ·exact en_of h Try.func134 en134 (by kernel_rfl)
 ·exact en_of h Try.func135 en135 (by kernel_rfl)
 ·exact en_of h Try.func136 en136 (by kernel_rfl)
 ·exact en_of h Try.func137 en137 (by kernel_rfl)
 ·exact en_of h Try.func138 en138 (by kernel_rfl)
 ·exact en_of h Try.func139 en139 (by kernel_rfl)
 ·exact en_of h Try.func140 en140 (by kernel_rfl)
 ·exact en_of h Try.func141 en141 (by kernel_rfl)
 ·cases h⟩
theorem envOK:EnvOK Try.prog EE:=⟨fun t m f h v w=>by cases h⟩
theorem follows:Try.prog.follows .mixedOrders=true:=by kernel_rfl
end Go.Den.Tp
end
section
namespace Go.Proofs.TpTry
open Go.RowKit Go.Extern.Stop Go.Stop Go.Extern
section
variable {P:Program} {ops:Array Oper} {Q:Exit→Act→World→Prop} {i:Nat} {rest:List Nat} {a:Act} {w w':World} {o:Oper}
theorem ops_value {v:Value} (ho:ops[i]? = some o) (hg:o.guard=none) (hr:(execOp a.eval o).run P w = .ok (.value v) w') (h:wpOps P ops Q rest (a.put o.dst v) w'):wpOps P ops Q (i::rest) a w:=by
 simp only [wpOps,ho,Region.wanted,hg,if_true]
 left
 simp only [Oper.wp,Oper.upon,hr]
 exact h
theorem ops_skip (ho:ops[i]? = some o) (hg:o.guard=none) (hr:(execOp a.eval o).run P w = .ok .skip w') (h:wpOps P ops Q rest (a.put o.dst Go.undef) w'):wpOps P ops Q (i::rest) a w:=by
 simp only [wpOps,ho,Region.wanted,hg,if_true]
 left
 simp only [Oper.wp,Oper.upon,hr]
 exact h
theorem ops_defer {d:Deferred} (ho:ops[i]? = some o) (hg:o.guard=none) (hr:(execOp a.eval o).run P w = .ok (.defer d) w') (h:wpOps P ops Q rest ({ a with defers:=d::a.defers }.put o.dst Go.undef) w'):wpOps P ops Q (i::rest) a w:=by
 simp only [wpOps,ho,Region.wanted,hg,if_true]
 left
 simp only [Oper.wp,Oper.upon,hr]
 exact h
theorem ops_call {g:FuncId} {args:Array Value} {R:Ending→World→Prop} (ho:ops[i]? = some o) (hg:o.guard=none) (hr:(execOp a.eval o).run P w = .ok (.enter g args) w) (hc:Calls P g args w R) (h:∀ e w'',R e w''→match e with
  | .returned v=>wpOps P ops Q rest (a.put o.dst v) w''
  | .panicked chain=>Q (.panic chain) a w''
  | .outgrown=>False):wpOps P ops Q (i::rest) a w:=by
 simp only [wpOps,ho,Region.wanted,hg,if_true]
 left
 simp only [Oper.wp,Oper.upon,hr]
 refine hc.mono fun e w'' he=>?_
 have:=h e w'' he
 cases e with
 | returned v=>exact this
 | panicked chain=>exact this
 | outgrown=>exact this.elim
theorem ops_nil (h:Q .normal a w):wpOps P ops Q [] a w:=h
theorem store_row {t T:TypeId} {x y:Operand} {g s:Nat} {arr:Array Value} (ho:o.op = .store t x y) (hx:a.eval x = .pointer (some ⟨g,0,none⟩)) (hsz:Go.Den.sizeT P t=some s) (hg:w.heap[g]? = some (Obj.cells arr T (0,0))) (hs:(a.eval y).cells.size=s) (hs2:arr.size=s) (h1:∀ u∈(a.eval y).cells.toList,u.oneCell'=true) :
  (execOp a.eval o).run P w = .ok .skip (w.putObj g (Obj.cells (a.eval y).cells T (0,0))):=by
 refine Go.Den.OpRun.unit (by unfold execOp;rw [ho]) ?_
 unfold Instr.storeAt storeVar
 have:=Go.Den.run_storeCells_th (P:=P) g 0 T (0,0) (a.eval y).cells.toList 0 arr w hg (Go.Den.Thawed.zero _) (by simp;omega) h1
 have e1:(arr.toList.take 0++(a.eval y).cells.toList++arr.toList.drop (0+(a.eval y).cells.toList.length)).toArray=(a.eval y).cells:=by
  rw [List.drop_of_length_le (by simp;omega)];simp
 simp only [Nat.add_zero] at this
 rw [e1] at this
 simp only [hx,Sem.run_bind,Go.Den.sureAddr_run,Result.andThen_ok,Go.Den.sizeOf_run hsz,hs,ne_eq,not_true_eq_false,if_false,this,Sem.run_ite]
end
theorem catch_idle (p q:Addr) (w:World) :
  CallsD Try.prog 107 #[.pointer (some p),.pointer (some q)] .returning w fun e u' w'=>e = .returned (.tuple #[])∧u' = .returning∧w'=w:=by
 have hnil:∀ w:World,(binOp BinOp.eql 20 .nilIface .nilIface).run Try.prog w = .ok (.bool true) w:=fun _=>by kernel_rfl
 refine callsD_of_wpS Try.func107 rfl fun c₀ cs hu=>?_
 apply wpS_seq
 apply wpS_region
 simp [wpOpsS,go_sem,recoverD,hu,Try.ntmps107,Exit.thenS]
 have ht:#[Value.pointer (some p),Value.pointer (some q)]++(Array.replicate 15 Go.undef).setIfInBounds 4 Value.nilIface=#[.pointer (some p),.pointer (some q),Go.undef,Go.undef,Go.undef,Go.undef,.nilIface,Go.undef,Go.undef,Go.undef,Go.undef,Go.undef,Go.undef,Go.undef,Go.undef,Go.undef,Go.undef]:=rfl
 rw [ht]
 refine wpS_of_wp ?_
 apply wp_block
 apply wp_seq
 apply wp_region
 simp [wpOps,go_sem,hnil,Exit.then]
 (repeat apply Or.inl)
 refine wp_cond_true (by simp [Act.eval]) ?_
 apply wp_region
 simp [wpOps,go_sem,Exit.inBlock]
 (repeat apply Or.inl)
 cases c₀
 simp_all [bodyPostS,results,Try.results107]
theorem catch_found (n:Nat) (a b c:Int) (x y z e0:Value) (older:List PanicEntry) (w:World) (hp:w.heap[n]? = some (.cells #[x,y,z] 67 (0,0))) (hq:w.heap[n+1]? = some (.cells #[e0] 36 (0,0))) :
  CallsD Try.prog 107 #[.pointer (some ⟨n,0,none⟩),.pointer (some ⟨n+1,0,none⟩)] (.panicking ({ v := .iface 153 (.agg #[.int .i64 a,.int .i64 b,.int .i64 c]),recovered:=false }::older)) w fun e u' w'=>e = .returned (.tuple #[])∧u' = .panicking ({ v := .iface 153 (.agg #[.int .i64 a,.int .i64 b,.int .i64 c]),recovered:=true }::older) ∧
   w.heap.size≤w'.heap.size∧(∀ k,k<w.heap.size→k≠n→k≠n+1→w'.heap[k]? = w.heap[k]?)∧w'.heap[n]? = some (.cells #[.int .i64 a,.int .i64 b,.int .i64 c] 67 (0,0))∧w'.heap[n+1]? = some (.cells #[.int .i64 7] 36 (0,0))∧w'.os=w.os∧w'.output=w.output:=by
 have hnil:∀ w:World,(binOp BinOp.eql 20 (.iface 153 (.agg #[.int .i64 a,.int .i64 b,.int .i64 c])) .nilIface).run Try.prog w = .ok (.bool false) w:=fun _=>by kernel_rfl
 have hta:∀ w:World,(Instr.typeAssert (.iface 153 (.agg #[.int .i64 a,.int .i64 b,.int .i64 c])) 20 153 true).run Try.prog w = .ok (.tuple #[.agg #[.int .i64 a,.int .i64 b,.int .i64 c],.bool true]) w:=fun _=>by kernel_rfl
 have ln:n<w.heap.size:=Go.Den.lt_of_heap hp
 have ln1:n+1<w.heap.size:=Go.Den.lt_of_heap hq
 refine callsD_of_wpS Try.func107 rfl fun c₀ cs hu=>?_
 apply wpS_seq
 apply wpS_region
 simp [wpOpsS,go_sem,recoverD,hu,Try.ntmps107,Exit.thenS]
 have ht:#[Value.pointer (some ⟨n,0,none⟩),Value.pointer (some ⟨n+1,0,none⟩)]++(Array.replicate 15 Go.undef).setIfInBounds 4 (.iface 153 (.agg #[.int .i64 a,.int .i64 b,.int .i64 c]))=#[.pointer (some ⟨n,0,none⟩),.pointer (some ⟨n+1,0,none⟩),Go.undef,Go.undef,Go.undef,Go.undef,.iface 153 (.agg #[.int .i64 a,.int .i64 b,.int .i64 c]),Go.undef,Go.undef,Go.undef,Go.undef,Go.undef,Go.undef,Go.undef,Go.undef,Go.undef,Go.undef]:=rfl
 rw [ht]
 refine wpS_of_wp ?_
 apply wp_block
 apply wp_seq
 apply wp_region
 simp [wpOps,go_sem,hnil,Exit.then]
 (repeat apply Or.inl)
 refine wp_cond_false (by simp [Act.eval]) ?_
 apply wp_seq
 apply wp_region
 simp [wpOps,go_sem,Exit.then,hta]
 (repeat apply Or.inl)
 refine wp_cond_true (by simp [Act.eval]) ?_
 apply wp_seq
 apply wp_region
 refine ops_value (v := .pointer (some ⟨w.heap.size,0,none⟩)) (w':=w.alloc (.cells #[.int .i64 0,.int .i64 0,.int .i64 0] 153 (0,0))) rfl rfl (by simp [go_sem]) ?_
 refine ops_skip (w':=(w.alloc (.cells #[.int .i64 0,.int .i64 0,.int .i64 0] 153 (0,0))).putObj w.heap.size (.cells #[.int .i64 a,.int .i64 b,.int .i64 c] 153 (0,0))) rfl rfl (store_row (t:=153) (x := .tmp 3) (y := .tmp 11) (arr:=#[.int .i64 0,.int .i64 0,.int .i64 0]) (s:=3) rfl rfl (by kernel_rfl) (Go.Den.heap_alloc_new _ _) rfl rfl (by simp [Act.eval,Act.put,Value.cells,Value.oneCell'])) ?_
 apply ops_nil
 generalize hW:(w.alloc (.cells #[.int .i64 0,.int .i64 0,.int .i64 0] 153 (0,0))).putObj w.heap.size (.cells #[.int .i64 a,.int .i64 b,.int .i64 c] 153 (0,0))=W
 have hWos:W.os=w.os∧W.output=w.output:=by rw [← hW];exact ⟨rfl,rfl⟩
 have hWs:w.heap.size≤W.heap.size:=by rw [← hW,Go.Den.size_put,Go.Den.size_alloc];omega
 have hWo:∀ k,k<w.heap.size→W.heap[k]? = w.heap[k]? := fun k hk=>by rw [← hW,Go.Den.heap_put_other (by omega),Go.Den.heap_alloc_lt _ _ hk]
 have hWn:W.heap[w.heap.size]? = some (.cells #[.int .i64 a,.int .i64 b,.int .i64 c] 153 (0,0)):=by rw [← hW,Go.Den.heap_put_same (by rw [Go.Den.size_alloc];omega)]
 have c0:W.cell? ⟨w.heap.size,0,none⟩=some (.int .i64 a):=by rw [Go.Den.cell_row hWn];rfl
 have c1:W.cell? ⟨w.heap.size,1,none⟩=some (.int .i64 b):=by rw [Go.Den.cell_row hWn];rfl
 have c2:W.cell? ⟨w.heap.size,2,none⟩=some (.int .i64 c):=by rw [Go.Den.cell_row hWn];rfl
 show Code.wp _ _ _ _ _
 apply wp_region
 refine ops_value (v := .pointer (some ⟨w.heap.size,0,none⟩)) (w':=W) rfl rfl (by simp [go_sem,Act.put]) ?_
 refine ops_value (v := .agg #[.int .i64 a,.int .i64 b,.int .i64 c]) (w':=W) rfl rfl (by simp [go_sem,Act.put,c0,c1,c2]) ?_
 refine ops_skip (w':=W.putObj n (.cells #[.int .i64 a,.int .i64 b,.int .i64 c] 67 (0,0))) rfl rfl (store_row (t:=67) (x := .tmp 0) (y := .tmp 13) (arr:=#[x,y,z]) (s:=3) rfl rfl (by kernel_rfl) ((hWo n ln).trans hp) rfl rfl (by simp [Act.eval,Act.put,Value.cells,Value.oneCell'])) ?_
 refine ops_skip (w':=(W.putObj n (.cells #[.int .i64 a,.int .i64 b,.int .i64 c] 67 (0,0))).putObj (n+1) (.cells #[.int .i64 7] 36 (0,0))) rfl rfl (store_row (t:=36) (x := .tmp 1) (y := .const (.int .i64 7)) (arr:=#[e0]) (s:=1) rfl rfl (by kernel_rfl) (by rw [Go.Den.heap_put_other (by omega)];exact (hWo (n+1) ln1).trans hq) rfl rfl (by simp [Act.eval,Act.put,Value.cells,Value.oneCell'])) ?_
 apply ops_nil
 refine ⟨rfl,_,rfl,.tuple #[],by simp [results,Try.results107],rfl,rfl,?_,fun k hk h1 h2=>?_,?_,?_,hWos⟩
 ·rw [Go.Den.size_put,Go.Den.size_put];exact hWs
 ·rw [Go.Den.heap_put_other h2,Go.Den.heap_put_other h1,hWo k hk]
 ·rw [Go.Den.heap_put_other (by omega),Go.Den.heap_put_same (by omega)]
 ·rw [Go.Den.heap_put_same (by rw [Go.Den.size_put];omega)]
theorem try_leaves (n:Nat) (a b c d:Int) (R:Ending→World→Prop) (tm:Array Value) (h2:tm[2]?.getD Go.undef = .pointer (some ⟨n,0,none⟩)) (h3:tm[3]?.getD Go.undef = .pointer (some ⟨n+1,0,none⟩)) (u:FrameMode) (hu:settle u = .returning) (w:World) (hp:w.heap[n]? = some (.cells #[.int .i64 a,.int .i64 b,.int .i64 c] 67 (0,0))) (hq:w.heap[n+1]? = some (.cells #[.int .i64 d] 36 (0,0)))
  (hR:R (.returned (.tuple #[.agg #[.int .i64 a,.int .i64 b,.int .i64 c],.int .i64 d])) w):Leaves Try.prog Try.f53 tm R [] (settle u) w:=by
 have c0:w.cell? ⟨n,0,none⟩=some (.int .i64 a):=by rw [Go.Den.cell_row hp];rfl
 have c1:w.cell? ⟨n,1,none⟩=some (.int .i64 b):=by rw [Go.Den.cell_row hp];rfl
 have c2:w.cell? ⟨n,2,none⟩=some (.int .i64 c):=by rw [Go.Den.cell_row hp];rfl
 have c3:w.cell? ⟨n+1,0,none⟩=some (.int .i64 d):=by rw [Go.Den.cell_row hq];rfl
 rw [hu]
 refine ⟨_,?_,hR⟩
 simp [results,Try.results53,go_sem,h2,h3,c0,c1,c2,c3]
def tryW (w:World):World:=(w.alloc (.cells #[.int .i64 0,.int .i64 0,.int .i64 0] 67 (0,0))).alloc (.cells #[.int .i64 0] 36 (0,0))
def TryR (n:Nat) (w2 w':World) (a b c d:Int):Prop:=w2.heap.size≤w'.heap.size∧(∀ k,k<w2.heap.size→k≠n→k≠n+1→w'.heap[k]? = w2.heap[k]?)∧w'.heap[n]? = some (.cells #[.int .i64 a,.int .i64 b,.int .i64 c] 67 (0,0))∧w'.heap[n+1]? = some (.cells #[.int .i64 d] 36 (0,0))∧w'.os=w2.os∧w'.output=w2.output
set_option maxHeartbeats 4000000 in
theorem try_walk {g:FuncId} {fi ca:Array Value} {w:World} (hE:Go.Den.Enterable Try.prog g) {Rd:World→Prop} (a b c d:Int)
  (hdo:Calls Try.prog g (fi++#[]++ca) (tryW w) fun e w2=>((∃ v,e = .returned v∧a=0∧b=0∧c=0∧d=0)∨(e = .panicked [{ v := .iface 153 (.agg #[.int .i64 a,.int .i64 b,.int .i64 c]),recovered:=false }]∧d=7))∧Rd w2∧w2.heap[w.heap.size]? = some (.cells #[.int .i64 0,.int .i64 0,.int .i64 0] 67 (0,0))∧w2.heap[w.heap.size+1]? = some (.cells #[.int .i64 0] 36 (0,0))) :
  Calls Try.prog 53 #[.func (.func g) fi ca] w fun e w'=>e = .returned (.tuple #[.agg #[.int .i64 a,.int .i64 b,.int .i64 c],.int .i64 d])∧∃ w2,Rd w2∧TryR w.heap.size w2 w' a b c d:=by
 have hmf:∀ (fn:Fn) (first cap:Array Value) (w:World),(Instr.makeFunc fn first cap).run Try.prog w = .ok (.func fn first cap) w:=fun _ _ _ _=>rfl
 have e00:fi++#[]++ca=fi++ca:=by simp
 rw [e00] at hdo
 refine calls_of_wp_defers Try.func53 rfl ?_
 have ht:(#[Value.func (.func g) fi ca]:Array Value)++Array.replicate (Try.f53.ntmps - 1) Go.undef=#[.func (.func g) fi ca,Go.undef,Go.undef,Go.undef,Go.undef,Go.undef,Go.undef,Go.undef]:=rfl
 show Code.wp _ _ _ { tmps:=#[Value.func (.func g) fi ca]++Array.replicate (Try.f53.ntmps - 1) Go.undef,defers:=[] } _
 rw [ht]
 apply wp_seq
 apply wp_region
 refine ops_value (v := .pointer (some ⟨w.heap.size,0,none⟩)) (w':=w.alloc (.cells #[.int .i64 0,.int .i64 0,.int .i64 0] 67 (0,0))) rfl rfl (by simp [go_sem]) ?_
 refine ops_value (v := .pointer (some ⟨w.heap.size+1,0,none⟩)) (w':=tryW w) rfl rfl (by simp [go_sem,tryW,Go.Den.size_alloc]) ?_
 apply ops_nil
 show Code.wp _ _ _ _ _
 apply wp_seq
 apply wp_region
 refine ops_value (v := .func (.func 107) #[] #[.pointer (some ⟨w.heap.size,0,none⟩),.pointer (some ⟨w.heap.size+1,0,none⟩)]) (w':=tryW w) rfl rfl (by simp [go_sem,Act.put,hmf]) ?_
 refine ops_defer (d:={ target := .fn (.func 107) #[.pointer (some ⟨w.heap.size,0,none⟩),.pointer (some ⟨w.heap.size+1,0,none⟩)],args:=#[] }) (w':=tryW w) rfl rfl (by simp [go_sem,Act.put]) ?_
 apply ops_nil
 show Code.wp _ _ _ _ _
 apply wp_seq
 apply wp_region
 refine ops_value (v := .func (.func g) fi ca) (w':=tryW w) rfl rfl (by simp [go_sem,Act.put]) ?_
 refine ops_call (g:=g) (args:=fi++ca) rfl rfl (by
  have h:=Go.Den.callFunc_run hE (fi++ca) (tryW w)
  simp [go_sem,Act.put,invoke,h]) hdo ?_
 rintro e w2 ⟨he,hRd,hn,hn1⟩
 have hi:(invoke (.fn (.func 107) #[.pointer (some ⟨w.heap.size,0,none⟩),.pointer (some ⟨w.heap.size+1,0,none⟩)]) #[]).run Try.prog w2 = .ok (.enter 107 #[.pointer (some ⟨w.heap.size,0,none⟩),.pointer (some ⟨w.heap.size+1,0,none⟩)]) w2:=by simp [go_sem,invoke]
 rcases he with ⟨v,rfl,rfl,rfl,rfl,rfl⟩|⟨rfl,rfl⟩
 ·apply ops_nil
  show Code.wp _ _ _ _ _
  apply wp_seq
  apply wp_region
  have ln:w.heap.size<w2.heap.size:=Go.Den.lt_of_heap hn
  have ln1:w.heap.size+1<w2.heap.size:=Go.Den.lt_of_heap hn1
  refine ops_value (v := .agg #[.int .i64 0,.int .i64 0,.int .i64 0]) (w':=w2) rfl rfl (by simp [go_sem]) ?_
  refine ops_skip (w':=w2.putObj w.heap.size (.cells #[.int .i64 0,.int .i64 0,.int .i64 0] 67 (0,0))) rfl rfl (store_row (t:=67) (x := .tmp 2) (y := .tmp 7) (arr:=#[.int .i64 0,.int .i64 0,.int .i64 0]) (s:=3) rfl rfl (by kernel_rfl) hn rfl rfl (by simp [Act.eval,Act.put,Value.cells,Value.oneCell'])) ?_
  refine ops_skip (w':=(w2.putObj w.heap.size (.cells #[.int .i64 0,.int .i64 0,.int .i64 0] 67 (0,0))).putObj (w.heap.size+1) (.cells #[.int .i64 0] 36 (0,0))) rfl rfl (store_row (t:=36) (x := .tmp 3) (y := .const (.int .i64 0)) (arr:=#[.int .i64 0]) (s:=1) rfl rfl (by kernel_rfl) (by rw [Go.Den.heap_put_other (by omega)];exact hn1) rfl rfl (by simp [Act.eval,Act.put,Value.cells,Value.oneCell'])) ?_
  apply ops_nil
  show Code.wp _ _ _ _ _
  apply wp_ret
  have hi2:∀ W:World,(invoke (.fn (.func 107) #[.pointer (some ⟨w.heap.size,0,none⟩),.pointer (some ⟨w.heap.size+1,0,none⟩)]) #[]).run Try.prog W = .ok (.enter 107 #[.pointer (some ⟨w.heap.size,0,none⟩),.pointer (some ⟨w.heap.size+1,0,none⟩)]) W:=fun W=>by simp [go_sem,invoke]
  refine leaves_cons (by simp) (hi2 _) ?_
  refine (catch_idle ⟨w.heap.size,0,none⟩ ⟨w.heap.size+1,0,none⟩ _).mono ?_
  rintro e u' w'' ⟨rfl,rfl,rfl⟩
  have g1:((w2.putObj w.heap.size (.cells #[.int .i64 0,.int .i64 0,.int .i64 0] 67 (0,0))).putObj (w.heap.size+1) (.cells #[.int .i64 0] 36 (0,0))).heap[w.heap.size]? = some (.cells #[.int .i64 0,.int .i64 0,.int .i64 0] 67 (0,0)):=by
   rw [Go.Den.heap_put_other (by omega),Go.Den.heap_put_same ln]
  have g2:((w2.putObj w.heap.size (.cells #[.int .i64 0,.int .i64 0,.int .i64 0] 67 (0,0))).putObj (w.heap.size+1) (.cells #[.int .i64 0] 36 (0,0))).heap[w.heap.size+1]? = some (.cells #[.int .i64 0] 36 (0,0)):=by
   rw [Go.Den.heap_put_same (by rw [Go.Den.size_put];exact ln1)]
  refine try_leaves w.heap.size 0 0 0 0 _ _ rfl rfl .returning rfl _ g1 g2 ⟨rfl,w2,hRd,?_,fun k hk h1 h2=>?_,g1,g2,rfl,rfl⟩
  ·rw [Go.Den.size_put,Go.Den.size_put];exact Nat.le_refl _
  ·rw [Go.Den.heap_put_other h2,Go.Den.heap_put_other h1]
 ·refine leaves_cons (by simp) hi ?_
  refine (catch_found w.heap.size a b c _ _ _ _ [] w2 hn hn1).mono ?_
  rintro e u' w'' ⟨rfl,rfl,h1,h2,h3,h4,h5⟩
  exact try_leaves w.heap.size a b c 7 _ _ rfl rfl _ rfl _ h3 h4 ⟨rfl,w2,hRd,h1,h2,h3,h4,h5⟩
end Go.Proofs.TpTry
end
section
namespace Go.Den.Tp
open Go.Proofs Go.Proofs.TpTry
section
variable {B0:Nat} {w0 w:World} {G:Gh} {st st':St} {args:List PV} {avs:List Value} {r:CR} {rec:Rec}
theorem ints3 {G:Gh} {w:World} {a b c:Int} {u:Value} (h:VR G w (.agg [.int .i64 a,.int .i64 b,.int .i64 c]) u):u = .agg #[.int .i64 a,.int .i64 b,.int .i64 c]:=by
 simp only [VR] at h
 obtain ⟨vs,rfl,h⟩:=h
 obtain ⟨v1,r1,e1,h1,h⟩:=VRL.cons_iff.1 h
 obtain ⟨v2,r2,rfl,h2,h⟩:=VRL.cons_iff.1 h
 obtain ⟨v3,r3,rfl,h3,h⟩:=VRL.cons_iff.1 h
 rw [VRL.nil_iff.1 h] at e1
 simp only [VR] at h1 h2 h3
 subst h1 h2 h3
 rw [arr_of_list e1]
theorem try_out (hw:WR Try.prog B0 w0 G st.heap w) {G':Gh} {h':List HObj} {w2 w':World} {lo:Nat} (r1:WR Try.prog B0 w0 G' h' w2) (x:Ext G st.heap (tryW w) G' h' w2 lo) (hn:w2.heap[w.heap.size]? = some (Obj.cells #[.int .i64 0,.int .i64 0,.int .i64 0] 67 (0,0))) (hn1:w2.heap[w.heap.size+1]? = some (Obj.cells #[.int .i64 0] 36 (0,0))) {a b c d:Int} (ht:TryR w.heap.size w2 w' a b c d) :
  WR Try.prog B0 w0 G' h' w'∧Ext G st.heap w G' h' w' lo:=by
 have hsz:(tryW w).heap.size=w.heap.size+2:=by unfold tryW;rw [size_alloc,size_alloc]
 have hf1:Foreign B0 G w (tryW w) (fun _=>False) := .grow (by omega) (fun b hb=>by unfold tryW;rw [heap_alloc_lt _ _ (by rw [size_alloc];omega),heap_alloc_lt _ _ hb]) ⟨rfl,rfl⟩
 have hfree:∀ k,(k=w.heap.size∨k=w.heap.size+1)→B0≤k∧(∀ l,G'.be l≠some k)∧(∀ t e,G'.tg t≠some (k,e))∧G'.cm k=none:=by
  intro k hk
  have hlow:=hw.low.1
  have gb:∀ l,G.be l≠some k:=fun l h=>by have:=(hw.obj h).2.1;omega
  have gt:∀ t e,G.tg t≠some (k,e):=fun t e h=>by have:=(hw.tag h).2.1;omega
  have gc:G.cm k=none:=by
   cases h:G.cm k with
   | none=>rfl
   | some n=>have:=hw.cmLt h;omega
  refine ⟨by omega,fun l h=>?_,fun t e h=>?_,?_⟩
  ·cases hg:G.be l with
   | none=>have:=(x.nbe h hg).2;omega
   | some b'=>have:=x.pres.be hg;rw [h] at this;cases this;exact gb l hg
  ·cases hg:G.tg t with
   | none =>
    rcases (x.ntg h hg).2 with h1|⟨t',e',h1⟩
    ·omega
    ·exact gt t' e' h1
   | some y=>have:=x.pres.tg hg;rw [h] at this;cases this;exact gt t e hg
  ·cases h:G'.cm k with
   | none=>rfl
   | some n =>
    rcases x.ncm h gc with h1|⟨t,e,h1⟩
    ·omega
    ·exact absurd h1 (gt t e)
 have hf2:Foreign B0 G' w2 w' (fun k=>k=w.heap.size∨k=w.heap.size+1):=by
  refine ⟨ht.1,fun b hb hx=>ht.2.1 b hb (fun e=>hx (.inl e)) (fun e=>hx (.inr e)),hfree,ht.2.2.2.2,fun b arr T fr hx hh=>?_⟩
  rcases hx with rfl|rfl
  ·rw [hn] at hh;cases hh;exact ⟨_,ht.2.2.1,rfl⟩
  ·rw [hn1] at hh;cases hh;exact ⟨_,ht.2.2.2.1,rfl⟩
 have x1:Ext G st.heap w G st.heap (tryW w) lo:=Ext.grow hw hf1
 exact ⟨hf2.wr r1,(x1.trans x).foreign r1 hf2 (fun k hk=>by omega)⟩
theorem try_frame (hw:WR Try.prog B0 w0 G st.heap w) {G':Gh} {h':List HObj} {w2:World} {lo:Nat} (x:Ext G st.heap (tryW w) G' h' w2 lo):w2.heap[w.heap.size]? = some (Obj.cells #[.int .i64 0,.int .i64 0,.int .i64 0] 67 (0,0))∧w2.heap[w.heap.size+1]? = some (Obj.cells #[.int .i64 0] 36 (0,0)):=by
 have hsz:(tryW w).heap.size=w.heap.size+2:=by unfold tryW;rw [size_alloc,size_alloc]
 have key:∀ k,w.heap.size≤k→k<w.heap.size+2→w2.heap[k]? = (tryW w).heap[k]? := fun k h1 h2=>x.frame (by omega) (fun l h=>by have:=(hw.obj h).2.1;omega) (fun t e h=>by have:=(hw.tag h).2.1;omega) (by
  cases h:G.cm k with
  | none=>rfl
  | some n=>have:=hw.cmLt h;omega)
 refine ⟨?_,?_⟩
 ·rw [key _ (Nat.le_refl _) (by omega)]
  unfold tryW
  rw [heap_alloc_lt _ _ (by rw [size_alloc];omega),heap_alloc_new]
 ·rw [key _ (by omega) (by omega)]
  unfold tryW
  have:=heap_alloc_new (w.alloc (.cells #[.int .i64 0,.int .i64 0,.int .i64 0] 67 (0,0))) (.cells #[.int .i64 0] 36 (0,0))
  rwa [size_alloc] at this
theorem enter53:Enterable Try.prog 53:=⟨_,Try.func53,by kernel_rfl,by kernel_rfl⟩
theorem try_ok (hs:SoundCall Try.prog B0 w0 rec) {dg:Nat} {da dc:List PV} (h:tryR rec (.func dg da dc) st=some (some (r,st'))) (hlo:st.lo≤st.heap.length) (hw:WR Try.prog B0 w0 G st.heap w) (ha:VRL G w [.func dg da dc] avs):∀ n,CallsIn Fence.wide n Try.prog 53 avs.toArray w (CallR Try.prog B0 w0 G st w r st'):=by
 intro n
 obtain ⟨fv,vs',rfl,hv,h2⟩:=VRL.cons_iff.1 ha
 rw [VRL.nil_iff.1 h2]
 have hsz:(tryW w).heap.size=w.heap.size+2:=by unfold tryW;rw [size_alloc,size_alloc]
 have hf1:Foreign B0 G w (tryW w) (fun _=>False) := .grow (by omega) (fun b hb=>by unfold tryW;rw [heap_alloc_lt _ _ (by rw [size_alloc];omega),heap_alloc_lt _ _ hb]) ⟨rfl,rfl⟩
 have hw1:=hf1.wr hw
 have hv1:=VR.mono (hf1.pres hw) hv
 have hva:=hv
 simp only [VR] at hva
 obtain ⟨a',c',rfl,_,_⟩:=hva
 have key:∀ (r2:CR) (st2:St) (a b c d:Int),rec.call (.func dg da dc) [] st=some (r2,st2)→(∀ w2 e,CallR Try.prog B0 w0 G st (tryW w) r2 st2 e w2→((∃ v,e = .returned v∧a=0∧b=0∧c=0∧d=0)∨(e = .panicked [{ v := .iface 153 (.agg #[.int .i64 a,.int .i64 b,.int .i64 c]),recovered:=false }]∧d=7))) →
   CallsIn Fence.wide n Try.prog 53 #[.func (.func dg) a' c'] w (CallR Try.prog B0 w0 G st w (.ret (.tuple [.agg [.int .i64 a,.int .i64 b,.int .i64 c],.int .i64 d])) st2):=by
  intro r2 st2 a b c d hcall hcase
  obtain ⟨_,hsnd⟩:=hs _ _ _ _ _ hcall hlo
  obtain ⟨hE,hC⟩:=hsnd G (tryW w) _ [] hw1 hv1 (VRL.nil_iff.2 rfl) a' c' rfl
  have hC1:=callsIn_wide.1 (hC 0)
  refine callsIn_wide.2 ((try_walk hE (Rd:=fun w2=>∃ G',WR Try.prog B0 w0 G' st2.heap w2∧Ext G st.heap (tryW w) G' st2.heap w2 st2.lo) a b c d (hC1.mono ?_)).mono ?_)
  ·intro e w2 hR
   have hR':=hR
   obtain ⟨G',k1,k2,_⟩:=hR'
   exact ⟨hcase w2 e hR,⟨G',k1,k2⟩,try_frame hw k2⟩
  ·rintro e w' ⟨rfl,w2,⟨G',k1,k2⟩,ht⟩
   obtain ⟨f1,f2⟩:=try_frame hw k2
   obtain ⟨g1,g2⟩:=try_out hw k1 k2 f1 f2 ht
   refine ⟨G',g1,g2,_,rfl,?_⟩
   simp only [VR]
   exact ⟨_,rfl,VRL.cons (by simp only [VR];exact ⟨_,rfl,VRL.cons (by simp only [VR]) (VRL.cons (by simp only [VR]) (VRL.cons (by simp only [VR]) (VRL.nil_iff.2 rfl)))⟩) (VRL.cons (by simp only [VR]) (VRL.nil_iff.2 rfl))⟩
 unfold tryR at h
 split at h
 ·rename_i v st2 hcall
  simp only [Option.some.injEq,Prod.mk.injEq] at h
  obtain ⟨rfl,rfl⟩:=h
  exact key _ _ 0 0 0 0 hcall (fun w2 e hR=>by
   obtain ⟨_,_,_,u,he,_⟩:=hR
   exact .inl ⟨u,he,rfl,rfl,rfl,rfl⟩)
 ·rename_i t v st2 hcall
  split at h
  ·rename_i a b c
   simp only [Option.some.injEq,Prod.mk.injEq] at h
   obtain ⟨rfl,rfl⟩:=h
   exact key _ _ a b c 7 hcall (fun w2 e hR=>by
    obtain ⟨_,_,_,u,he,hu⟩:=hR
    simp only [VR] at hu
    obtain ⟨y,rfl,vs,rfl,hvs⟩:=hu
    have:=ints3 (u := .agg vs) (by simp only [VR];exact ⟨vs,rfl,hvs⟩)
    rw [this] at he
    exact .inr ⟨he,rfl⟩)
  ·cases h
 ·cases h
end
theorem primOK {B0:Nat} {w0:World}:PrimOK Try.prog B0 w0 EE:=by
 intro g rec args st r st' _ _ hs _ hp hlo G w avs hw ha
 have hp:primT g rec args st=some (some (r,st')):=hp
 unfold primT at hp
 split at hp
 ·split at hp
  ·exact ⟨enter53,try_ok hs hp hlo hw ha⟩
  ·cases hp
 ·cases hp
theorem primGrows:PrimGrows EE:=by
 intro g rec args st r st' hg _ hp hlo
 have hp:primT g rec args st=some (some (r,st')):=hp
 unfold primT at hp
 split at hp
 ·split at hp
  ·unfold tryR at hp
   split at hp
   ·rename_i hcall
    simp only [Option.some.injEq,Prod.mk.injEq] at hp
    obtain ⟨rfl,rfl⟩:=hp
    exact hg _ _ _ _ _ hcall hlo
   ·rename_i hcall
    split at hp
    ·simp only [Option.some.injEq,Prod.mk.injEq] at hp
     obtain ⟨rfl,rfl⟩:=hp
     exact hg _ _ _ _ _ hcall hlo
    ·cases hp
   ·cases hp
  ·cases hp
 ·cases hp
end Go.Den.Tp
end
section
namespace Go.Den
variable {P:Program}
def gh0 (W:World):Gh:=⟨fun _=>none,fun _=>none,fun b=>match W.heap[b]? with
 | some (.cells arr _ _)=>some arr.size
 | _=>none⟩
theorem wr0 (W:World):WR P W.heap.size W (gh0 W) [] W:=by
 refine ⟨fun _=>⟨rfl,rfl⟩,fun h=>(by cases h),fun h=>(by cases h),fun h=>(by cases h),fun h=>(by cases h),fun {b n} h=>?_,⟨Nat.le_refl _,fun _ _=>rfl⟩,⟨rfl,rfl⟩⟩
 simp only [gh0] at h
 split at h
 ·rename_i arr T fr hb
  cases h
  exact ⟨arr,T,fr,hb,Nat.le_refl _⟩
 ·cases h
theorem vrc_of {G:Gh} {w:World}:∀ {cs:List PV} {b off:Nat},(∀ (j:Nat) (p:PV),cs[j]? = some p→∃ v,w.cell? ⟨b,off+j,none⟩=some v∧VR G w p v)→VRC G w cs b off
 | [],b,off,h=>by simp only [VRC]
 | c::cs,b,off,h=>by
  simp only [VRC]
  refine ⟨h 0 c rfl,vrc_of fun j p hj=>?_⟩
  obtain ⟨v,h1,h2⟩:=h (j+1) p (by simpa using hj)
  exact ⟨v,by rw [← h1];congr 2;omega,h2⟩
theorem cell_gh {W:World} {b i:Nat} {v:Value} (h:W.cell? ⟨b,i,none⟩=some v):∃ m,(gh0 W).cm b=some m∧i<m:=by
 unfold World.cell? at h
 split at h
 ·rename_i arr T fr hb
  refine ⟨arr.size,?_,?_⟩
  ·simp only [gh0]
   simp only at hb
   rw [hb]
  ·simp only [Option.isSome_none,Bool.false_eq_true,if_false] at h
   exact (Array.getElem?_eq_some_iff.1 h).1
 ·cases h
theorem vr_slice0 {W:World} {n cap b off:Nat} {cs:List PV} (hcap:n≤cap) (h:∀ (j:Nat) (p:PV),cs[j]? = some p→∃ v,W.cell? ⟨b,off+j,none⟩=some v∧VR (gh0 W) W p v):VR (gh0 W) W (.slice .shared n cs) (.slice (some ⟨b,off,none⟩) n cap):=by
 simp only [VR]
 refine .inl ⟨b,off,cap,rfl,hcap,fun hne=>?_,trivial,vrc_of h⟩
 have hl:cs.length - 1<cs.length:=by
  have:cs.length≠0:=by simpa using hne
  omega
 obtain ⟨v,h1,_⟩:=h (cs.length - 1) _ (List.getElem?_eq_getElem hl)
 obtain ⟨m,h2,h3⟩:=cell_gh h1
 exact ⟨m,h2,by omega⟩
theorem list_of {α:Type} {Q:Nat→α→Prop}:∀ (n:Nat),(∀ i,i<n→∃ a,Q i a)→∃ l:List α,l.length=n∧∀ (i:Nat) (a:α),l[i]? = some a→Q i a
 | 0,_=>⟨[],rfl,fun i a h=>by simp at h⟩
 | n+1,h=>by
  obtain ⟨l,h1,h2⟩:=list_of n (fun i hi=>h i (by omega))
  obtain ⟨a,ha⟩:=h n (by omega)
  refine ⟨l++[a],by simp [h1],fun i x hx=>?_⟩
  by_cases hi:i<n
  ·rw [List.getElem?_append_left (by omega)] at hx
   exact h2 i x hx
  ·have hlt:=(List.getElem?_eq_some_iff.1 hx).1
   simp [h1] at hlt
   have:i=n:=by omega
   subst this
   rw [List.getElem?_append_right (by omega),h1] at hx
   simp at hx
   subst hx
   exact ha
end Go.Den
namespace Go.Den.Ty
set_option maxRecDepth 100000
open Go.Proofs Go.ChangeShapes Go.WideShapes Go.Den.Ve
open Go.Den.Tp (EE follows envOK envFn)
section
variable {H:Type} {enc:TypeId×Value→H} {W:World} {base fuel:Nat} {d:DataW H} {ps:List MemPlace}
theorem in_ints {v:Value} (hok:Value.okWide Try.prog W .any base 25 v) (h:DataW.Trod enc Try.prog W 0 (fun _=>true) true 25 v d ps):∃ P l,VR (gh0 W) W P v∧SlOf 1 encI P l:=by
 obtain ⟨fuel,h⟩:=h
 have hcell:Cell.okWide Try.prog W .any base 25 v:=by
  unfold Value.okWide at hok
  rw [Try.underlying25] at hok
  exact hok
 have e1:Try.prog.cellsOf 3=1:=by kernel_rfl
 rcases open_ints Try.underlying25 Try.underlying3 e1 h with ⟨hv,_⟩|⟨a,len,cap,zs,hv,_,hl,_,hz,_,hc,_⟩
 ·have hv':v = .slice none 0 0:=by
   cases v with
   | agg cs=>exfalso;unfold Cell.okWide Cell.ok at hcell;rw [Try.underlying25] at hcell;exact hcell
   | slice p l c=>simpa [Value.cells] using hv
   | _=>simp [Value.cells] at hv
  subst hv'
  exact ⟨.nilslice,[],by simp only [VR],rfl,fun _ h=>by cases h⟩
 ·have hv':v = .slice (some a) len cap:=by
   cases v with
   | agg cs=>exfalso;unfold Cell.okWide Cell.ok at hcell;rw [Try.underlying25] at hcell;exact hcell
   | slice p l c=>simpa [Value.cells] using hv
   | _=>simp [Value.cells] at hv
  subst hv'
  have hsp:a.spot=none:=by
   unfold Cell.okWide Cell.ok at hcell
   rw [Try.underlying25] at hcell
   exact hcell.2.2.2.1
  obtain ⟨b,off,sp⟩:=a
  simp only at hsp
  subst hsp
  simp only [if_true] at hz
  refine ⟨.slice .shared len ((zs.take len).flatMap encI),zs.take len,vr_slice0 hl fun j p hj=>?_,?_,fun _ _=>rfl⟩
  ·rw [encI_map,List.getElem?_map] at hj
   obtain ⟨n,hn,rfl⟩:=Option.map_eq_some_iff.1 hj
   have hjl:=(List.getElem?_eq_some_iff.1 hn).1
   have hjz:j<zs.length:=by simp at hjl;omega
   have hget:zs.getD j 0=n:=by
    rw [List.getElem?_take] at hn
    split at hn
    ·rw [List.getD_eq_getElem?_getD,hn];rfl
    ·cases hn
   refine ⟨.int .i64 n,?_,by simp only [VR]⟩
   have:=hc j hjz
   rw [hget] at this
   rw [← this]
   unfold Addr.add
   by_cases h0:j=0
   ·subst h0;rfl
   ·rw [if_neg h0]
  ·simp only [PV.sl]
   congr 2
   simp;omega
end
theorem law_call {g:Nat} {args:List PV} {avs:Array Value} {W:World} (h:∀ st,Cl EE (.func g [] []) args st (.ret (.bool true)) st) (ha:VRL (gh0 W) W args avs.toList) :
  Calls Try.prog g avs W fun e W'=>e = .returned (.bool true)∧W.heap.size≤W'.heap.size∧(∀ b,b<W.heap.size→W'.heap[b]? = W.heap[b]?)∧W'.os=W.os∧W'.output=W.output:=by
 obtain ⟨N,hN⟩:=h { heap:=[],lo:=0 }
 have hs:=(run_ok (B0:=W.heap.size) (w0:=W) follows envOK envFn Go.Den.Tp.primOK Go.Den.Tp.primGrows N).1 _ _ _ _ _ (hN N (Nat.le_refl _)) (Nat.le_refl _)
 obtain ⟨_,hC⟩:=hs.2 (gh0 W) W (.func (.func g) #[] #[]) avs.toList (wr0 W) (by simp only [VR];exact ⟨_,_,rfl,VRL.nil_iff.2 rfl,VRL.nil_iff.2 rfl⟩) ha #[] #[] rfl
 have hC1:=callsIn_wide.1 (hC 0)
 have e:#[]++avs.toList.toArray++#[]=avs:=by simp
 rw [e] at hC1
 refine hC1.mono ?_
 rintro e W' ⟨G',hw,hx,u,rfl,hu⟩
 simp only [VR] at hu
 subst hu
 exact ⟨rfl,hw.low.1,hw.low.2,hw.out⟩
end Go.Den.Ty
end
section
namespace Go.Proofs.Ythnfeimjhibcaaa
open Go.ChangeShapes Go.WideShapes Go.ChangeAt Go.WideMaps Go.WideElems Go.RowKit
set_option maxRecDepth 100000
theorem ownKnob0:ownKnob Try.prog.godebug=none:=by kernel_rfl
theorem laidOut0:laidOutB Try.prog=true:=by kernel_rfl
theorem returns_law {H:Type} {enc:TypeId×Value→H} {a:Assume} {C:Checked} {os:Os} {f:FuncId} {fn:Func} {s:ChangeSpec} {conds:List PathCond} {apart fresh handsOn again:Bool} {X:World→Array Value→Prop}
  (hX:∀ (w w':World) (args:Array Value),w.heap=w'.heap→X w args→X w' args)
  (own:ownKnob C.prog.godebug=none) (started:os.Started) (noInit:C.prog.inits.idxOf? f=none) (hfn:C.prog.funcs[f]? = some fn)
  (witness:∃ (w:World) (tape:Tape) (i:Input),w.os=os∧(w.forCall tape i).Shaped C.prog∧i.vars=[]∧Input.okWide C.prog (w.forCall tape i) .any w.heap.size f i ∧
   ((s.pre enc C.prog fn conds apart (w.forCall tape i).memory i.args∧X (w.forCall tape i).memory i.args)∧sizedMet enc C.prog fn (OpenSpec.ofChange s) apart (w.forCall tape i).memory i.args)∧a.holds C.prog (lone (Frame.enter C.prog f i.args .normal) [] (w.forCall tape i)))
  (contract:∀ (W:World) (base:Nat) (args:Array Value) (ds gs:List (DataW H)) (before:List MemPlace),
   (∀ (j:Nat) t v,fn.params[j]? = some t→args[j]? = some v→Value.okWide C.prog W .any base t v) →
   DataW.Whole enc C.prog fn.params.toList s.vars apart W args.toList ds gs before →
   W.ShapedOpen C.prog →
   Calls C.prog f args W fun e W'=>∃ v,e = .returned v∧s.post enc C.prog fn apart fresh handsOn again W args v W') :
  ReturnsInHanded a C os f .any (fun w args=>(s.pre enc C.prog fn conds apart w args∧X w args)∧sizedMet enc C.prog fn (OpenSpec.ofChange s) apart w args) (s.post enc C.prog fn apart fresh handsOn again):=by
 refine returnsInHanded_of_calls own started noInit witness ?_
 intro w tape i _ hsh _ hok hpre _
 obtain ⟨_,_,_,fn',hfn',_,_,_,_,hval⟩:=hok
 have e:fn'=fn:=Option.some.inj (hfn'.symm.trans hfn)
 subst e
 obtain ⟨⟨⟨ds,gs,before,hw,_⟩,_⟩,_⟩:=hpre
 have hw':=DataW.Whole.of_heap (w':=w.forCall tape i) (by rfl) hw
 refine (contract (w.forCall tape i) w.heap.size i.args ds gs before hval hw' hsh).mono fun e W' ⟨v,he,hp⟩=>?_
 subst he
 exact ChangeSpec.post_blind hp
theorem trodAll_grown {H:Type} {enc:TypeId×Value→H} {W W':World} (hb:Below W.heap.size W W'):∀ {ts:List TypeId} {vs:List Value} {ds:List (DataW H)} {ps:List MemPlace},(∀ t∈ts,Try.prog.readableRec t=true∧t<Try.prog.types.size)→DataW.TrodAll enc Try.prog W 0 (fun _=>true) true ts vs ds ps→(∀ x∈ps,x.block<W.heap.size)→DataW.TrodAll enc Try.prog W' 0 (fun b=>decide (b<W.heap.size)) true ts vs ds ps
 | [],vs,ds,ps,_,h,_=>by
  obtain ⟨rfl,rfl,rfl⟩:=trodAll_nil h
  rfl
 | t::ts,vs,ds,ps,hr,h,hl=>by
  obtain ⟨v,vs',d,ds',p,q,rfl,rfl,rfl,h1,h2⟩:=trodAll_cons h
  have h0:=hr t (by simp)
  exact ⟨p,q,Below.trod laidOut0 h0.1 h0.2 h1 hb (fun x hx=>hl x (by simp [hx])),trodAll_grown hb (fun t ht=>hr t (by simp [ht])) h2 (fun x hx=>hl x (by simp [hx])),rfl⟩
theorem keptBut_grown {W W':World} {may:MemPlace→Prop} (h:∀ b,b<W.heap.size→W'.heap[b]? = W.heap[b]?) (ho:W'.os=W.os∧W'.output=W.output):W.keptBut W' may:=by
 refine ⟨ho.1,ho.2,fun i hi=>?_⟩
 rw [h i hi]
 split
 ·rename_i h1 h2
  rw [h1] at h2
  cases h2
  exact ⟨rfl,rfl,rfl,fun _ _=>rfl⟩
 ·rename_i h1 h2
  rw [h1] at h2
  cases h2
  exact .inr ⟨rfl,rfl⟩
 ·rfl
theorem post_true {H:Type} {enc:TypeId×Value→H} {fn:Func} {s:ChangeSpec} {W W':World} {args:Array Value} {ds:List (DataW H)} {before:List MemPlace}
  (hvars:s.vars=[]) (hW:DataW.Whole enc Try.prog fn.params.toList s.vars false W args.toList ds [] before) (hres:fn.resultTypes=#[4]) (hfn:s.fn H (ds++[])={ results:=[.lit (.bool true)],args:=ds })
  (hr:∀ t∈fn.params.toList,Try.prog.readableRec t=true∧t<Try.prog.types.size)
  (hs:W.heap.size≤W'.heap.size) (hb:∀ b,b<W.heap.size→W'.heap[b]? = W.heap[b]?) (ho:W'.os=W.os∧W'.output=W.output) :
  s.post enc Try.prog fn false true false false W args (.bool true) W':=by
 have hW0:=hW
 obtain ⟨p,q,hA,hV,rfl,_,_⟩:=hW
 rw [hvars] at hV
 obtain ⟨_,rfl⟩:([]:List (DataW H))=[]∧q=[]:=by
  cases q with
  | nil=>exact ⟨rfl,rfl⟩
  | cons x q=>simp [DataW.TrodVars] at hV
 have hlt:∀ x∈p,x.block<W.heap.size:=fun x hx=>by simpa using hW0.lt x (by simp [hx])
 have ha:({ W' with tape:=W.tape }:World).Alike W':=⟨rfl,rfl,rfl⟩
 have hbl:Below W.heap.size W { W' with tape:=W.tape }:=⟨ho.1,rfl,ho.2,hs,hb⟩
 have hT:=trodAll_grown hbl hr hA hlt
 have hT':DataW.TrodAll enc Try.prog W' 0 (fun b=>decide (b<W.heap.size)) true fn.params.toList args.toList ds p:=DataW.TrodAll.of_heap (show ({ W' with tape:=W.tape }:World).heap=W'.heap from rfl) hT
 refine ⟨ds,[],p++[],[],p,[],hW0,?_,?_,?_,keptBut_grown hb ho,fun h=>by cases h⟩
 ·rw [hfn,hres]
  exact trodAll_mk1 (shut_bool Try.underlying4 _)
 ·rw [hfn];exact hT'
 ·rw [hfn,hvars];rfl
end Go.Proofs.Ythnfeimjhibcaaa
end

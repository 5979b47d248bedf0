/- Part of the proofs of laws of the package version. Texts: VnEnv, VnA, VnB, VnC. -/
import Derived.Test.YtehdcjbdhkkipaaGreatDoorVKAp
import Derived.Test.YtehdcjbdhkkipaaGreatDoorVKAn
import Derived.Test.YtehdcjbdhkkipaaGreatDoorVKAl
set_option linter.unusedSimpArgs false
set_option linter.unusedVariables false
section
namespace Go.Den.Ve
def fnT (n:Nat):Option DFunc:=match n with
 | 18=>some den18
 | 24=>some den24
 | 25=>some den25
 | 26=>some den26
 | 27=>some den27
 | 28=>some den28
 | 29=>some den29
 | 30=>some den30
 | 32=>some den32
 | 33=>some den33
 | 37=>some den37
 | 38=>some den38
 | 42=>some den42
 | 43=>some den43
 | 50=>some den50
 | 51=>some den51
 | 53=>some den53
 | 55=>some den55
 | 59=>some den59
 | 63=>some den63
 | 64=>some den64
 | 66=>some den66
 | 67=>some den67
 | 68=>some den68
 | 70=>some den70
 | 71=>some den71
 | 72=>some den72
 | 73=>some den73
 | 75=>some den75
 | 76=>some den76
 | 79=>some den79
 | 80=>some den80
 | 81=>some den81
 | 82=>some den82
 | 83=>some den83
 | 84=>some den84
 | 85=>some den85
 | 86=>some den86
 | 87=>some den87
 | 88=>some den88
 | 90=>some den90
 | 91=>some den91
 | 92=>some den92
 | 93=>some den93
 | 94=>some den94
 | 95=>some den95
 | 98=>some den98
 | 99=>some den99
 | 100=>some den100
 | 101=>some den101
 | 102=>some den102
 | 103=>some den103
 | 104=>some den104
 | 105=>some den105
 | 108=>some den108
 | 109=>some den109
 | 110=>some den110
 | 111=>some den111
 | 112=>some den112
 | 114=>some den114
 | 115=>some den115
 | 116=>some den116
 | 117=>some den117
 | 118=>some den118
 | 119=>some den119
 | 120=>some den120
 | 121=>some den121
 | 123=>some den123
 | 124=>some den124
 | 125=>some den125
 | 126=>some den126
 | 129=>some den129
 | 130=>some den130
 | 131=>some den131
 | 132=>some den132
 | 133=>some den133
 | 134=>some den134
 | 135=>some den135
 | 136=>some den136
 | 137=>some den137
 | 138=>some den138
 | 139=>some den139
 | 140=>some den140
 | 141=>some den141
 | 142=>some den142
 | 144=>some den144
 | 146=>some den146
 | 147=>some den147
 | 148=>some den148
 | 149=>some den149
 | 150=>some den150
 | 151=>some den151
 | 156=>some den156
 | 157=>some den157
 | 158=>some den158
 | 160=>some den160
 | 161=>some den161
 | 162=>some den162
 | 163=>some den163
 | 164=>some den164
 | 165=>some den165
 | 166=>some den166
 | 167=>some den167
 | 168=>some den168
 | 169=>some den169
 | 170=>some den170
 | 176=>some den176
 | 177=>some den177
 | 223=>some den223
 | 224=>some den224
 | 225=>some den225
 | 226=>some den226
 | _=>none
def methT (t:Nat) (m:String):Option Nat:=match t with
 | 191=>if m= "kelir/version.numbers" then some 223 else none
 | 193=>if m= "kelir/version.numbers" then some 224 else none
 | 194=>if m= "kelir/version.numbers" then some 225 else none
 | 195=>if m= "kelir/version.numbers" then some 226 else none
 | _=>none
def tryR (rec:Rec) (d:PV) (st:St):Option (Option (CR×St)):=match rec.call d [] st with
 | some (.ret _,st')=>some (some (.ret (.int .i64 0),st'))
 | some (.panic (.iface t v),st')=>match t,v with
  | 199,.agg [.int .i64 _]=>some (some (.ret (.int .i64 2),st'))
  | 201,.agg [.str _]=>some (some (.ret (.int .i64 4),st'))
  | _,_=>some none
 | _=>some none
def growR (st:St):List PV→Option (Option (CR×St))
 | [.nilslice,.int .i64 n]=>if 1≤n∧n≤1000 then some (some (.ret (.slice (.tag st.heap.length 1) 0 []),{ heap:=st.heap++[.tag true],lo:=st.lo })) else some none
 | _=>some none
def primT (g:Nat) (rec:Rec) (args:List PV) (st:St):Option (Option (CR×St)):=match g with
 | 122=>match args with
  | [.func dg da dc]=>tryR rec (.func dg da dc) st
  | _=>some none
 | 145=>growR st args
 | 152=>itoaR st args
 | 153=>joinR st args
 | 155=>splitR st args
 | _=>none
def EE:Env:={ fn:=fnT,meth:=methT,prim:=primT }
variable(r:Rec)(a:List PV)(s:St)
theorem fn18:EE.fn 18=some den18:=rfl
theorem fn24:EE.fn 24=some den24:=rfl
theorem fn25:EE.fn 25=some den25:=rfl
theorem fn26:EE.fn 26=some den26:=rfl
theorem fn27:EE.fn 27=some den27:=rfl
theorem fn28:EE.fn 28=some den28:=rfl
theorem fn29:EE.fn 29=some den29:=rfl
theorem fn30:EE.fn 30=some den30:=rfl
theorem fn32:EE.fn 32=some den32:=rfl
theorem fn33:EE.fn 33=some den33:=rfl
theorem fn37:EE.fn 37=some den37:=rfl
theorem fn38:EE.fn 38=some den38:=rfl
theorem fn42:EE.fn 42=some den42:=rfl
theorem fn43:EE.fn 43=some den43:=rfl
theorem fn50:EE.fn 50=some den50:=rfl
theorem fn51:EE.fn 51=some den51:=rfl
theorem fn53:EE.fn 53=some den53:=rfl
theorem fn55:EE.fn 55=some den55:=rfl
theorem fn59:EE.fn 59=some den59:=rfl
theorem fn63:EE.fn 63=some den63:=rfl
theorem fn64:EE.fn 64=some den64:=rfl
theorem fn66:EE.fn 66=some den66:=rfl
theorem fn67:EE.fn 67=some den67:=rfl
theorem fn68:EE.fn 68=some den68:=rfl
theorem fn70:EE.fn 70=some den70:=rfl
theorem fn71:EE.fn 71=some den71:=rfl
theorem fn72:EE.fn 72=some den72:=rfl
theorem fn73:EE.fn 73=some den73:=rfl
theorem fn75:EE.fn 75=some den75:=rfl
theorem fn76:EE.fn 76=some den76:=rfl
theorem fn79:EE.fn 79=some den79:=rfl
theorem fn80:EE.fn 80=some den80:=rfl
theorem fn81:EE.fn 81=some den81:=rfl
theorem fn82:EE.fn 82=some den82:=rfl
theorem fn83:EE.fn 83=some den83:=rfl
theorem fn84:EE.fn 84=some den84:=rfl
theorem fn85:EE.fn 85=some den85:=rfl
theorem fn86:EE.fn 86=some den86:=rfl
theorem fn87:EE.fn 87=some den87:=rfl
theorem fn88:EE.fn 88=some den88:=rfl
theorem fn90:EE.fn 90=some den90:=rfl
theorem fn91:EE.fn 91=some den91:=rfl
theorem fn92:EE.fn 92=some den92:=rfl
theorem fn93:EE.fn 93=some den93:=rfl
theorem fn94:EE.fn 94=some den94:=rfl
theorem fn95:EE.fn 95=some den95:=rfl
theorem fn98:EE.fn 98=some den98:=rfl
theorem fn99:EE.fn 99=some den99:=rfl
theorem fn100:EE.fn 100=some den100:=rfl
theorem fn101:EE.fn 101=some den101:=rfl
theorem fn102:EE.fn 102=some den102:=rfl
theorem fn103:EE.fn 103=some den103:=rfl
theorem fn104:EE.fn 104=some den104:=rfl
theorem fn105:EE.fn 105=some den105:=rfl
theorem fn108:EE.fn 108=some den108:=rfl
theorem fn109:EE.fn 109=some den109:=rfl
theorem fn110:EE.fn 110=some den110:=rfl
theorem fn111:EE.fn 111=some den111:=rfl
theorem fn112:EE.fn 112=some den112:=rfl
theorem fn114:EE.fn 114=some den114:=rfl
theorem fn115:EE.fn 115=some den115:=rfl
theorem fn116:EE.fn 116=some den116:=rfl
theorem fn117:EE.fn 117=some den117:=rfl
theorem fn118:EE.fn 118=some den118:=rfl
theorem fn119:EE.fn 119=some den119:=rfl
theorem fn120:EE.fn 120=some den120:=rfl
theorem fn121:EE.fn 121=some den121:=rfl
theorem fn123:EE.fn 123=some den123:=rfl
theorem fn124:EE.fn 124=some den124:=rfl
theorem fn125:EE.fn 125=some den125:=rfl
theorem fn126:EE.fn 126=some den126:=rfl
theorem fn129:EE.fn 129=some den129:=rfl
theorem fn130:EE.fn 130=some den130:=rfl
theorem fn131:EE.fn 131=some den131:=rfl
theorem fn132:EE.fn 132=some den132:=rfl
theorem fn133:EE.fn 133=some den133:=rfl
theorem fn134:EE.fn 134=some den134:=rfl
theorem fn135:EE.fn 135=some den135:=rfl
theorem fn136:EE.fn 136=some den136:=rfl
theorem fn137:EE.fn 137=some den137:=rfl
theorem fn138:EE.fn 138=some den138:=rfl
theorem fn139:EE.fn 139=some den139:=rfl
theorem fn140:EE.fn 140=some den140:=rfl
theorem fn141:EE.fn 141=some den141:=rfl
theorem fn142:EE.fn 142=some den142:=rfl
theorem fn144:EE.fn 144=some den144:=rfl
theorem fn146:EE.fn 146=some den146:=rfl
theorem fn147:EE.fn 147=some den147:=rfl
theorem fn148:EE.fn 148=some den148:=rfl
theorem fn149:EE.fn 149=some den149:=rfl
theorem fn150:EE.fn 150=some den150:=rfl
theorem fn151:EE.fn 151=some den151:=rfl
theorem fn156:EE.fn 156=some den156:=rfl
theorem fn157:EE.fn 157=some den157:=rfl
theorem fn158:EE.fn 158=some den158:=rfl
theorem fn160:EE.fn 160=some den160:=rfl
theorem fn161:EE.fn 161=some den161:=rfl
theorem fn162:EE.fn 162=some den162:=rfl
theorem fn163:EE.fn 163=some den163:=rfl
theorem fn164:EE.fn 164=some den164:=rfl
theorem fn165:EE.fn 165=some den165:=rfl
theorem fn166:EE.fn 166=some den166:=rfl
theorem fn167:EE.fn 167=some den167:=rfl
theorem fn168:EE.fn 168=some den168:=rfl
theorem fn169:EE.fn 169=some den169:=rfl
theorem fn170:EE.fn 170=some den170:=rfl
theorem fn176:EE.fn 176=some den176:=rfl
theorem fn177:EE.fn 177=some den177:=rfl
theorem fn223:EE.fn 223=some den223:=rfl
theorem fn224:EE.fn 224=some den224:=rfl
theorem fn225:EE.fn 225=some den225:=rfl
theorem fn226:EE.fn 226=some den226:=rfl
theorem pr18:EE.prim 18 r a s=none:=rfl
theorem pr24:EE.prim 24 r a s=none:=rfl
theorem pr25:EE.prim 25 r a s=none:=rfl
theorem pr26:EE.prim 26 r a s=none:=rfl
theorem pr27:EE.prim 27 r a s=none:=rfl
theorem pr28:EE.prim 28 r a s=none:=rfl
theorem pr29:EE.prim 29 r a s=none:=rfl
theorem pr30:EE.prim 30 r a s=none:=rfl
theorem pr32:EE.prim 32 r a s=none:=rfl
theorem pr33:EE.prim 33 r a s=none:=rfl
theorem pr37:EE.prim 37 r a s=none:=rfl
theorem pr38:EE.prim 38 r a s=none:=rfl
theorem pr42:EE.prim 42 r a s=none:=rfl
theorem pr43:EE.prim 43 r a s=none:=rfl
theorem pr50:EE.prim 50 r a s=none:=rfl
theorem pr51:EE.prim 51 r a s=none:=rfl
theorem pr53:EE.prim 53 r a s=none:=rfl
theorem pr55:EE.prim 55 r a s=none:=rfl
theorem pr59:EE.prim 59 r a s=none:=rfl
theorem pr63:EE.prim 63 r a s=none:=rfl
theorem pr64:EE.prim 64 r a s=none:=rfl
theorem pr66:EE.prim 66 r a s=none:=rfl
theorem pr67:EE.prim 67 r a s=none:=rfl
theorem pr68:EE.prim 68 r a s=none:=rfl
theorem pr70:EE.prim 70 r a s=none:=rfl
theorem pr71:EE.prim 71 r a s=none:=rfl
theorem pr72:EE.prim 72 r a s=none:=rfl
theorem pr73:EE.prim 73 r a s=none:=rfl
theorem pr75:EE.prim 75 r a s=none:=rfl
theorem pr76:EE.prim 76 r a s=none:=rfl
theorem pr79:EE.prim 79 r a s=none:=rfl
theorem pr80:EE.prim 80 r a s=none:=rfl
theorem pr81:EE.prim 81 r a s=none:=rfl
theorem pr82:EE.prim 82 r a s=none:=rfl
theorem pr83:EE.prim 83 r a s=none:=rfl
theorem pr84:EE.prim 84 r a s=none:=rfl
theorem pr85:EE.prim 85 r a s=none:=rfl
theorem pr86:EE.prim 86 r a s=none:=rfl
theorem pr87:EE.prim 87 r a s=none:=rfl
theorem pr88:EE.prim 88 r a s=none:=rfl
theorem pr90:EE.prim 90 r a s=none:=rfl
theorem pr91:EE.prim 91 r a s=none:=rfl
theorem pr92:EE.prim 92 r a s=none:=rfl
theorem pr93:EE.prim 93 r a s=none:=rfl
theorem pr94:EE.prim 94 r a s=none:=rfl
theorem pr95:EE.prim 95 r a s=none:=rfl
theorem pr98:EE.prim 98 r a s=none:=rfl
theorem pr99:EE.prim 99 r a s=none:=rfl
theorem pr100:EE.prim 100 r a s=none:=rfl
theorem pr101:EE.prim 101 r a s=none:=rfl
theorem pr102:EE.prim 102 r a s=none:=rfl
theorem pr103:EE.prim 103 r a s=none:=rfl
theorem pr104:EE.prim 104 r a s=none:=rfl
theorem pr105:EE.prim 105 r a s=none:=rfl
theorem pr108:EE.prim 108 r a s=none:=rfl
theorem pr109:EE.prim 109 r a s=none:=rfl
theorem pr110:EE.prim 110 r a s=none:=rfl
theorem pr111:EE.prim 111 r a s=none:=rfl
theorem pr112:EE.prim 112 r a s=none:=rfl
theorem pr114:EE.prim 114 r a s=none:=rfl
theorem pr115:EE.prim 115 r a s=none:=rfl
theorem pr116:EE.prim 116 r a s=none:=rfl
theorem pr117:EE.prim 117 r a s=none:=rfl
theorem pr118:EE.prim 118 r a s=none:=rfl
theorem pr119:EE.prim 119 r a s=none:=rfl
theorem pr120:EE.prim 120 r a s=none:=rfl
theorem pr121:EE.prim 121 r a s=none:=rfl
theorem pr123:EE.prim 123 r a s=none:=rfl
theorem pr124:EE.prim 124 r a s=none:=rfl
theorem pr125:EE.prim 125 r a s=none:=rfl
theorem pr126:EE.prim 126 r a s=none:=rfl
theorem pr129:EE.prim 129 r a s=none:=rfl
theorem pr130:EE.prim 130 r a s=none:=rfl
theorem pr131:EE.prim 131 r a s=none:=rfl
theorem pr132:EE.prim 132 r a s=none:=rfl
theorem pr133:EE.prim 133 r a s=none:=rfl
theorem pr134:EE.prim 134 r a s=none:=rfl
theorem pr135:EE.prim 135 r a s=none:=rfl
theorem pr136:EE.prim 136 r a s=none:=rfl
theorem pr137:EE.prim 137 r a s=none:=rfl
theorem pr138:EE.prim 138 r a s=none:=rfl
theorem pr139:EE.prim 139 r a s=none:=rfl
theorem pr140:EE.prim 140 r a s=none:=rfl
theorem pr141:EE.prim 141 r a s=none:=rfl
theorem pr142:EE.prim 142 r a s=none:=rfl
theorem pr144:EE.prim 144 r a s=none:=rfl
theorem pr146:EE.prim 146 r a s=none:=rfl
theorem pr147:EE.prim 147 r a s=none:=rfl
theorem pr148:EE.prim 148 r a s=none:=rfl
theorem pr149:EE.prim 149 r a s=none:=rfl
theorem pr150:EE.prim 150 r a s=none:=rfl
theorem pr151:EE.prim 151 r a s=none:=rfl
theorem pr156:EE.prim 156 r a s=none:=rfl
theorem pr157:EE.prim 157 r a s=none:=rfl
theorem pr158:EE.prim 158 r a s=none:=rfl
theorem pr160:EE.prim 160 r a s=none:=rfl
theorem pr161:EE.prim 161 r a s=none:=rfl
theorem pr162:EE.prim 162 r a s=none:=rfl
theorem pr163:EE.prim 163 r a s=none:=rfl
theorem pr164:EE.prim 164 r a s=none:=rfl
theorem pr165:EE.prim 165 r a s=none:=rfl
theorem pr166:EE.prim 166 r a s=none:=rfl
theorem pr167:EE.prim 167 r a s=none:=rfl
theorem pr168:EE.prim 168 r a s=none:=rfl
theorem pr169:EE.prim 169 r a s=none:=rfl
theorem pr170:EE.prim 170 r a s=none:=rfl
theorem pr176:EE.prim 176 r a s=none:=rfl
theorem pr177:EE.prim 177 r a s=none:=rfl
theorem pr223:EE.prim 223 r a s=none:=rfl
theorem pr224:EE.prim 224 r a s=none:=rfl
theorem pr225:EE.prim 225 r a s=none:=rfl
theorem pr226:EE.prim 226 r a s=none:=rfl
end Go.Den.Ve
end
section
namespace Go.Den.Ve
structure LP where
 lost:Bool
 w:PV
 l:List Int
 h:SlOf 1 encI w l
abbrev encLP (x:LP):List PV:=[.bool x.lost,x.w]
structure CP where
 v:PV
 ls:List LP
 h:SlOf 2 encLP v ls
abbrev encCP (c:CP):List PV:=[c.v]
structure BP where
 words:Int
 v:PV
 cs:List CP
 h:SlOf 1 encCP v cs
structure SI where
 v:PV
 l:List Int
 h:SlOf 1 encI v l
abbrev encSI (x:SI):List PV:=[x.v]
abbrev BP.pv (b:BP):PV := .agg [.int .i64 b.words,b.v]
abbrev LP.ln (x:LP):LN:=⟨x.lost,x.l⟩
abbrev CP.c (c:CP):List LN:=c.ls.map LP.ln
abbrev BP.bk (b:BP):BK:=⟨b.words,b.cs.map CP.c⟩
attribute [go_sem] iv encI encLP encCP encSI BP.pv
theorem BP.cells(b:BP):b.v.cells=[b.v]:=b.h.cells
theorem BP.isCell(b:BP):b.v.isCell=true:=b.h.isCell
theorem BP.slen(b:BP):b.v.slen=some b.cs.length:=b.h.slen
theorem CP.cells(c:CP):c.v.cells=[c.v]:=c.h.cells
theorem CP.isCell(c:CP):c.v.isCell=true:=c.h.isCell
theorem CP.slen(c:CP):c.v.slen=some c.ls.length:=c.h.slen
theorem LP.cells(c:LP):c.w.cells=[c.w]:=c.h.cells
theorem LP.isCell(c:LP):c.w.isCell=true:=c.h.isCell
theorem LP.slen(c:LP):c.w.slen=some c.l.length:=c.h.slen
theorem SI.cells(c:SI):c.v.cells=[c.v]:=c.h.cells
theorem SI.isCell(c:SI):c.v.isCell=true:=c.h.isCell
theorem SI.slen(c:SI):c.v.slen=some c.l.length:=c.h.slen
attribute [go_sem] BP.cells BP.isCell BP.slen CP.cells CP.isCell CP.slen LP.cells LP.isCell LP.slen SI.cells SI.isCell SI.slen
theorem c129(x lo hi:Int)(st:St):Cl EE (.func 129 [] []) [iv x,iv lo,iv hi] st (.ret (.bool (inN x lo hi))) st:=by
 refine cF3 pr129 fn129 (fun tm hl h0 h1 h2=>?_)
 have e:inN x lo hi=(decide (x≥lo)&&decide (x≤hi)):=rfl
 rw[e]
 cases hd:decide (x≥lo)
 ·refine go2 (bw5 hl h0 h1 h2 hd) fnil ?_
  exact fQ hl
 ·refine go2 (bw5 hl h0 h1 h2 hd) fnil ?_
  exact fQ hl
theorem idxG{α:Type}{f:Nat}(hp:∀ r a s,EE.prim f r a s=none)(hf:EE.fn f=some den142)(F:PV)(l:List α)(en:α→PV)(hF:SlOf 1 (fun a=>[en a]) F l)(hN:l.length<1000000)(g:Nat)(ga gc:List PV)(p:α→Bool)(st:St)(hg0:∀ st',st'.heap=st.heap→∀ a∈l,Cl EE (.func g ga gc) [en a] st' (.ret (.bool (p a))) st'):Cl EE (.func f [] []) [F,.func g ga gc] st (.ret (iv (idxI p l))) st:=by
 refine cl_fn (hp · _ _) hf 2 rfl (by decide) (fun tm hl hg=>?_);have h0:tg tm 0=F:=(hg 0 (by decide));have h1:tg tm 1 = .func g ga gc:=(hg 1 (by decide));clear hg
 have hs:=hF.slen
 refine go2 (bw4 hl h0 h1 hs) fnil ?_
 refine wp_range l.length [] (fun i vs st'=>st'={ heap:=st.heap,lo:=st.heap.length }∧∀ k (hk:k<i) (hl:k<l.length),p l[k]=false) (by omega) (sG hl) (sG hl) (sG hl) (by decide) ⟨rfl,fun k hk=>absurd hk (by omega)⟩ ?_ ?_
 ·rintro i hi tm1 st1 ⟨rfl,hk⟩ hS hia
  have hl1:tm1.length=19:=by rw[hS.1];simp only[↓reduceIte,go_sem,hl]
  have i0:tg tm1 0=F:=by rw[hS.2 0 (by decide)];simp only[↓reduceIte,go_sem,hl,h0]
  have i1:tg tm1 1 = .func g ga gc:=by rw[hS.2 1 (by decide)];simp only[↓reduceIte,go_sem,hl,h1]
  have hb:=hg0 { heap:=st.heap,lo:=st.heap.length } rfl l[i] (List.getElem_mem hi)
  cases hp:p l[i]
  ·rw[hp] at hb
   refine go2 (bw4 hl1 i0 i1 hia) (bw hb fnil) ?_
   refine⟨rfl,fun k hk1 hk2=>?_⟩
   by_cases hki:k=i
   ·subst hki;exact hp
   ·exact hk k (by omega) hk2
  ·rw[hp] at hb
   rw[idxI_at hi (fun k hk1=>hk k hk1 (by omega)) hp]
   refine go2 (bw4 hl1 i0 i1 hia) (bw hb fnil) ?_
   exact fQ hl1
 ·rintro tm1 st1 ⟨rfl,hk⟩ hS
  have hl1:tm1.length=19:=by rw[hS.1];simp only[↓reduceIte,go_sem,hl]
  rw[idxI_no (fun k hk1=>hk k hk1 hk1)]
  refine go2 hl1 fnil ?_
  exact fQ hl1
theorem c163(F:PV)(l:List Int)(hF:SlOf 1 encI F l)(hN:l.length<1000000)(g:Nat)(ga gc:List PV)(p:Int→Bool)(st:St)(hg0:∀ st',st'.heap=st.heap→∀ a∈l,Cl EE (.func g ga gc) [iv a] st' (.ret (.bool (p a))) st'):Cl EE (.func 163 [] []) [F,.func g ga gc] st (.ret (iv (idxI p l))) st:=idxG pr163 fn163 F l iv hF hN g ga gc p st hg0
theorem c160(F:PV)(l:List CP)(hF:SlOf 1 encCP F l)(hN:l.length<1000000)(g:Nat)(ga gc:List PV)(p:CP→Bool)(st:St)(hg0:∀ st',st'.heap=st.heap→∀ a∈l,Cl EE (.func g ga gc) [a.v] st' (.ret (.bool (p a))) st'):Cl EE (.func 160 [] []) [F,.func g ga gc] st (.ret (iv (idxI p l))) st:=idxG pr160 fn160 F l CP.v hF hN g ga gc p st hg0
theorem c142(F:PV)(l:List SI)(hF:SlOf 1 encSI F l)(hN:l.length<1000000)(g:Nat)(ga gc:List PV)(p:SI→Bool)(st:St)(hg0:∀ st',st'.heap=st.heap→∀ a∈l,Cl EE (.func g ga gc) [a.v] st' (.ret (.bool (p a))) st'):Cl EE (.func 142 [] []) [F,.func g ga gc] st (.ret (iv (idxI p l))) st:=idxG pr142 fn142 F l SI.v hF hN g ga gc p st hg0
theorem c176(F:PV)(l:List LP)(hF:SlOf 2 encLP F l)(hN:l.length<1000000)(g:Nat)(ga gc:List PV)(p:LP→Bool)(st:St)(hg0:∀ st',st'.heap=st.heap→∀ a∈l,Cl EE (.func g ga gc) [.agg (encLP a)] st' (.ret (.bool (p a))) st'):Cl EE (.func 176 [] []) [F,.func g ga gc] st (.ret (iv (idxI p l))) st:=by
 refine cF2 pr176 fn176 (fun tm hl h0 h1=>?_)
 have hs:=hF.slen
 refine go2 (bw4 hl h0 h1 hs) fnil ?_
 refine wp_range l.length [] (fun i vs st'=>st'={ heap:=st.heap,lo:=st.heap.length }∧∀ k (hk:k<i) (hl:k<l.length),p l[k]=false) (by omega) (sG hl) (sG hl) (sG hl) (by decide) ⟨rfl,fun k hk=>absurd hk (by omega)⟩ ?_ ?_
 ·rintro i hi tm1 st1 ⟨rfl,hk⟩ hS hia
  have hl1:tm1.length=19:=by rw[hS.1];simp only[↓reduceIte,go_sem,hl]
  have i0:tg tm1 0=F:=by rw[hS.2 0 (by decide)];simp only[↓reduceIte,go_sem,hl,h0]
  have i1:tg tm1 1 = .func g ga gc:=by rw[hS.2 1 (by decide)];simp only[↓reduceIte,go_sem,hl,h1]
  have hb:=hg0 { heap:=st.heap,lo:=st.heap.length } rfl l[i] (List.getElem_mem hi)
  cases hp:p l[i]
  ·rw[hp] at hb
   refine go2 (bw4 hl1 i0 i1 hia) (bw hb fnil) ?_
   refine⟨rfl,fun k hk1 hk2=>?_⟩
   by_cases hki:k=i
   ·subst hki;exact hp
   ·exact hk k (by omega) hk2
  ·rw[hp] at hb
   rw[idxI_at hi (fun k hk1=>hk k hk1 (by omega)) hp]
   refine go2 (bw4 hl1 i0 i1 hia) (bw hb fnil) ?_
   exact fQ hl1
 ·rintro tm1 st1 ⟨rfl,hk⟩ hS
  have hl1:tm1.length=19:=by rw[hS.1];simp only[↓reduceIte,go_sem,hl]
  rw[idxI_no (fun k hk1=>hk k hk1 hk1)]
  refine go2 hl1 fnil ?_
  exact fQ hl1
theorem hasG{α:Type}{f k:Nat}(hp:∀ r a s,EE.prim f r a s=none)(hf:EE.fn f=some ⟨9,[.tmp 4],.seq (.region [⟨.val (.c (.bool false)),some 4,none⟩]) (.seq (.region [⟨.val (.t 0),some 5,none⟩,⟨.val (.t 1),some 6,none⟩,⟨.call (.c (.func k [] [])) [.t 5,.t 6],some 7,none⟩,⟨.binI .geq (.t 7) (.c (.int .i64 0)),some 8,none⟩,⟨.val (.t 8),some 4,none⟩]) .ret)⟩){F G:PV}{p:α→Bool}{l:List α}(st:St)(hc:∀ st',st'.heap=st.heap→Cl EE (.func k [] []) [F,G] st' (.ret (iv (idxI p l))) st'):Cl EE (.func f [] []) [F,G] st (.ret (.bool (l.any p))) st:=by
 refine cl_fn (hp · _ _) hf 2 rfl (by decide) (fun tm hl hg=>?_);have h0:tg tm 0=F:=(hg 0 (by decide));have h1:tg tm 1=G:=(hg 1 (by decide));clear hg
 rw[← idxI_ge]
 have hc':=hc ⟨st.heap,st.heap.length⟩ rfl
 refine go2 (bw3 hl h0 h1) (bw hc' fnil) ?_
 exact fQ hl
theorem c133(F:PV)(l:List Int)(hF:SlOf 1 encI F l)(hN:l.length<1000000)(g:Nat)(ga gc:List PV)(p:Int→Bool)(st:St)(hg0:∀ st',st'.heap=st.heap→∀ a∈l,Cl EE (.func g ga gc) [iv a] st' (.ret (.bool (p a))) st'):Cl EE (.func 133 [] []) [F,.func g ga gc] st (.ret (.bool (l.any p))) st:=hasG pr133 fn133 st (fun st1 he=>c163 F l hF hN g ga gc p st1 (fun st' h a ha=>hg0 st' (h.trans he) a ha))
theorem c130(F:PV)(l:List CP)(hF:SlOf 1 encCP F l)(hN:l.length<1000000)(g:Nat)(ga gc:List PV)(p:CP→Bool)(st:St)(hg0:∀ st',st'.heap=st.heap→∀ a∈l,Cl EE (.func g ga gc) [a.v] st' (.ret (.bool (p a))) st'):Cl EE (.func 130 [] []) [F,.func g ga gc] st (.ret (.bool (l.any p))) st:=hasG pr130 fn130 st (fun st1 he=>c160 F l hF hN g ga gc p st1 (fun st' h a ha=>hg0 st' (h.trans he) a ha))
theorem c93(F:PV)(l:List SI)(hF:SlOf 1 encSI F l)(hN:l.length<1000000)(g:Nat)(ga gc:List PV)(p:SI→Bool)(st:St)(hg0:∀ st',st'.heap=st.heap→∀ a∈l,Cl EE (.func g ga gc) [a.v] st' (.ret (.bool (p a))) st'):Cl EE (.func 93 [] []) [F,.func g ga gc] st (.ret (.bool (l.any p))) st:=hasG pr93 fn93 st (fun st1 he=>c142 F l hF hN g ga gc p st1 (fun st' h a ha=>hg0 st' (h.trans he) a ha))
theorem c161(F:PV)(l:List LP)(hF:SlOf 2 encLP F l)(hN:l.length<1000000)(g:Nat)(ga gc:List PV)(p:LP→Bool)(st:St)(hg0:∀ st',st'.heap=st.heap→∀ a∈l,Cl EE (.func g ga gc) [.agg (encLP a)] st' (.ret (.bool (p a))) st'):Cl EE (.func 161 [] []) [F,.func g ga gc] st (.ret (.bool (l.any p))) st:=hasG pr161 fn161 st (fun st1 he=>c176 F l hF hN g ga gc p st1 (fun st' h a ha=>hg0 st' (h.trans he) a ha))
end Go.Den.Ve
end
section
namespace Go.Den.Ve
structure OkW (w:Int):Prop where
 lo:1≤w
 hi:w≤3
theorem OkW.wrap{w:Int}(h:OkW w):IntKind.wrap .i64 (w - 1)=w - 1:=wrap_in (by have:=h.lo;have:=h.hi;unfold inI;omega)
theorem OkB.okW{b:BK}(h:OkB b):OkW b.words:=⟨h.w1,h.w3⟩
theorem c134(w:Int)(V:PV)(hw:OkW w)(x:Int)(st:St)(b:Nat)(hb:hp st b=some (.var [iv w,V])):Cl EE (.func 134 [] [.ptr b 0]) [iv x] st (.ret (.bool (!inN x 0 (w - 1)))) st:=by
 refine cF2 pr134 fn134 (fun tm hl h0 h1=>?_)
 have hb':hp { heap:=st.heap,lo:=st.heap.length } b=some (.var [iv w,V]):=hb
 have hw':=hw.wrap
 refine go2 (bw5 hl h0 h1 hb' hw') (bw c129 fnil) ?_
 exact fQ hl
theorem c82(w:Int)(V:PV)(hV:V.cells=[V])(hw:OkW w)(L:PV)(l:List Int)(hL:SlOf 1 encI L l)(st:St):Cl EE (.func 82 [] []) [.agg [iv w,V],L] st (.ret (.bool (lineB w l))) st:=by
 have hs:=hL.slen
 refine cF2 pr82 fn82 (fun tm hl h0 h1=>?_)
 by_cases hA:l.length≤4
 ·have e:lineB w l=!(l.any fun x=>!inN x 0 (w - 1)):=by simp[lineB,hA,List.all_eq_not_any_not]
  have hA':decide ((l.length:Int)≤4)=true:=by simp;omega
  rw[e]
  have hk:=c133 L l hL (by omega) 134 [] [.ptr st.heap.length 0] (fun x=>!inN x 0 (w - 1)) (({ heap:=st.heap,lo:=st.heap.length }:St).push (.var [iv w,V])) (fun st' he a _=>c134 w V hw a st' _ (by simp[hp,he,St.push]))
  refine go2 (bw6 hl h0 h1 hA' hs hV) (bw hk fnil) ?_
  exact fQ hl
 ·have e:lineB w l=false:=by simp[lineB,hA]
  have hA':decide ((l.length:Int)≤4)=false:=by simp;omega
  rw[e]
  refine go2 (bw5 hl h0 h1 hA' hs) fnil ?_
  exact fQ hl
theorem c162(w:Int)(V:PV)(hV:V.cells=[V])(hw:OkW w)(x:LP)(st:St)(b:Nat)(hb:hp st b=some (.var [iv w,V])):Cl EE (.func 162 [] [.ptr b 0]) [.agg (encLP x)] st (.ret (.bool (!lnB w x.ln))) st:=by
 have hbl:=hp_lt hb
 have hb':hp { heap:=st.heap,lo:=st.heap.length } b=some (.var [iv w,V]):=hb
 refine cF2 pr162 fn162 (fun tm hl h0 h1=>?_)
 cases hA:lineB w x.l
 ·have e:(!lnB w x.ln)=true:=by simp[lnB,hA]
  rw[e]
  refine go2 (bw6 hl h0 h1 hb' hA (n4 hbl)) (bw (c82 w V hV hw x.w x.l x.h) fnil) ?_
  exact fQ hl
 ·cases hB:x.lost
  ·have e:(!lnB w x.ln)=false:=by simp[lnB,hA,hB]
   rw[e]
   refine go2 (bw7 hl h0 h1 hb' hA hB (n4 hbl)) (bw (c82 w V hV hw x.w x.l x.h) fnil) ?_
   exact fQ hl
  ·have e:(!lnB w x.ln)=decide ((x.l.length:Int)>0):=by
    simp only[lnB,hA,hB]
    cases x.l <;> simp
   rw[e]
   refine go2 (bw7 hl h0 h1 hb' hA hB (n4 hbl)) (bw (c82 w V hV hw x.w x.l x.h) fnil) ?_
   exact fQ hl
theorem lines1_bk(b:BP)(h:0<b.cs.length):lines1 b.bk=b.cs[0].ls.length:=by
 obtain⟨w,v,cs,hh⟩:=b
 cases cs with
 | nil=>simp at h
 | cons c cs=>simp[lines1]
theorem c132(b:BP)(hw:OkW b.words)(h0:0<b.cs.length)(hN:∀ c∈b.cs,c.ls.length<1000000)(c:CP)(hc:c∈b.cs)(st:St):Cl EE (.func 132 [] []) [b.pv,c.v] st (.ret (.bool (copyB b.bk c.c))) st:=by
 have hB:=b.h
 have hl1:=lines1_bk b h0
 have hbc:=b.cells
 refine cF2 pr132 fn132 (fun tm hl h0 h1=>?_)
 by_cases hA:c.ls.length=b.cs[0].ls.length
 ·have e:copyB b.bk c.c=!(c.ls.any fun x=>!lnB b.words x.ln):=by simp[copyB,hl1,hA,List.all_eq_not_any_not,Function.comp_def]
  have hA':((c.ls.length:Int)==(b.cs[0].ls.length:Int))=true:=by simp;omega
  rw[e]
  have hk:=c161 c.v c.ls c.h (hN c hc) 162 [] [.ptr st.heap.length 0] (fun x=>!lnB b.words x.ln) (({ heap:=st.heap,lo:=st.heap.length }:St).push (.var [iv b.words,b.v])) (fun st' he a _=>c162 b.words b.v hbc hw a st' _ (by simp[hp,he,St.push]))
  refine go2 (bw4 hl h0 h1 hA') (bw hk fnil) ?_
  exact fQ hl
 ·have e:copyB b.bk c.c=false:=by simp[copyB,hl1,hA]
  have hA':((c.ls.length:Int)==(b.cs[0].ls.length:Int))=false:=by simp;omega
  rw[e]
  refine go2 (bw4 hl h0 h1 hA') fnil ?_
  exact fQ hl
structure SmB (b:BP):Prop where
 n:b.cs.length<1000000
 k:∀ c∈b.cs,c.ls.length<1000000
theorem c131(b:BP)(hw:OkW b.words)(hp0:0<b.cs.length)(hN:SmB b)(c:CP)(hc:c∈b.cs)(st:St)(a:Nat)(ha:hp st a=some (.var [iv b.words,b.v])):Cl EE (.func 131 [] [.ptr a 0]) [c.v] st (.ret (.bool (!copyB b.bk c.c))) st:=by
 have ha':hp { heap:=st.heap,lo:=st.heap.length } a=some (.var [iv b.words,b.v]):=ha
 refine cF2 pr131 fn131 (fun tm hl h0 h1=>?_)
 have hk:=fun st=>c132 b hw hp0 hN.k c hc st
 refine go2 (bw4 hl h0 h1 ha') (bw hk fnil) ?_
 exact fQ hl
theorem c81(b:BP)(hN:SmB b)(st:St):Cl EE (.func 81 [] []) [b.pv] st (.ret (.bool (bookB b.bk))) st:=by
 have hB:=b.h
 have hbk:bookB b.bk=(inN b.words 1 3&&(inN (b.cs.length:Int) 1 5&&(inN (lines1 b.bk) 1 4&&b.bk.copies.all (copyB b.bk)))):=by simp[bookB]
 rw[hbk]
 refine cF1 pr81 fn81 (fun tm hl h0=>?_)
 cases hA:inN b.words 1 3
 ·refine go2 (bw3 hl h0 hA) (bw c129 fnil) ?_
  exact fQ hl
 cases hC:inN (b.cs.length:Int) 1 5
 ·refine go2 (bw4 hl h0 hA hC) (bw c129 fnil) ?_
  exact fQ hl
 have hw:OkW b.words:=by simp only[inN,Bool.and_eq_true,decide_eq_true_eq] at hA;exact⟨hA.1,hA.2⟩
 have hp0:0<b.cs.length:=by simp only[inN,Bool.and_eq_true,decide_eq_true_eq] at hC;omega
 rw[lines1_bk b hp0]
 cases hD:inN (b.cs[0].ls.length:Int) 1 4
 ·refine go2 (bw5 hl h0 hA hC hD) (bw c129 fnil) ?_
  exact fQ hl
 have e:(b.bk.copies.all (copyB b.bk))=!(b.cs.any fun c=>!copyB b.bk c.c):=by simp[List.all_eq_not_any_not,Function.comp_def]
 rw[e]
 have hk:=c130 b.v b.cs b.h hN.n 131 [] [.ptr st.heap.length 0] (fun c=>!copyB b.bk c.c) (({ heap:=st.heap,lo:=st.heap.length }:St).push (.var [iv b.words,b.v])) (fun st' he a ha=>c131 b hw hp0 hN a ha st' _ (by simp[hp,he,St.push]))
 refine go2 (bw5 hl h0 hA hC hD) (bw3 c129 hk fnil) ?_
 exact fQ hl
theorem OkB.sm{b:BP}(h:OkB b.bk):SmB b:=⟨by have:=h.c5;simp at this;omega,fun c hc=>by
 have:=(h.all c.c (List.mem_map.2 ⟨c,hc,rfl⟩)).1
 have:=h.l4
 simp at *;omega⟩
theorem OkB.pos{b:BP}(h:OkB b.bk):0<b.cs.length:=by have:=h.c1;simp at this;omega
theorem c98(b:BP)(h:b.cs.length<1000000)(n:Int)(st:St):Cl EE (.func 98 [] []) [b.pv,iv n] st (.ret (.bool (inN n 0 (b.cs.length - 1)))) st:=by
 have hw:IntKind.wrap .i64 ((b.cs.length:Int) - 1)=b.cs.length - 1:=wrap_in (by unfold inI;omega)
 refine cF2 pr98 fn98 (fun tm hl h0 h1=>?_)
 refine go2 (bw4 hl h0 h1 hw) (bw c129 fnil) ?_
 exact fQ hl
theorem c90(b:BP)(h:OkB b.bk)(n:Int)(st:St):Cl EE (.func 90 [] []) [b.pv,iv n] st (.ret (.bool (inN n 0 (lines1 b.bk - 1)))) st:=by
 have hB:=b.h
 have hp0:=h.pos
 have h4:=h.l4
 rw[lines1_bk b hp0] at h4 ⊢
 have hw:IntKind.wrap .i64 ((b.cs[0].ls.length:Int) - 1)=b.cs[0].ls.length - 1:=wrap_in (by unfold inI;omega)
 refine cF2 pr90 fn90 (fun tm hl h0 h1=>?_)
 refine go2 (bw4 hl h0 h1 hw) (bw c129 fnil) ?_
 exact fQ hl
theorem c147(b:BP)(hw:OkW b.words)(x:SI)(st:St)(a:Nat)(ha:hp st a=some (.var [iv b.words,b.v])):Cl EE (.func 147 [] [.ptr a 0]) [x.v] st (.ret (.bool (!lineB b.words x.l))) st:=by
 have ha':hp { heap:=st.heap,lo:=st.heap.length } a=some (.var [iv b.words,b.v]):=ha
 refine cF2 pr147 fn147 (fun tm hl h0 h1=>?_)
 have hk:=fun st=>c82 b.words b.v b.cells hw x.v x.l x.h st
 refine go2 (bw4 hl h0 h1 ha') (bw hk fnil) ?_
 exact fQ hl
theorem c114(b:BP)(h:OkB b.bk)(T:PV)(t:List SI)(hT:SlOf 1 encSI T t)(hN:t.length<1000000)(st:St):Cl EE (.func 114 [] []) [b.pv,T] st (.ret (.bool (txtB b.bk (t.map SI.l)))) st:=by
 have hB:=b.h
 have hp0:=h.pos
 have hs:=hT.slen
 have hl1:=lines1_bk b hp0
 refine cF2 pr114 fn114 (fun tm hl h0 h1=>?_)
 by_cases hA:t.length=b.cs[0].ls.length
 ·have e:txtB b.bk (t.map SI.l)=!(t.any fun x=>!lineB b.words x.l):=by simp[txtB,hl1,hA,List.all_eq_not_any_not,Function.comp_def]
  have hA':((t.length:Int)==(b.cs[0].ls.length:Int))=true:=by simp;omega
  rw[e]
  have hk:=c93 T t hT hN 147 [] [.ptr st.heap.length 0] (fun x=>!lineB b.words x.l) (({ heap:=st.heap,lo:=st.heap.length }:St).push (.var [iv b.words,b.v])) (fun st' he a _=>c147 b h.okW a st' _ (by simp[hp,he,St.push]))
  refine go2 (bw5 hl h0 h1 hs hA') (bw hk fnil) ?_
  exact fQ hl
 ·have e:txtB b.bk (t.map SI.l)=false:=by simp[txtB,hl1,hA]
  have hA':((t.length:Int)==(b.cs[0].ls.length:Int))=false:=by simp;omega
  rw[e]
  refine go2 (bw5 hl h0 h1 hs hA') fnil ?_
  exact fQ hl
theorem c88(F:PV)(l:List Int)(hF:SlOf 1 encI F l)(hN:l.length≤1000)(hb:∀ x∈l,0≤x∧x≤1000)(st:St):Cl EE (.func 88 [] []) [F] st (.ret (iv l.sum)) st:=by
 refine cF1 pr88 fn88 (fun tm hl h0=>?_)
 have hs:=hF.slen
 refine go2 (bw3 hl h0 hs) fnil ?_
 refine wp_range l.length [3] (fun i vs st'=>vs=[iv (l.take i).sum]∧st'={ heap:=st.heap,lo:=st.heap.length }) (by omega) (sG hl) (sG hl) (sG hl) (by decide) ⟨(sR hl),rfl⟩ ?_ ?_
 ·rintro i hi tm1 st1 ⟨hv,rfl⟩ hS hia
  replace hv:=mv1 hv
  have hl1:tm1.length=17:=by rw[hS.1];simp only[↓reduceIte,go_sem,hl]
  have h6:tg tm1 6=F:=by rw[hS.2 6 (by decide)];simp only[↓reduceIte,go_sem,hl]
  refine go2 (bw4 hl1 h6 hia hv) fnil ?_
  refine⟨?_,rfl⟩
  have h3:=sum_inI hN hb (i+1)
  rw[List.take_succ_eq_append_getElem hi,List.sum_append_int,List.sum_singleton] at h3 ⊢
  simp only[↓reduceIte,go_sem,hl1,wrap_in h3]
 ·rintro tm1 st1 ⟨hv,rfl⟩ hS
  replace hv:=mv1 hv
  have hl1:tm1.length=17:=by rw[hS.1];simp only[↓reduceIte,go_sem,hl]
  refine go2 (bw hl1 hv) fnil ?_
  refine fnq_flat ?_ (Nat.le_refl _) (by rfl)
  exact results_one (by rw[rdRes_tmp];simp only[↓reduceIte,go_sem,hl1,List.take_length])
end Go.Den.Ve
end
section
namespace Go.Den.Ve
def ivR (len sz:Nat) (x i:PV) (st:St):Option OpR:=match x,i with
 | .ptr l o,.int _ i=>if 0≤i∧i<len then some (.val (.ptr l (o+i.toNat*sz)) st) else none
 | _,_=>none
theorem op_indexVar{E:Env}{rec:Rec}{tm:List PV}{st:St}{len sz:Nat}{x i:Opd}:stepOp E rec tm st (.indexVar len sz x i)=ivR len sz (x.ev tm) (i.ev tm) st:=by
 rfl
theorem ivR_p{len sz l o j:Nat}{k:IntKind}{st:St}:ivR len sz (.ptr l o) (.int k (j:Int)) st=if j<len then some (.val (.ptr l (o+j*sz)) st) else none:=by
 simp only[ivR,Int.toNat_natCast]
 congr 1
 simp
theorem ivR_0{len sz l o:Nat}{k:IntKind}{st:St}(h:0<len):ivR len sz (.ptr l o) (.int k 0) st=some (.val (.ptr l o) st):=by
 simp[ivR,h]
theorem ivR_z{len sz l o:Nat}{k:IntKind}{st:St}:ivR (len+1) sz (.ptr l o) (.int k 0) st=some (.val (.ptr l o) st):=ivR_0 (by omega)
attribute [go_sem] op_indexVar ivR_p ivR_z
structure Row (cs:List PV) (f:Nat→Nat) (n:Nat):Prop where
 len:cs.length=5
 cell:cs.all PV.isCell=true
 at':∀ k,k≤n→(cs.drop k).head? = some (iv (f k))
theorem Row.keep{cs:List PV}{f:Nat→Nat}{n k:Nat}{v:PV}(h:Row cs f n)(hk:n<k)(h5:k<5)(hv:v.isCell=true):Row (cs.take k++[v]++cs.drop (k+1)) f n:=by
 rw[List.append_assoc,List.singleton_append]
 refine⟨by simp[h.len];omega,?_,fun j hj=>?_⟩
 ·have:=h.cell
  simp only[List.all_append,List.all_cons,hv,Bool.true_and,Bool.and_eq_true,List.all_eq_true] at this ⊢
  exact⟨fun x hx=>this x (List.mem_of_mem_take hx),fun x hx=>this x (List.mem_of_mem_drop hx)⟩
 ·rw[← h.at' j hj,List.head?_drop,List.head?_drop,List.getElem?_append_left (by simp[h.len];omega),List.getElem?_take,if_pos (by omega)]
theorem Row.set{cs:List PV}{f:Nat→Nat}{n:Nat}{v:PV}(h:Row cs f n)(h5:n+1<5)(hv:v=iv (f (n+1))):Row (cs.take (n+1)++[v]++cs.drop (n+1+1)) f (n+1):=by
 have h1:=h.keep (v:=v) (Nat.lt_succ_self n) h5 (by rw[hv];rfl)
 refine⟨h1.len,h1.cell,fun j hj=>?_⟩
 by_cases hjn:j≤n
 ·exact h1.at' j hjn
 ·have:j=n+1:=by omega
  subst this
  rw[List.append_assoc,List.singleton_append,List.head?_drop,List.getElem?_append_right (by rw[List.length_take,h.len];omega),hv]
  have:(List.take (n+1) cs).length=n+1:=by rw[List.length_take,h.len];omega
  simp[this]
theorem Row.first{cs:List PV}{f:Nat→Nat}{v:PV}(hl:cs.length=5)(hc:cs.all PV.isCell=true)(hv:v=iv (f 0)):Row (v::cs.drop 1) f 0:=by
 refine⟨by simp[hl],?_,fun j hj=>?_⟩
 ·simp only[List.all_cons,Bool.and_eq_true,List.all_eq_true] at hc ⊢
  exact⟨by rw[hv];rfl,fun x hx=>hc x (List.mem_of_mem_drop hx)⟩
 ·have:j=0:=by omega
  subst this
  rw[hv];rfl
theorem row0:Row [iv 0,iv 0,iv 0,iv 0,iv 0] (fun k=>k) 0:=⟨rfl,rfl,fun k hk=>by
 have:k=0:=by omega
 subst this
 rfl⟩
theorem Row.congr{cs:List PV}{f g:Nat→Nat}{n:Nat}(h:Row cs f n)(e:∀ k,k≤n→f k=g k):Row cs g n:=⟨h.len,h.cell,fun k hk=>by rw[h.at' k hk,e k hk]⟩
theorem mm3N(a b c:Nat):mm false (.int .i64 a) [.int .i64 b,.int .i64 c]=some (.int .i64 ((min a (min b c):Nat))):=by
 have e:min (a:Int) (min (b:Int) c)=((min a (min b c):Nat):Int):=by omega
 rw[← e]
 simp only[mm,Bool.false_eq_true,if_false,Option.some.injEq,PV.int.injEq,true_and]
 omega
theorem wrap1{n:Nat}(h:n<1000):IntKind.wrap .i64 (1+(n:Int))=((1+n:Nat):Int):=by rw[wrap_in (by unfold inI;omega)];omega
theorem wrapN{n:Nat}(h:n<1000):IntKind.wrap .i64 ((n:Int)+1)=((n+1:Nat):Int):=by rw[wrap_in (by unfold inI;omega)];omega
theorem lev_le4{l m:List Int}(h1:l.length≤4)(h2:m.length≤4)(i k:Nat):lev (l.take i) (m.take k)≤4:=by
 have:=lev_max (l.take i) (m.take k)
 simp only[List.length_take] at this
 omega
theorem lev_step{l m:List Int}{i k:Nat}(hi:i<l.length)(hk:k<m.length):lev (l.take (i+1)) (m.take (k+1))=if l[i]=m[k] then lev (l.take i) (m.take k) else 1+min (lev (l.take i) (m.take k)) (min (lev (l.take i) (m.take (k+1))) (lev (l.take (i+1)) (m.take k))):=by
 rw[List.take_succ_eq_append_getElem hi,List.take_succ_eq_append_getElem hk,lev_snoc]
set_option maxHeartbeats 4000000 in
theorem c83(L1 L2:PV)(l1 l2:List Int)(hL1:SlOf 1 encI L1 l1)(hL2:SlOf 1 encI L2 l2)(hx1:l1.length≤4)(hx2:l2.length≤4)(st:St):Cl EE (.func 83 [] []) [L1,L2] st (.ret (iv (lev l1 l2:Nat))) st:=by
 have hs1:=hL1.slen
 have hs2:=hL2.slen
 refine cF2 pr83 fn83 (fun tm hl h0 h1=>?_)
 refine go2 (bw5 hl h0 h1 hs1 hs2) fnil ?_
 refine wp_range l2.length [] (fun i vs st'=>st.heap.length≤st'.lo∧st'.lo≤st'.heap.length∧∃ cs,hp st' st.heap.length=some (.var cs)∧Row cs (fun k=>k) i) (by omega) (sG hl) (sG hl) (sG hl) (by decide) ⟨by simp[lo_push],by simp[lo_push,len_push],_,(sG fnil),row0⟩ ?_ ?_
 ·rintro i hi tm1 st1 ⟨hlo,hwf,cs,hcs,hR⟩ hS hia
  have hl1:tm1.length=71:=lN hS hl;have i5:tg tm1 5 = .ptr st.heap.length 0:=tQ hS (bw hl h0);clear hS
  have hw:=wrapN (n:=i) (by omega)
  have hlt:(i+1<5)=True:=by simp;omega
  have hle:(i+1+1≤cs.length)=True:=by rw[hR.len];simp;omega
  have hll:=hp_lt hcs
  refine go2 (bw8 hl1 i5 hia hw hlt hle hcs Nat.mul_one) fnil ?_
  refine⟨by simp only[lo_setVar];omega,by simp only[lo_setVar,len_setVar];omega,_,(sR (n4 hll)),?_⟩
  have:=hR.set (v:=iv ((i+1:Nat):Int)) (by omega) rfl
  exact this
 ·rintro tm1 st1 ⟨hlo,hwf,cs,hcs,hR⟩ hS
  have hl1:tm1.length=71:=lN hS hl;have i0:tg tm1 0=L1:=tQ hS (bw3 hl h0 h1);have i1:tg tm1 1=L2:=tQ hS (bw3 hl h0 h1);have i5:tg tm1 5 = .ptr st.heap.length 0:=tQ hS (bw3 hl h0 h1);clear hS
  replace hR:=hR.congr (g:=fun k=>lev (l1.take 0) (l2.take k)) (fun k hk=>by simp[lev_nil];omega)
  refine go2 (bw3 hl1 i0 hs1) fnil ?_
  refine wp_range l1.length [] (fun i vs st'=>st.heap.length≤st'.lo∧st'.lo≤st'.heap.length∧∃ cs,hp st' st.heap.length=some (.var cs)∧Row cs (fun k=>lev (l1.take i) (l2.take k)) l2.length) (by omega) (sG hl1) (sG hl1) (sG hl1) (by decide) ⟨hlo,hwf,cs,hcs,hR⟩ ?_ ?_
  ·rintro i hi tm2 st2 ⟨hlo2,hwf2,bs,hbs,hB⟩ hS hia
   have hl2:tm2.length=71:=lN hS hl1;have j1:tg tm2 1=L2:=tQ hS (bw4 hl1 i0 i1 i5);have j5:tg tm2 5 = .ptr st.heap.length 0:=tQ hS (bw4 hl1 i0 i1 i5);have j23:tg tm2 23=L1:=tQ hS (bw4 hl1 i0 i1 i5);clear hS
   have hbl:=hB.len
   have hbc:=hB.cell
   have hbt:bs.take 5=bs:=List.take_of_length_le (by omega)
   have hb0:bs.head? = some (iv (lev (l1.take i) []:Nat)):=hB.at' 0 (Nat.zero_le _)
   have hw:=wrapN (n:=lev (l1.take i) []) (by rw[lev_len];simp;omega)
   have hll:=hp_lt hbs
   have hne:(st2.heap.length=st.heap.length)=False:=by simp;omega
   have hb1:(1≤bs.length)=True:=by rw[hbl];simp
   refine go2 (bw15 hl2 j1 j5 j23 hia hbs hbt hbl hbc hb0 hw hb1 hs2 (n4 hll) hne) fnil ?_
   refine wp_range l2.length [] (fun k vs st'=>st.heap.length≤st'.lo∧st'.lo≤st'.heap.length∧hp st' st2.heap.length=some (.var bs)∧∃ ns,hp st' st.heap.length=some (.var ns)∧Row ns (fun j=>lev (l1.take (i+1)) (l2.take j)) k) (by omega) (sG hl2) (sG hl2) (sG hl2) (by decide) ⟨by simp only[lo_setVar,lo_push];omega,by simp only[lo_setVar,lo_push,len_setVar,len_push];omega,(sG (bw (n4 hll) hne)),_,(sR (n4 hll)),?_⟩ ?_ ?_
   ·refine Row.first hbl hbc ?_
    rw[List.take_zero,lev_len,lev_len]
    simp only[List.length_take]
    congr 2
    omega
   ·rintro k hk tm3 st3 ⟨hlo3,hwf3,hb3,ns,hns,hN⟩ hS hka
    have hl3:tm3.length=71:=lN hS hl2;have k5:tg tm3 5 = .ptr st.heap.length 0:=tQ hS (bw3 hl2 j1 j5);have k8:tg tm3 8=iv l1[i]:=tQ hS (bw3 hl2 j1 j5);have k9:tg tm3 9 = .ptr st2.heap.length 0:=tQ hS (bw3 hl2 j1 j5);have k34:tg tm3 34=L2:=tQ hS (bw3 hl2 j1 j5);clear hS
    have hnl:=hN.len
    have hw1:=wrapN (n:=k) (by omega)
    have hc5:(k<5)=True:=by simp;omega
    have hc6:(k+1<5)=True:=by simp;omega
    have hle:(k+1+1≤ns.length)=True:=by rw[hnl];simp;omega
    have hlb:(k≤bs.length)=True:=by rw[hbl];simp;omega
    have hbk:(bs.drop k).head? = some (iv (lev (l1.take i) (l2.take k):Nat)):=hB.at' k (by omega)
    have hll3:=hp_lt hns
    refine go2 (bw16 hl3 k5 k8 k9 k34 hka hb3 hns hw1 hc5 hc6 hle hlb hbk Nat.mul_one (n4 hll3)) fnil ?_
    have hst:=lev_step hi hk
    have hK:=hN.keep (v:=iv (lev (l1.take i) (l2.take k):Nat)) (Nat.lt_succ_self k) (by omega) rfl
    by_cases e:l1[i]=l2[k]
    ·have he:(l1[i] != l2[k])=false:=by simp[e]
     rw[if_pos e] at hst
     refine go2 (bw hl3 he) fnil ?_
     refine⟨by simp only[lo_setVar];omega,by simp only[lo_setVar,len_setVar];omega,(sG (bw3 hb3 (n4 hll) hne)),_,(sR (n4 hll3)),?_⟩
     exact hN.set (by omega) (by rw[← hst])
    ·have he:(l1[i] != l2[k])=true:=by simp[e]
     rw[if_neg e] at hst
     have hbk1:(bs.drop (k+1)).head? = some (iv (lev (l1.take i) (l2.take (k+1)):Nat)):=hB.at' (k+1) (by omega)
     have hlb1:(k+1≤bs.length)=True:=by rw[hbl];simp;omega
     have hnk:=hK.at' k (Nat.le_refl _)
     have hKl:=hK.len
     generalize hns1:ns.take k.succ++[iv (lev (l1.take i) (l2.take k):Nat)]++ns.drop (k.succ+1)=ns1 at hK hnk hKl
     have hns1':ns.take (k+1)++[PV.int IntKind.i64 (lev (l1.take i) (l2.take k):Nat)]++ns.drop (k+2)=ns1:=hns1
     have hln:(k≤ns1.length)=True:=by rw[hKl];simp;omega
     have hln1:(k+1+1≤ns1.length)=True:=by rw[hKl];simp;omega
     have hw2:=wrap1 (n:=min (lev (l1.take i) (l2.take k)) (min (lev (l1.take i) (l2.take (k+1))) (lev (l1.take (i+1)) (l2.take k)))) (by have:=lev_le4 hx1 hx2 i k;omega)
     refine go2 (bw22 hl3 he k5 k9 hns1' hb3 hw1 hc5 hc6 hlb hbk hbk1 hlb1 hnk hln hln1 mm3N hw2 Nat.mul_one (n4 hll) hne (n4 hll3)) fnil ?_
     refine⟨by simp only[lo_setVar];omega,by simp only[lo_setVar,len_setVar];omega,(sG (bw3 hb3 (n4 hll) hne)),_,(sR (n4 hll3)),?_⟩
     exact hK.set (by omega) (by rw[hst])
   ·rintro tm3 st3 ⟨hlo3,hwf3,_,ns,hns,hN⟩ hS
    have hl3:tm3.length=71:=by rw[hS.1];simp only[↓reduceIte,go_sem,hl2]
    refine go2 hl3 fnil ?_
    exact⟨hlo3,hwf3,ns,hns,hN⟩
  ·rintro tm2 st2 ⟨hlo2,hwf2,bs,hbs,hB⟩ hS
   have hl2:tm2.length=71:=lN hS hl1;have j1:tg tm2 1=L2:=tQ hS (bw4 hl1 i0 i1 i5);have j5:tg tm2 5 = .ptr st.heap.length 0:=tQ hS (bw4 hl1 i0 i1 i5);clear hS
   have hc5:(l2.length<5)=True:=by simp;omega
   have hle:(l2.length≤bs.length)=True:=by rw[hB.len];simp;omega
   have hbk:=hB.at' l2.length (Nat.le_refl _)
   simp only[List.take_length] at hbk
   refine go2 (bw9 hl2 j1 j5 hs2 hc5 hle hbs hbk Nat.mul_one) fnil ?_
   exact fQ hl2
end Go.Den.Ve
end

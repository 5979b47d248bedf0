/- Part of the proofs of laws of the package version. Texts: TnEnv, TvA, TvB, TvC, TvD, TqA, TqB, TqC, TqD. -/
import Derived.Test.YthnfeimjhibcaaaTBAp
import Derived.Test.YthnfeimjhibcaaaTBAl
import Derived.Test.YthnfeimjhibcaaaTBAm
set_option linter.unusedSimpArgs false
set_option linter.unusedVariables false
section
namespace Go.Den.Tp
def fnT (n:Nat):Option DFunc:=match n with
 | 3=>some den3
 | 4=>some den4
 | 5=>some den5
 | 6=>some den6
 | 7=>some den7
 | 8=>some den8
 | 9=>some den9
 | 10=>some den10
 | 11=>some den11
 | 12=>some den12
 | 13=>some den13
 | 14=>some den14
 | 15=>some den15
 | 16=>some den16
 | 17=>some den17
 | 18=>some den18
 | 19=>some den19
 | 20=>some den20
 | 21=>some den21
 | 22=>some den22
 | 23=>some den23
 | 24=>some den24
 | 25=>some den25
 | 26=>some den26
 | 27=>some den27
 | 28=>some den28
 | 29=>some den29
 | 30=>some den30
 | 31=>some den31
 | 32=>some den32
 | 33=>some den33
 | 34=>some den34
 | 35=>some den35
 | 36=>some den36
 | 37=>some den37
 | 38=>some den38
 | 39=>some den39
 | 40=>some den40
 | 41=>some den41
 | 42=>some den42
 | 43=>some den43
 | 44=>some den44
 | 45=>some den45
 | 46=>some den46
 | 47=>some den47
 | 48=>some den48
 | 49=>some den49
 | 50=>some den50
 | 51=>some den51
 | 52=>some den52
 | 54=>some den54
 | 55=>some den55
 | 56=>some den56
 | 57=>some den57
 | 58=>some den58
 | 59=>some den59
 | 60=>some den60
 | 61=>some den61
 | 62=>some den62
 | 63=>some den63
 | 64=>some den64
 | 65=>some den65
 | 66=>some den66
 | 67=>some den67
 | 68=>some den68
 | 69=>some den69
 | 70=>some den70
 | 71=>some den71
 | 72=>some den72
 | 73=>some den73
 | 74=>some den74
 | 75=>some den75
 | 76=>some den76
 | 77=>some den77
 | 78=>some den78
 | 79=>some den79
 | 80=>some den80
 | 81=>some den81
 | 82=>some den82
 | 83=>some den83
 | 84=>some den84
 | 85=>some den85
 | 86=>some den86
 | 87=>some den87
 | 88=>some den88
 | 89=>some den89
 | 90=>some den90
 | 91=>some den91
 | 92=>some den92
 | 93=>some den93
 | 94=>some den94
 | 95=>some den95
 | 96=>some den96
 | 97=>some den97
 | 98=>some den98
 | 99=>some den99
 | 100=>some den100
 | 101=>some den101
 | 102=>some den102
 | 103=>some den103
 | 104=>some den104
 | 105=>some den105
 | 106=>some den106
 | 108=>some den108
 | 109=>some den109
 | 110=>some den110
 | 111=>some den111
 | 112=>some den112
 | 113=>some den113
 | 114=>some den114
 | 115=>some den115
 | 116=>some den116
 | 117=>some den117
 | 118=>some den118
 | 119=>some den119
 | 120=>some den120
 | 121=>some den121
 | 122=>some den122
 | 123=>some den123
 | 124=>some den124
 | 125=>some den125
 | 126=>some den126
 | 127=>some den127
 | 128=>some den128
 | 129=>some den129
 | 130=>some den130
 | 131=>some den131
 | 132=>some den132
 | 133=>some den133
 | 134=>some den134
 | 135=>some den135
 | 136=>some den136
 | 137=>some den137
 | 138=>some den138
 | 139=>some den139
 | 140=>some den140
 | 141=>some den141
 | _=>none
def zF:PV := .agg [.int .i64 0,.int .i64 0,.int .i64 0]
def tryR (rec:Rec) (d:PV) (st:St):Option (Option (CR×St)):=match rec.call d [] st with
 | some (.ret _,st')=>some (some (.ret (.tuple [zF,.int .i64 0]),st'))
 | some (.panic (.iface t v),st')=>match t,v with
  | 153,.agg [.int .i64 a,.int .i64 b,.int .i64 c]=>some (some (.ret (.tuple [.agg [.int .i64 a,.int .i64 b,.int .i64 c],.int .i64 7]),st'))
  | _,_=>some none
 | _=>some none
def primT (g:Nat) (rec:Rec) (args:List PV) (st:St):Option (Option (CR×St)):=match g with
 | 53=>match args with
  | [.func dg da dc]=>tryR rec (.func dg da dc) st
  | _=>some none
 | _=>none
def EE:Env:={ fn:=fnT,meth:=fun _ _=>none,prim:=primT }
variable (r:Rec) (a:List PV) (s:St)
theorem fn4:EE.fn 4=some den4:=rfl
theorem fn5:EE.fn 5=some den5:=rfl
theorem fn6:EE.fn 6=some den6:=rfl
theorem fn7:EE.fn 7=some den7:=rfl
theorem fn8:EE.fn 8=some den8:=rfl
theorem fn9:EE.fn 9=some den9:=rfl
theorem fn14:EE.fn 14=some den14:=rfl
theorem fn15:EE.fn 15=some den15:=rfl
theorem fn16:EE.fn 16=some den16:=rfl
theorem fn17:EE.fn 17=some den17:=rfl
theorem fn18:EE.fn 18=some den18:=rfl
theorem fn19:EE.fn 19=some den19:=rfl
theorem fn20:EE.fn 20=some den20:=rfl
theorem fn21:EE.fn 21=some den21:=rfl
theorem fn22:EE.fn 22=some den22:=rfl
theorem fn23:EE.fn 23=some den23:=rfl
theorem fn26:EE.fn 26=some den26:=rfl
theorem fn27:EE.fn 27=some den27:=rfl
theorem fn28:EE.fn 28=some den28:=rfl
theorem fn29:EE.fn 29=some den29:=rfl
theorem fn30:EE.fn 30=some den30:=rfl
theorem fn31:EE.fn 31=some den31:=rfl
theorem fn32:EE.fn 32=some den32:=rfl
theorem fn40:EE.fn 40=some den40:=rfl
theorem fn41:EE.fn 41=some den41:=rfl
theorem fn42:EE.fn 42=some den42:=rfl
theorem fn43:EE.fn 43=some den43:=rfl
theorem fn44:EE.fn 44=some den44:=rfl
theorem fn45:EE.fn 45=some den45:=rfl
theorem fn46:EE.fn 46=some den46:=rfl
theorem fn47:EE.fn 47=some den47:=rfl
theorem fn48:EE.fn 48=some den48:=rfl
theorem fn49:EE.fn 49=some den49:=rfl
theorem fn50:EE.fn 50=some den50:=rfl
theorem fn51:EE.fn 51=some den51:=rfl
theorem fn52:EE.fn 52=some den52:=rfl
theorem fn54:EE.fn 54=some den54:=rfl
theorem fn55:EE.fn 55=some den55:=rfl
theorem fn56:EE.fn 56=some den56:=rfl
theorem fn65:EE.fn 65=some den65:=rfl
theorem fn66:EE.fn 66=some den66:=rfl
theorem fn67:EE.fn 67=some den67:=rfl
theorem fn68:EE.fn 68=some den68:=rfl
theorem fn69:EE.fn 69=some den69:=rfl
theorem fn70:EE.fn 70=some den70:=rfl
theorem fn71:EE.fn 71=some den71:=rfl
theorem fn72:EE.fn 72=some den72:=rfl
theorem fn73:EE.fn 73=some den73:=rfl
theorem fn84:EE.fn 84=some den84:=rfl
theorem fn85:EE.fn 85=some den85:=rfl
theorem fn86:EE.fn 86=some den86:=rfl
theorem fn87:EE.fn 87=some den87:=rfl
theorem fn89:EE.fn 89=some den89:=rfl
theorem fn90:EE.fn 90=some den90:=rfl
theorem fn91:EE.fn 91=some den91:=rfl
theorem fn92:EE.fn 92=some den92:=rfl
theorem fn93:EE.fn 93=some den93:=rfl
theorem fn94:EE.fn 94=some den94:=rfl
theorem fn95:EE.fn 95=some den95:=rfl
theorem fn96:EE.fn 96=some den96:=rfl
theorem fn97:EE.fn 97=some den97:=rfl
theorem fn98:EE.fn 98=some den98:=rfl
theorem fn99:EE.fn 99=some den99:=rfl
theorem fn100:EE.fn 100=some den100:=rfl
theorem fn101:EE.fn 101=some den101:=rfl
theorem fn102:EE.fn 102=some den102:=rfl
theorem fn103:EE.fn 103=some den103:=rfl
theorem fn104:EE.fn 104=some den104:=rfl
theorem fn105:EE.fn 105=some den105:=rfl
theorem fn106:EE.fn 106=some den106:=rfl
theorem fn108:EE.fn 108=some den108:=rfl
theorem fn110:EE.fn 110=some den110:=rfl
theorem fn111:EE.fn 111=some den111:=rfl
theorem fn112:EE.fn 112=some den112:=rfl
theorem fn113:EE.fn 113=some den113:=rfl
theorem fn114:EE.fn 114=some den114:=rfl
theorem fn115:EE.fn 115=some den115:=rfl
theorem fn116:EE.fn 116=some den116:=rfl
theorem fn117:EE.fn 117=some den117:=rfl
theorem fn118:EE.fn 118=some den118:=rfl
theorem fn120:EE.fn 120=some den120:=rfl
theorem fn124:EE.fn 124=some den124:=rfl
theorem fn125:EE.fn 125=some den125:=rfl
theorem fn126:EE.fn 126=some den126:=rfl
theorem fn127:EE.fn 127=some den127:=rfl
theorem fn128:EE.fn 128=some den128:=rfl
theorem fn129:EE.fn 129=some den129:=rfl
theorem fn130:EE.fn 130=some den130:=rfl
theorem fn131:EE.fn 131=some den131:=rfl
theorem fn132:EE.fn 132=some den132:=rfl
theorem fn133:EE.fn 133=some den133:=rfl
theorem fn134:EE.fn 134=some den134:=rfl
theorem fn135:EE.fn 135=some den135:=rfl
theorem fn136:EE.fn 136=some den136:=rfl
theorem fn138:EE.fn 138=some den138:=rfl
theorem fn139:EE.fn 139=some den139:=rfl
theorem fn141:EE.fn 141=some den141:=rfl
theorem pr4:EE.prim 4 r a s=none:=rfl
theorem pr5:EE.prim 5 r a s=none:=rfl
theorem pr6:EE.prim 6 r a s=none:=rfl
theorem pr7:EE.prim 7 r a s=none:=rfl
theorem pr8:EE.prim 8 r a s=none:=rfl
theorem pr9:EE.prim 9 r a s=none:=rfl
theorem pr14:EE.prim 14 r a s=none:=rfl
theorem pr15:EE.prim 15 r a s=none:=rfl
theorem pr16:EE.prim 16 r a s=none:=rfl
theorem pr17:EE.prim 17 r a s=none:=rfl
theorem pr18:EE.prim 18 r a s=none:=rfl
theorem pr19:EE.prim 19 r a s=none:=rfl
theorem pr20:EE.prim 20 r a s=none:=rfl
theorem pr21:EE.prim 21 r a s=none:=rfl
theorem pr22:EE.prim 22 r a s=none:=rfl
theorem pr23:EE.prim 23 r a s=none:=rfl
theorem pr26:EE.prim 26 r a s=none:=rfl
theorem pr27:EE.prim 27 r a s=none:=rfl
theorem pr28:EE.prim 28 r a s=none:=rfl
theorem pr29:EE.prim 29 r a s=none:=rfl
theorem pr30:EE.prim 30 r a s=none:=rfl
theorem pr31:EE.prim 31 r a s=none:=rfl
theorem pr32:EE.prim 32 r a s=none:=rfl
theorem pr40:EE.prim 40 r a s=none:=rfl
theorem pr41:EE.prim 41 r a s=none:=rfl
theorem pr42:EE.prim 42 r a s=none:=rfl
theorem pr43:EE.prim 43 r a s=none:=rfl
theorem pr44:EE.prim 44 r a s=none:=rfl
theorem pr45:EE.prim 45 r a s=none:=rfl
theorem pr46:EE.prim 46 r a s=none:=rfl
theorem pr47:EE.prim 47 r a s=none:=rfl
theorem pr48:EE.prim 48 r a s=none:=rfl
theorem pr49:EE.prim 49 r a s=none:=rfl
theorem pr50:EE.prim 50 r a s=none:=rfl
theorem pr51:EE.prim 51 r a s=none:=rfl
theorem pr52:EE.prim 52 r a s=none:=rfl
theorem pr54:EE.prim 54 r a s=none:=rfl
theorem pr55:EE.prim 55 r a s=none:=rfl
theorem pr56:EE.prim 56 r a s=none:=rfl
theorem pr65:EE.prim 65 r a s=none:=rfl
theorem pr66:EE.prim 66 r a s=none:=rfl
theorem pr67:EE.prim 67 r a s=none:=rfl
theorem pr68:EE.prim 68 r a s=none:=rfl
theorem pr69:EE.prim 69 r a s=none:=rfl
theorem pr70:EE.prim 70 r a s=none:=rfl
theorem pr71:EE.prim 71 r a s=none:=rfl
theorem pr72:EE.prim 72 r a s=none:=rfl
theorem pr73:EE.prim 73 r a s=none:=rfl
theorem pr84:EE.prim 84 r a s=none:=rfl
theorem pr85:EE.prim 85 r a s=none:=rfl
theorem pr86:EE.prim 86 r a s=none:=rfl
theorem pr87:EE.prim 87 r a s=none:=rfl
theorem pr89:EE.prim 89 r a s=none:=rfl
theorem pr90:EE.prim 90 r a s=none:=rfl
theorem pr91:EE.prim 91 r a s=none:=rfl
theorem pr92:EE.prim 92 r a s=none:=rfl
theorem pr93:EE.prim 93 r a s=none:=rfl
theorem pr94:EE.prim 94 r a s=none:=rfl
theorem pr95:EE.prim 95 r a s=none:=rfl
theorem pr96:EE.prim 96 r a s=none:=rfl
theorem pr97:EE.prim 97 r a s=none:=rfl
theorem pr98:EE.prim 98 r a s=none:=rfl
theorem pr99:EE.prim 99 r a s=none:=rfl
theorem pr100:EE.prim 100 r a s=none:=rfl
theorem pr101:EE.prim 101 r a s=none:=rfl
theorem pr102:EE.prim 102 r a s=none:=rfl
theorem pr103:EE.prim 103 r a s=none:=rfl
theorem pr104:EE.prim 104 r a s=none:=rfl
theorem pr105:EE.prim 105 r a s=none:=rfl
theorem pr106:EE.prim 106 r a s=none:=rfl
theorem pr108:EE.prim 108 r a s=none:=rfl
theorem pr110:EE.prim 110 r a s=none:=rfl
theorem pr111:EE.prim 111 r a s=none:=rfl
theorem pr112:EE.prim 112 r a s=none:=rfl
theorem pr113:EE.prim 113 r a s=none:=rfl
theorem pr114:EE.prim 114 r a s=none:=rfl
theorem pr115:EE.prim 115 r a s=none:=rfl
theorem pr116:EE.prim 116 r a s=none:=rfl
theorem pr117:EE.prim 117 r a s=none:=rfl
theorem pr118:EE.prim 118 r a s=none:=rfl
theorem pr120:EE.prim 120 r a s=none:=rfl
theorem pr124:EE.prim 124 r a s=none:=rfl
theorem pr125:EE.prim 125 r a s=none:=rfl
theorem pr126:EE.prim 126 r a s=none:=rfl
theorem pr127:EE.prim 127 r a s=none:=rfl
theorem pr128:EE.prim 128 r a s=none:=rfl
theorem pr129:EE.prim 129 r a s=none:=rfl
theorem pr130:EE.prim 130 r a s=none:=rfl
theorem pr131:EE.prim 131 r a s=none:=rfl
theorem pr132:EE.prim 132 r a s=none:=rfl
theorem pr133:EE.prim 133 r a s=none:=rfl
theorem pr134:EE.prim 134 r a s=none:=rfl
theorem pr135:EE.prim 135 r a s=none:=rfl
theorem pr136:EE.prim 136 r a s=none:=rfl
theorem pr138:EE.prim 138 r a s=none:=rfl
theorem pr139:EE.prim 139 r a s=none:=rfl
theorem pr141:EE.prim 141 r a s=none:=rfl
end Go.Den.Tp
end
section
namespace Go.Den.Tq
open Go.Den.Tp Go.Den.Ve
structure LP where
 lost:Bool
 w:PV
 l:List Int
 h:SlOf 1 encI w l
abbrev encLP (x:LP):List PV:=[.bool x.lost,x.w]
structure CP where
 v:PV
 ls:List LP
 h:SlOf 2 encLP v ls
abbrev encCP (c:CP):List PV:=[c.v]
structure BP where
 words:Int
 v:PV
 cs:List CP
 h:SlOf 1 encCP v cs
structure SI where
 v:PV
 l:List Int
 h:SlOf 1 encI v l
abbrev encSI (x:SI):List PV:=[x.v]
abbrev BP.pv (b:BP):PV := .agg [.int .i64 b.words,b.v]
abbrev LP.ln (x:LP):LN:=⟨x.lost,x.l⟩
abbrev CP.c (c:CP):List LN:=c.ls.map LP.ln
abbrev BP.bk (b:BP):BK:=⟨b.words,b.cs.map CP.c⟩
attribute [go_sem] iv encI encLP encCP encSI BP.pv
theorem BP.cells (b:BP):b.v.cells=[b.v]:=b.h.cells
theorem BP.isCell (b:BP):b.v.isCell=true:=b.h.isCell
theorem BP.slen (b:BP):b.v.slen=some b.cs.length:=b.h.slen
theorem CP.cells (c:CP):c.v.cells=[c.v]:=c.h.cells
theorem CP.isCell (c:CP):c.v.isCell=true:=c.h.isCell
theorem CP.slen (c:CP):c.v.slen=some c.ls.length:=c.h.slen
theorem LP.cells (c:LP):c.w.cells=[c.w]:=c.h.cells
theorem LP.isCell (c:LP):c.w.isCell=true:=c.h.isCell
theorem LP.slen (c:LP):c.w.slen=some c.l.length:=c.h.slen
theorem SI.cells (c:SI):c.v.cells=[c.v]:=c.h.cells
theorem SI.isCell (c:SI):c.v.isCell=true:=c.h.isCell
theorem SI.slen (c:SI):c.v.slen=some c.l.length:=c.h.slen
attribute [go_sem] BP.cells BP.isCell BP.slen CP.cells CP.isCell CP.slen LP.cells LP.isCell LP.slen SI.cells SI.isCell SI.slen
theorem idxG {α:Type} {f:Nat} (hp:∀ r a s,EE.prim f r a s=none) (hf:EE.fn f=some den138) (F:PV) (l:List α) (en:α→PV) (hF:SlOf 1 (fun a=>[en a]) F l) (hN:l.length<1000000) (g:Nat) (ga gc:List PV) (p:α→Bool) (st:St) (hg0:∀ st',st'.heap=st.heap→∀ a∈l,Cl EE (.func g ga gc) [en a] st' (.ret (.bool (p a))) st'):Cl EE (.func f [] []) [F,.func g ga gc] st (.ret (iv (idxI p l))) st:=by
 refine cl_fn (hp · _ _) hf 2 rfl (by decide) (fun tm hl hg=>?_);have h0:tg tm 0=F:=(hg 0 (by decide));have h1:tg tm 1 = .func g ga gc:=(hg 1 (by decide));clear hg
 have hs:=hF.slen
 refine go2 (bw4 hl h0 h1 hs) fnil ?_
 refine wp_range l.length [] (fun i vs st'=>st'={ heap:=st.heap,lo:=st.heap.length }∧∀ k (hk:k<i) (hl:k<l.length),p l[k]=false) (by omega) (sG hl) (sG hl) (sG hl) (by decide) ⟨rfl,fun k hk=>absurd hk (by omega)⟩ ?_ ?_
 ·rintro i hi tm1 st1 ⟨rfl,hk⟩ hS hia
  have hl1:tm1.length=19:=by rw [hS.1];simp only [↓reduceIte,go_sem,hl]
  have i0:tg tm1 0=F:=by rw [hS.2 0 (by decide)];simp only [↓reduceIte,go_sem,hl,h0]
  have i1:tg tm1 1 = .func g ga gc:=by rw [hS.2 1 (by decide)];simp only [↓reduceIte,go_sem,hl,h1]
  have hb:=hg0 { heap:=st.heap,lo:=st.heap.length } rfl l[i] (List.getElem_mem hi)
  cases hp:p l[i]
  ·rw [hp] at hb
   refine go2 (bw4 hl1 i0 i1 hia) (bw hb fnil) ?_
   refine ⟨rfl,fun k hk1 hk2=>?_⟩
   by_cases hki:k=i
   ·subst hki;exact hp
   ·exact hk k (by omega) hk2
  ·rw [hp] at hb
   rw [idxI_at hi (fun k hk1=>hk k hk1 (by omega)) hp]
   refine go2 (bw4 hl1 i0 i1 hia) (bw hb fnil) ?_
   exact fQ hl1
 ·rintro tm1 st1 ⟨rfl,hk⟩ hS
  have hl1:tm1.length=19:=by rw [hS.1];simp only [↓reduceIte,go_sem,hl]
  rw [idxI_no (fun k hk1=>hk k hk1 hk1)]
  refine go2 hl1 fnil ?_
  exact fQ hl1
theorem c116 (F:PV) (l:List Int) (hF:SlOf 1 encI F l) (hN:l.length<1000000) (g:Nat) (ga gc:List PV) (p:Int→Bool) (st:St) (hg0:∀ st',st'.heap=st.heap→∀ a∈l,Cl EE (.func g ga gc) [iv a] st' (.ret (.bool (p a))) st'):Cl EE (.func 116 [] []) [F,.func g ga gc] st (.ret (iv (idxI p l))) st:=idxG pr116 fn116 F l iv hF hN g ga gc p st hg0
theorem hasG {α:Type} {f k:Nat} (hp:∀ r a s,EE.prim f r a s=none) (hf:EE.fn f=some ⟨9,[.tmp 4],.seq (.region [⟨.val (.c (.bool false)),some 4,none⟩]) (.seq (.region [⟨.val (.t 0),some 5,none⟩,⟨.val (.t 1),some 6,none⟩,⟨.call (.c (.func k [] [])) [.t 5,.t 6],some 7,none⟩,⟨.binI .geq (.t 7) (.c (.int .i64 0)),some 8,none⟩,⟨.val (.t 8),some 4,none⟩]) .ret)⟩) {F G:PV} {p:α→Bool} {l:List α} (st:St) (hc:∀ st',st'.heap=st.heap→Cl EE (.func k [] []) [F,G] st' (.ret (iv (idxI p l))) st'):Cl EE (.func f [] []) [F,G] st (.ret (.bool (l.any p))) st:=by
 refine cl_fn (hp · _ _) hf 2 rfl (by decide) (fun tm hl hg=>?_);have h0:tg tm 0=F:=(hg 0 (by decide));have h1:tg tm 1=G:=(hg 1 (by decide));clear hg
 rw [← idxI_ge]
 have hc':=hc ⟨st.heap,st.heap.length⟩ rfl
 refine go2 (bw3 hl h0 h1) (bw hc' fnil) ?_
 exact fQ hl
theorem c71 (F:PV) (l:List Int) (hF:SlOf 1 encI F l) (hN:l.length<1000000) (g:Nat) (ga gc:List PV) (p:Int→Bool) (st:St) (hg0:∀ st',st'.heap=st.heap→∀ a∈l,Cl EE (.func g ga gc) [iv a] st' (.ret (.bool (p a))) st'):Cl EE (.func 71 [] []) [F,.func g ga gc] st (.ret (.bool (l.any p))) st:=hasG pr71 fn71 st (fun st1 he=>c116 F l hF hN g ga gc p st1 (fun st' h a ha=>hg0 st' (h.trans he) a ha))
end Go.Den.Tq
end
section
namespace Go.Den.Tq
open Go.Den.Tp Go.Den.Ve
structure OkW (w:Int):Prop where
 lo:1≤w
 hi:w≤3
theorem OkW.wrap {w:Int} (h:OkW w):IntKind.wrap .i64 (w - 1)=w - 1:=wrap_in (by have:=h.lo;have:=h.hi;unfold inI;omega)
structure SmB (b:BP):Prop where
 n:b.cs.length<1000000
 k:∀ c∈b.cs,c.ls.length<1000000
theorem OkB.pos {b:BP} (h:OkB b.bk):0<b.cs.length:=by have:=h.c1;simp at this;omega
end Go.Den.Tq
end
section
namespace Go.Den.Tq
open Go.Den.Tp Go.Den.Ve
def ivR (len sz:Nat) (x i:PV) (st:St):Option OpR:=match x,i with
 | .ptr l o,.int _ i=>if 0≤i∧i<len then some (.val (.ptr l (o+i.toNat*sz)) st) else none
 | _,_=>none
theorem op_indexVar {E:Env} {rec:Rec} {tm:List PV} {st:St} {len sz:Nat} {x i:Opd}:stepOp E rec tm st (.indexVar len sz x i)=ivR len sz (x.ev tm) (i.ev tm) st:=by
 rfl
theorem ivR_p {len sz l o j:Nat} {k:IntKind} {st:St}:ivR len sz (.ptr l o) (.int k (j:Int)) st=if j<len then some (.val (.ptr l (o+j*sz)) st) else none:=by
 simp only [ivR,Int.toNat_natCast]
 congr 1
 simp
theorem ivR_0 {len sz l o:Nat} {k:IntKind} {st:St} (h:0<len):ivR len sz (.ptr l o) (.int k 0) st=some (.val (.ptr l o) st):=by
 simp [ivR,h]
theorem ivR_z {len sz l o:Nat} {k:IntKind} {st:St}:ivR (len+1) sz (.ptr l o) (.int k 0) st=some (.val (.ptr l o) st):=ivR_0 (by omega)
attribute [go_sem] op_indexVar ivR_p ivR_z
structure Row (cs:List PV) (f:Nat→Nat) (n:Nat):Prop where
 len:cs.length=5
 cell:cs.all PV.isCell=true
 at':∀ k,k≤n→(cs.drop k).head? = some (iv (f k))
theorem Row.keep {cs:List PV} {f:Nat→Nat} {n k:Nat} {v:PV} (h:Row cs f n) (hk:n<k) (h5:k<5) (hv:v.isCell=true):Row (cs.take k++[v]++cs.drop (k+1)) f n:=by
 rw [List.append_assoc,List.singleton_append]
 refine ⟨by simp [h.len];omega,?_,fun j hj=>?_⟩
 ·have:=h.cell
  simp only [List.all_append,List.all_cons,hv,Bool.true_and,Bool.and_eq_true,List.all_eq_true] at this ⊢
  exact ⟨fun x hx=>this x (List.mem_of_mem_take hx),fun x hx=>this x (List.mem_of_mem_drop hx)⟩
 ·rw [← h.at' j hj,List.head?_drop,List.head?_drop,List.getElem?_append_left (by simp [h.len];omega),List.getElem?_take,if_pos (by omega)]
theorem Row.set {cs:List PV} {f:Nat→Nat} {n:Nat} {v:PV} (h:Row cs f n) (h5:n+1<5) (hv:v=iv (f (n+1))):Row (cs.take (n+1)++[v]++cs.drop (n+1+1)) f (n+1):=by
 have h1:=h.keep (v:=v) (Nat.lt_succ_self n) h5 (by rw [hv];rfl)
 refine ⟨h1.len,h1.cell,fun j hj=>?_⟩
 by_cases hjn:j≤n
 ·exact h1.at' j hjn
 ·have:j=n+1:=by omega
  subst this
  rw [List.append_assoc,List.singleton_append,List.head?_drop,List.getElem?_append_right (by rw [List.length_take,h.len];omega),hv]
  have:(List.take (n+1) cs).length=n+1:=by rw [List.length_take,h.len];omega
  simp [this]
theorem Row.first {cs:List PV} {f:Nat→Nat} {v:PV} (hl:cs.length=5) (hc:cs.all PV.isCell=true) (hv:v=iv (f 0)):Row (v::cs.drop 1) f 0:=by
 refine ⟨by simp [hl],?_,fun j hj=>?_⟩
 ·simp only [List.all_cons,Bool.and_eq_true,List.all_eq_true] at hc ⊢
  exact ⟨by rw [hv];rfl,fun x hx=>hc x (List.mem_of_mem_drop hx)⟩
 ·have:j=0:=by omega
  subst this
  rw [hv];rfl
theorem Row.congr {cs:List PV} {f g:Nat→Nat} {n:Nat} (h:Row cs f n) (e:∀ k,k≤n→f k=g k):Row cs g n:=⟨h.len,h.cell,fun k hk=>by rw [h.at' k hk,e k hk]⟩
end Go.Den.Tq
end
section
namespace Go.Den.Tq
open Go.Den.Tp Go.Den.Ve
def rcR (agg:Bool) (sz:Nat) (v:PV) (h:List HObj):Option PV:=match v with
 | .ptr l off=>match h[l]? with
  | some (.var cs)=>if off≤cs.length then rdPart agg sz (cs.drop off) else none
  | _=>none
 | _=>none
theorem rdRes_c {tm:List PV} {h:List HObj} {t:Nat} {agg:Bool} {sz:Nat}:rdRes tm h (.cell t agg sz)=rcR agg sz (tg tm t) h:=rfl
theorem rcR_p {agg:Bool} {sz l off:Nat} {st:St}:rcR agg sz (.ptr l off) st.heap=match hp st l with
  | some (.var cs)=>if off≤cs.length then rdPart agg sz (cs.drop off) else none
  | _=>none:=rfl
end Go.Den.Tq
end
section
namespace Go.Den.Tq
open Go.Den.Tp Go.Den.Ve
structure Mv where
 next:Int
 tune:Int
abbrev encM (m:Mv):List PV:=[.int .i64 m.next,.int .i64 m.tune]
structure SP where
 v:PV
 ms:List Mv
 h:SlOf 2 encM v ms
abbrev encSP (s:SP):List PV:=[s.v]
structure VP where
 v:PV
 ss:List SP
 h:SlOf 1 encSP v ss
abbrev encVP (x:VP):List PV:=[x.v]
structure QB where
 cues:Int
 tunes:Int
 v:PV
 vs:List VP
 h:SlOf 1 encVP v vs
abbrev QB.pv (b:QB):PV := .agg [.int .i64 b.cues,.int .i64 b.tunes,b.v]
abbrev VP.pv (x:VP):PV := .agg [x.v]
abbrev plPV (x:VP) (s:Int):PV := .agg [x.v,.int .i64 s]
attribute [go_sem] encM encSP encVP QB.pv VP.pv plPV
theorem QB.cells (b:QB):b.v.cells=[b.v]:=b.h.cells
theorem QB.isCell (b:QB):b.v.isCell=true:=b.h.isCell
theorem QB.slen (b:QB):b.v.slen=some b.vs.length:=b.h.slen
theorem VP.cells (b:VP):b.v.cells=[b.v]:=b.h.cells
theorem VP.isCell (b:VP):b.v.isCell=true:=b.h.isCell
theorem VP.slen (b:VP):b.v.slen=some b.ss.length:=b.h.slen
theorem SP.cells (b:SP):b.v.cells=[b.v]:=b.h.cells
theorem SP.isCell (b:SP):b.v.isCell=true:=b.h.isCell
theorem SP.slen (b:SP):b.v.slen=some b.ms.length:=b.h.slen
attribute [go_sem] QB.cells QB.isCell QB.slen VP.cells VP.isCell VP.slen SP.cells SP.isCell SP.slen
def mvB (tunes n:Int) (m:Mv):Bool:=inN m.next 0 (n - 1)&&inN m.tune 0 (tunes - 1)
def rowB (cues tunes n:Int) (s:SP):Bool:=decide ((s.ms.length:Int)=cues)&&s.ms.all (mvB tunes n)
def verB (cues tunes:Int) (x:VP):Bool:=inN x.ss.length 1 4&&x.ss.all (rowB cues tunes x.ss.length)
def qbB (b:QB):Bool:=inN b.cues 1 4&&(inN b.tunes 1 6&&(inN b.vs.length 1 4&&b.vs.all (verB b.cues b.tunes)))
structure SmQ (b:QB):Prop where
 n:b.vs.length<1000000
 k:∀ x∈b.vs,x.ss.length<1000000
 m:∀ x∈b.vs,∀ s∈x.ss,s.ms.length<1000000
theorem c67 (x lo hi:Int) (st:St):Cl EE (.func 67 [] []) [iv x,iv lo,iv hi] st (.ret (.bool (inN x lo hi))) st:=by
 refine cF3 pr67 fn67 (fun tm hl h0 h1 h2=>?_)
 have e:inN x lo hi=(decide (x≥lo)&&decide (x≤hi)):=rfl
 rw [e]
 cases hd:decide (x≥lo)
 ·refine go2 (bw5 hl h0 h1 h2 hd) fnil ?_
  exact fQ hl
 ·refine go2 (bw5 hl h0 h1 h2 hd) fnil ?_
  exact fQ hl
theorem c111 (F:PV) (l:List VP) (hF:SlOf 1 encVP F l) (hN:l.length<1000000) (g:Nat) (ga gc:List PV) (p:VP→Bool) (st:St) (hg0:∀ st',st'.heap=st.heap→∀ a∈l,Cl EE (.func g ga gc) [a.pv] st' (.ret (.bool (p a))) st'):Cl EE (.func 111 [] []) [F,.func g ga gc] st (.ret (iv (idxI p l))) st:=by
 refine cF2 pr111 fn111 (fun tm hl h0 h1=>?_)
 have hs:=hF.slen
 refine go2 (bw4 hl h0 h1 hs) fnil ?_
 refine wp_range l.length [] (fun i vs st'=>st'={ heap:=st.heap,lo:=st.heap.length }∧∀ k (hk:k<i) (hl:k<l.length),p l[k]=false) (by omega) (sG hl) (sG hl) (sG hl) (by decide) ⟨rfl,fun k hk=>absurd hk (by omega)⟩ ?_ ?_
 ·rintro i hi tm1 st1 ⟨rfl,hk⟩ hS hia
  have hl1:tm1.length=19:=by rw [hS.1];simp only [↓reduceIte,go_sem,hl]
  have i0:tg tm1 0=F:=by rw [hS.2 0 (by decide)];simp only [↓reduceIte,go_sem,hl,h0]
  have i1:tg tm1 1 = .func g ga gc:=by rw [hS.2 1 (by decide)];simp only [↓reduceIte,go_sem,hl,h1]
  have hb:=hg0 { heap:=st.heap,lo:=st.heap.length } rfl l[i] (List.getElem_mem hi)
  cases hp:p l[i]
  ·rw [hp] at hb
   refine go2 (bw4 hl1 i0 i1 hia) (bw hb fnil) ?_
   refine ⟨rfl,fun k hk1 hk2=>?_⟩
   by_cases hki:k=i
   ·subst hki;exact hp
   ·exact hk k (by omega) hk2
  ·rw [hp] at hb
   rw [idxI_at hi (fun k hk1=>hk k hk1 (by omega)) hp]
   refine go2 (bw4 hl1 i0 i1 hia) (bw hb fnil) ?_
   exact fQ hl1
 ·rintro tm1 st1 ⟨rfl,hk⟩ hS
  have hl1:tm1.length=19:=by rw [hS.1];simp only [↓reduceIte,go_sem,hl]
  rw [idxI_no (fun k hk1=>hk k hk1 hk1)]
  refine go2 hl1 fnil ?_
  exact fQ hl1
theorem c68 (F:PV) (l:List VP) (hF:SlOf 1 encVP F l) (hN:l.length<1000000) (g:Nat) (ga gc:List PV) (p:VP→Bool) (st:St) (hg0:∀ st',st'.heap=st.heap→∀ a∈l,Cl EE (.func g ga gc) [a.pv] st' (.ret (.bool (p a))) st'):Cl EE (.func 68 [] []) [F,.func g ga gc] st (.ret (.bool (l.any p))) st:=hasG pr68 fn68 st (fun st1 he=>c111 F l hF hN g ga gc p st1 (fun st' h a ha=>hg0 st' (h.trans he) a ha))
theorem c139 (F:PV) (l:List Mv) (hF:SlOf 2 encM F l) (hN:l.length<1000000) (g:Nat) (ga gc:List PV) (p:Mv→Bool) (st:St) (hg0:∀ st',st'.heap=st.heap→∀ a∈l,Cl EE (.func g ga gc) [.agg (encM a)] st' (.ret (.bool (p a))) st'):Cl EE (.func 139 [] []) [F,.func g ga gc] st (.ret (iv (idxI p l))) st:=by
 refine cF2 pr139 fn139 (fun tm hl h0 h1=>?_)
 have hs:=hF.slen
 refine go2 (bw4 hl h0 h1 hs) fnil ?_
 refine wp_range l.length [] (fun i vs st'=>st'={ heap:=st.heap,lo:=st.heap.length }∧∀ k (hk:k<i) (hl:k<l.length),p l[k]=false) (by omega) (sG hl) (sG hl) (sG hl) (by decide) ⟨rfl,fun k hk=>absurd hk (by omega)⟩ ?_ ?_
 ·rintro i hi tm1 st1 ⟨rfl,hk⟩ hS hia
  have hl1:tm1.length=19:=by rw [hS.1];simp only [↓reduceIte,go_sem,hl]
  have i0:tg tm1 0=F:=by rw [hS.2 0 (by decide)];simp only [↓reduceIte,go_sem,hl,h0]
  have i1:tg tm1 1 = .func g ga gc:=by rw [hS.2 1 (by decide)];simp only [↓reduceIte,go_sem,hl,h1]
  have hb:=hg0 { heap:=st.heap,lo:=st.heap.length } rfl l[i] (List.getElem_mem hi)
  cases hp:p l[i]
  ·rw [hp] at hb
   refine go2 (bw4 hl1 i0 i1 hia) (bw hb fnil) ?_
   refine ⟨rfl,fun k hk1 hk2=>?_⟩
   by_cases hki:k=i
   ·subst hki;exact hp
   ·exact hk k (by omega) hk2
  ·rw [hp] at hb
   rw [idxI_at hi (fun k hk1=>hk k hk1 (by omega)) hp]
   refine go2 (bw4 hl1 i0 i1 hia) (bw hb fnil) ?_
   exact fQ hl1
 ·rintro tm1 st1 ⟨rfl,hk⟩ hS
  have hl1:tm1.length=19:=by rw [hS.1];simp only [↓reduceIte,go_sem,hl]
  rw [idxI_no (fun k hk1=>hk k hk1 hk1)]
  refine go2 hl1 fnil ?_
  exact fQ hl1
theorem c114 (F:PV) (l:List Mv) (hF:SlOf 2 encM F l) (hN:l.length<1000000) (g:Nat) (ga gc:List PV) (p:Mv→Bool) (st:St) (hg0:∀ st',st'.heap=st.heap→∀ a∈l,Cl EE (.func g ga gc) [.agg (encM a)] st' (.ret (.bool (p a))) st'):Cl EE (.func 114 [] []) [F,.func g ga gc] st (.ret (.bool (l.any p))) st:=hasG pr114 fn114 st (fun st1 he=>c139 F l hF hN g ga gc p st1 (fun st' h a ha=>hg0 st' (h.trans he) a ha))
theorem c138 (F:PV) (l:List SP) (hF:SlOf 1 encSP F l) (hN:l.length<1000000) (g:Nat) (ga gc:List PV) (p:SP→Bool) (st:St) (hg0:∀ st',st'.heap=st.heap→∀ a∈l,Cl EE (.func g ga gc) [a.v] st' (.ret (.bool (p a))) st'):Cl EE (.func 138 [] []) [F,.func g ga gc] st (.ret (iv (idxI p l))) st:=idxG pr138 fn138 F l SP.v hF hN g ga gc p st hg0
theorem c112 (F:PV) (l:List SP) (hF:SlOf 1 encSP F l) (hN:l.length<1000000) (g:Nat) (ga gc:List PV) (p:SP→Bool) (st:St) (hg0:∀ st',st'.heap=st.heap→∀ a∈l,Cl EE (.func g ga gc) [a.v] st' (.ret (.bool (p a))) st'):Cl EE (.func 112 [] []) [F,.func g ga gc] st (.ret (.bool (l.any p))) st:=hasG pr112 fn112 st (fun st1 he=>c138 F l hF hN g ga gc p st1 (fun st' h a ha=>hg0 st' (h.trans he) a ha))
theorem wrapM {n:Int} (h0:1≤n) (h:n<1000000):IntKind.wrap .i64 (n - 1)=n - 1:=wrap_in (by unfold inI;omega)
theorem c115 (c t:Int) (V:PV) (hV:V.cells=[V]) (ht:inN t 1 6=true) (x:VP) (hx:inN x.ss.length 1 4=true) (m:Mv) (st:St) (p q:Nat) (hp0:hp st p=some (.var [x.v])) (hq:hp st q=some (.var [iv c,iv t,V])):Cl EE (.func 115 [] [.ptr p 0,.ptr q 0]) [.agg (encM m)] st (.ret (.bool (!mvB t x.ss.length m))) st:=by
 have lp:=hp_lt hp0
 have lq:=hp_lt hq
 simp only [inN,Bool.and_eq_true,decide_eq_true_eq] at ht hx
 have hw1:=wrapM hx.1 (by omega)
 have hw2:=wrapM ht.1 (by omega)
 have hp':hp { heap:=st.heap,lo:=st.heap.length } p=some (.var [x.v]):=hp0
 have hq':hp { heap:=st.heap,lo:=st.heap.length } q=some (.var [iv c,iv t,V]):=hq
 refine cF3 pr115 fn115 (fun tm hl h0 h1 h2=>?_)
 cases hA:inN m.next 0 ((x.ss.length:Int) - 1)
 ·have e:(!mvB t x.ss.length m)=true:=by simp [mvB,hA]
  rw [e]
  refine go2 (bw11 hl h0 h1 h2 hp' hq' hw1 hw2 hA (n4 lp) (n4 lq)) (bw c67 fnil) ?_
  exact fQ hl
 ·have e:(!mvB t x.ss.length m)=!inN m.tune 0 (t - 1):=by simp [mvB,hA]
  rw [e]
  refine go2 (bw11 hl h0 h1 h2 hp' hq' hw1 hw2 hA (n4 lp) (n4 lq)) (bw c67 fnil) ?_
  exact fQ hl
theorem c113 (c t:Int) (V:PV) (hV:V.cells=[V]) (ht:inN t 1 6=true) (x:VP) (hx:inN x.ss.length 1 4=true) (s:SP) (hN:s.ms.length<1000000) (st:St) (p q:Nat) (hp0:hp st p=some (.var [x.v])) (hq:hp st q=some (.var [iv c,iv t,V])):Cl EE (.func 113 [] [.ptr q 0,.ptr p 0]) [s.v] st (.ret (.bool (!rowB c t x.ss.length s))) st:=by
 have lp:=hp_lt hp0
 have lq:=hp_lt hq
 have hq':hp { heap:=st.heap,lo:=st.heap.length } q=some (.var [iv c,iv t,V]):=hq
 refine cF3 pr113 fn113 (fun tm hl h0 h1 h2=>?_)
 cases hA:((s.ms.length:Int) != c)
 ·have hA2:(s.ms.length:Int)=c:=by simpa using hA
  have e:(!rowB c t x.ss.length s)=s.ms.any (fun m=>!mvB t x.ss.length m):=by simp [rowB,hA2,List.all_eq_not_any_not]
  rw [e]
  have hk:=c114 s.v s.ms s.h hN 115 [] [.ptr p 0,.ptr q 0] (fun m=>!mvB t x.ss.length m) ⟨st.heap,st.heap.length⟩ (fun st' he a _=>c115 c t V hV ht x hx a st' p q (by simpa [hp,he] using hp0) (by simpa [hp,he] using hq))
  refine go2 (bw8 hl h0 h1 h2 hq' hA (n4 lp) (n4 lq)) (bw hk fnil) ?_
  exact fQ hl
 ·have hA2:¬ (s.ms.length:Int)=c:=by simpa using hA
  have e:(!rowB c t x.ss.length s)=true:=by simp [rowB,hA2]
  rw [e]
  refine go2 (bw8 hl h0 h1 h2 hq' hA (n4 lp) (n4 lq)) fnil ?_
  exact fQ hl
theorem c70 (b:QB) (ht:inN b.tunes 1 6=true) (x:VP) (hk:x.ss.length<1000000) (hm:∀ s∈x.ss,s.ms.length<1000000) (st:St):Cl EE (.func 70 [] []) [b.pv,x.pv] st (.ret (.bool (verB b.cues b.tunes x))) st:=by
 refine cF2 pr70 fn70 (fun tm hl h0 h1=>?_)
 cases hA:inN (x.ss.length:Int) 1 4
 ·have e:verB b.cues b.tunes x=false:=by simp [verB,hA]
  rw [e]
  refine go2 (bw4 hl h0 h1 hA) (bw c67 fnil) ?_
  exact fQ hl
 ·have e:verB b.cues b.tunes x=!(x.ss.any fun s=>!rowB b.cues b.tunes x.ss.length s):=by simp [verB,hA,List.all_eq_not_any_not]
  rw [e]
  have hk:=c112 x.v x.ss x.h hk 113 [] [.ptr st.heap.length 0,.ptr (st.heap.length+1) 0] (fun s=>!rowB b.cues b.tunes x.ss.length s) ((({ heap:=st.heap,lo:=st.heap.length }:St).push (.var [iv b.cues,iv b.tunes,b.v])).push (.var [x.v])) (fun st' he a ha=>c113 b.cues b.tunes b.v b.cells ht x hA a (hm a ha) st' _ _ (by simp [hp,he,St.push]) (by simp [hp,he,St.push]))
  refine go2 (bw4 hl h0 h1 hA) (bw3 c67 hk fnil) ?_
  exact fQ hl
theorem c69 (b:QB) (ht:inN b.tunes 1 6=true) (hN:SmQ b) (x:VP) (hx:x∈b.vs) (st:St) (a:Nat) (ha:hp st a=some (.var [iv b.cues,iv b.tunes,b.v])):Cl EE (.func 69 [] [.ptr a 0]) [x.pv] st (.ret (.bool (!verB b.cues b.tunes x))) st:=by
 have la:=hp_lt ha
 have ha':hp { heap:=st.heap,lo:=st.heap.length } a=some (.var [iv b.cues,iv b.tunes,b.v]):=ha
 refine cF2 pr69 fn69 (fun tm hl h0 h1=>?_)
 have hk:=fun st=>c70 b ht x (hN.k x hx) (hN.m x hx) st
 refine go2 (bw5 hl h0 h1 ha' (n4 la)) (bw hk fnil) ?_
 exact fQ hl
theorem c28 (b:QB) (hN:SmQ b) (st:St):Cl EE (.func 28 [] []) [b.pv] st (.ret (.bool (qbB b))) st:=by
 unfold qbB
 refine cF1 pr28 fn28 (fun tm hl h0=>?_)
 cases hA:inN b.cues 1 4
 ·refine go2 (bw3 hl h0 hA) (bw c67 fnil) ?_
  exact fQ hl
 cases hC:inN b.tunes 1 6
 ·refine go2 (bw4 hl h0 hA hC) (bw c67 fnil) ?_
  exact fQ hl
 cases hD:inN (b.vs.length:Int) 1 4
 ·refine go2 (bw5 hl h0 hA hC hD) (bw c67 fnil) ?_
  exact fQ hl
 rw [show b.vs.all (verB b.cues b.tunes)=!(b.vs.any fun x=>!verB b.cues b.tunes x) by simp [List.all_eq_not_any_not]]
 have hk:=c68 b.v b.vs b.h hN.n 69 [] [.ptr st.heap.length 0] (fun x=>!verB b.cues b.tunes x) (({ heap:=st.heap,lo:=st.heap.length }:St).push (.var [iv b.cues,iv b.tunes,b.v])) (fun st' he a ha=>c69 b hC hN a ha st' _ (by simp [hp,he,St.push]))
 refine go2 (bw5 hl h0 hA hC hD) (bw3 c67 hk fnil) ?_
 exact fQ hl
theorem wrapL {n:Nat} (h:n<1000000):IntKind.wrap .i64 ((n:Int) - 1)=n - 1:=wrap_in (by unfold inI;omega)
theorem c29 (b:QB) (hN:SmQ b) (n:Int) (st:St):Cl EE (.func 29 [] []) [b.pv,iv n] st (.ret (.bool (inN n 0 (b.vs.length - 1)))) st:=by
 have hw:=wrapL hN.n
 refine cF2 pr29 fn29 (fun tm hl h0 h1=>?_)
 refine go2 (bw4 hl h0 h1 hw) (bw c67 fnil) ?_
 exact fQ hl
def cuesB (b:QB) (l:List Int):Bool:=decide (l.length≤8)&&l.all (fun n=>inN n 0 (b.cues - 1))
def heardB (b:QB) (l:List Int):Bool:=decide (l.length≤8)&&l.all (fun n=>decide (n = -1) || inN n 0 (b.tunes - 1))
theorem c72 (b:QB) (hc:inN b.cues 1 4=true) (n:Int) (st:St) (a:Nat) (ha:hp st a=some (.var [iv b.cues,iv b.tunes,b.v])):Cl EE (.func 72 [] [.ptr a 0]) [iv n] st (.ret (.bool (!inN n 0 (b.cues - 1)))) st:=by
 simp only [inN,Bool.and_eq_true,decide_eq_true_eq] at hc
 have hw:=wrapM hc.1 (by omega)
 have ha':hp { heap:=st.heap,lo:=st.heap.length } a=some (.var [iv b.cues,iv b.tunes,b.v]):=ha
 refine cF2 pr72 fn72 (fun tm hl h0 h1=>?_)
 refine go2 (bw5 hl h0 h1 ha' hw) (bw c67 fnil) ?_
 exact fQ hl
theorem c30 (b:QB) (hc:inN b.cues 1 4=true) (L:PV) (l:List Int) (hL:SlOf 1 encI L l) (st:St):Cl EE (.func 30 [] []) [b.pv,L] st (.ret (.bool (cuesB b l))) st:=by
 have hs:=hL.slen
 refine cF2 pr30 fn30 (fun tm hl h0 h1=>?_)
 by_cases hA:l.length≤8
 ·have e:cuesB b l=!(l.any fun n=>!inN n 0 (b.cues - 1)):=by simp [cuesB,hA,List.all_eq_not_any_not]
  have hA':decide ((l.length:Int)≤8)=true:=by simp;omega
  rw [e]
  have hk:=c71 L l hL (by omega) 72 [] [.ptr st.heap.length 0] (fun n=>!inN n 0 (b.cues - 1)) (({ heap:=st.heap,lo:=st.heap.length }:St).push (.var [iv b.cues,iv b.tunes,b.v])) (fun st' he a _=>c72 b hc a st' _ (by simp [hp,he,St.push]))
  refine go2 (bw5 hl h0 h1 hA' hs) (bw hk fnil) ?_
  exact fQ hl
 ·have e:cuesB b l=false:=by simp [cuesB,hA]
  have hA':decide ((l.length:Int)≤8)=false:=by simp;omega
  rw [e]
  refine go2 (bw5 hl h0 h1 hA' hs) fnil ?_
  exact fQ hl
end Go.Den.Tq
end
section
namespace Go.Den.Tq
open Go.Den.Tp Go.Den.Ve
theorem own_var {m:Nat} {st:St} {sz:Nat} {v:PV} {n l:Nat} {cs y:List PV} {o:HObj} (h:OwnS m st sz v n cs) (hl:hp st l=some (.var y)):OwnS m (setVar st l o) sz v n cs:=h.setVar fun b=>by rw [hl];simp
theorem own_new {m:Nat} {st:St} {sz:Nat} {v:PV} {n:Nat} {cs z y:List PV} (h:OwnS m st sz v n cs):OwnS m (setVar (st.push (.var z)) st.heap.length (.var y)) sz v n cs:=h.push.setVar fun b=>by rw [hp_push,if_pos rfl];simp
theorem finish_slA {st st1:St} {v Z:PV} {n:Nat} {cs:List PV} (hv:v.sl=some (n,cs)) (hZ:notSl Z=true) (hlo:st.heap.length≤st1.lo) (hc:∀ m,lowL m cs=true) (hx:HExt st.heap st1.heap):∃ v',(finishCall st st1 (.tuple [v,Z])).1 = .tuple [v',Z]∧v'.sl=some (n,cs)∧Keep st (finishCall st st1 (.tuple [v,Z])).2:=by
 obtain ⟨v',s,h1,h2,h3⟩:=sl_retag (m:=st.heap.length) (h:=st1.heap) hv hc
 have hf:=sl_freeze (m:=st.heap.length) (h:=st1.heap) hv
 unfold finishCall
 rw [if_pos hlo]
 rcases notSl_retag (m:=st.heap.length) (h:=st1.heap) (s:=s) hZ with h|h
 ·have:letGo st.heap.length st1.heap (.tuple [v,Z])=some (.tuple [v',Z],s.length):=by simp [letGo,freezeL,hf,notSl_freeze hZ,retagL,h1,h]
  rw [this]
  refine ⟨v',rfl,h2,?_,rfl⟩
  match s,h3 with
  | [],_=>simp only [List.length_nil,List.replicate_zero,List.append_nil];exact .refl _
  | [x],_=>exact .push st _
 ·have:letGo st.heap.length st1.heap (.tuple [v,Z])=none:=by simp [letGo,freezeL,hf,notSl_freeze hZ,retagL,h1,h]
  rw [this]
  exact ⟨v,rfl,hv,hx,rfl⟩
theorem finish_keepT {st st1:St} {vs:List PV} (hv:vs.all notSl=true) (hlo:st.heap.length≤st1.lo) (hx:HExt st.heap st1.heap):(finishCall st st1 (.tuple vs)).1 = .tuple vs∧Keep st (finishCall st st1 (.tuple vs)).2:=by
 obtain ⟨h1,h2,h3⟩:=finish_keep hv hlo
 refine ⟨h1,?_,h2⟩
 rcases h3 with h3|h3 <;> rw [h3]
 ·exact .refl _
 ·exact hx
theorem ivR_1 {sz l o:Nat} {k:IntKind} {st:St}:ivR 2 sz (.ptr l o) (.int k 1) st=some (.val (.ptr l (o+sz)) st):=by simp [ivR]
attribute [go_sem] ivR_1
abbrev VP.t (x:VP):List (List Mv):=x.ss.map SP.ms
def mvAt (T:List (List Mv)) (s c:Int):Mv:=(T.getD s.toNat []).getD c.toNat ⟨0,0⟩
def stTo (T:List (List Mv)) (s:Int) (l:List Int):Int:=l.foldl (fun s c=>(mvAt T s c).next) s
def plays (T:List (List Mv)):Int→List Int→List Int
 | _,[]=>[]
 | s,c::l=>(mvAt T s c).tune::plays T (mvAt T s c).next l
theorem stTo_snoc (T:List (List Mv)) (s c:Int) (l:List Int):stTo T s (l++[c])=(mvAt T (stTo T s l) c).next:=by simp [stTo]
theorem plays_snoc (T:List (List Mv)) (c:Int):∀ (l:List Int) (s:Int),plays T s (l++[c])=plays T s l++[(mvAt T (stTo T s l) c).tune]
 | [],s=>rfl
 | d::l,s=>by
  simp only [List.cons_append,plays,plays_snoc T c l]
  rfl
theorem plays_len (T:List (List Mv)):∀ (l:List Int) (s:Int),(plays T s l).length=l.length
 | [],s=>rfl
 | d::l,s=>by simp only [plays,List.length_cons,plays_len T l]
structure At (x:VP) (s c:Int) (m:Mv):Prop where
 s0:0≤s
 s1:s.toNat<x.ss.length
 c0:0≤c
 c1:c.toNat<(x.ss[s.toNat]).ms.length
 e:(x.ss[s.toNat]).ms[c.toNat]=m
structure OkV (cues tunes:Int) (x:VP):Prop where
 n1:1≤x.ss.length
 n4:x.ss.length≤4
 row:∀ s∈x.ss,(s.ms.length:Int)=cues∧∀ m∈s.ms,(0≤m.next∧m.next<x.ss.length)∧0≤m.tune∧m.tune<tunes
theorem okV_iff {cues tunes:Int} {x:VP}:verB cues tunes x=true↔OkV cues tunes x:=by
 simp only [verB,rowB,mvB,inN,Bool.and_eq_true,decide_eq_true_eq,List.all_eq_true]
 constructor
 ·rintro ⟨⟨h1,h4⟩,h⟩
  exact ⟨by omega,by omega,fun s hs=>⟨(h s hs).1,fun m hm=>by have:=(h s hs).2 m hm;omega⟩⟩
 ·rintro ⟨h1,h4,h⟩
  exact ⟨⟨by omega,by omega⟩,fun s hs=>⟨(h s hs).1,fun m hm=>by have:=(h s hs).2 m hm;omega⟩⟩
theorem OkV.at {cues tunes:Int} {x:VP} (h:OkV cues tunes x) {s c:Int} (hs:0≤s∧s<x.ss.length) (hc:0≤c∧c<cues):At x s c (mvAt x.t s c)∧(0≤(mvAt x.t s c).next∧(mvAt x.t s c).next<x.ss.length)∧0≤(mvAt x.t s c).tune∧(mvAt x.t s c).tune<tunes:=by
 have s1:s.toNat<x.ss.length:=by omega
 obtain ⟨hr,hm⟩:=h.row _ (List.getElem_mem s1)
 have c1:c.toNat<(x.ss[s.toNat]).ms.length:=by omega
 have e:(x.ss[s.toNat]).ms[c.toNat]=mvAt x.t s c:=by
  unfold mvAt
  rw [List.getD_eq_getElem?_getD,List.getD_eq_getElem?_getD,List.getElem?_map,List.getElem?_eq_getElem s1]
  simp only [Option.map_some,Option.getD_some]
  rw [List.getElem?_eq_getElem c1,Option.getD_some]
 refine ⟨⟨hs.1,s1,hc.1,c1,e⟩,?_⟩
 have:=hm _ (List.getElem_mem c1)
 rw [e] at this
 exact this
theorem OkV.stTo {cues tunes:Int} {x:VP} (h:OkV cues tunes x) (l:List Int) (hl:∀ c∈l,0≤c∧c<cues):0≤stTo x.t 0 l∧stTo x.t 0 l<x.ss.length:=by
 have:∀ (l:List Int) (s:Int),(∀ c∈l,0≤c∧c<cues)→(0≤s∧s<x.ss.length)→0≤Tq.stTo x.t s l∧Tq.stTo x.t s l<x.ss.length:=by
  intro l
  induction l with
  | nil=>intro s _ h;exact h
  | cons c l ih =>
   intro s hl hs
   exact ih _ (fun d hd=>hl d (by simp [hd])) (h.at hs (hl c (by simp))).2.1
 exact this l 0 hl ⟨by omega,by have:=h.n1;omega⟩
theorem OkV.tunes {cues tunes:Int} {x:VP} (h:OkV cues tunes x) (l:List Int) (hl:∀ c∈l,0≤c∧c<cues):∀ t∈plays x.t 0 l,0≤t∧t<tunes:=by
 have:∀ (l:List Int) (s:Int),(∀ c∈l,0≤c∧c<cues)→(0≤s∧s<x.ss.length)→∀ t∈plays x.t s l,0≤t∧t<tunes:=by
  intro l
  induction l with
  | nil=>intro s _ _ t ht;cases ht
  | cons c l ih =>
   intro s hl hs t ht
   obtain ⟨_,hn,ht0⟩:=h.at hs (hl c (by simp))
   simp only [plays,List.mem_cons] at ht
   rcases ht with rfl|ht
   ·exact ht0
   ·exact ih _ (fun d hd=>hl d (by simp [hd])) hn t ht
 exact this l 0 hl ⟨by omega,by have:=h.n1;omega⟩
theorem c117 (x:VP) (s c:Int) (m:Mv) (h:At x s c m) (st:St):Cl EE (.func 117 [] []) [plPV x s,iv c] st (.ret (iv m.next)) st:=by
 obtain ⟨s0,s1,c0,c1,rfl⟩:=h
 have hx:=x.h
 have hr:=(x.ss[s.toNat]).h
 refine cF2 pr117 fn117 (fun tm hl h0 h1=>?_)
 refine go2 (bw3 hl h0 h1) fnil ?_
 exact fQ hl
theorem c118 (x:VP) (s c:Int) (m:Mv) (h:At x s c m) (st:St):Cl EE (.func 118 [] []) [plPV x s,iv c] st (.ret (iv m.tune)) st:=by
 obtain ⟨s0,s1,c0,c1,rfl⟩:=h
 have hx:=x.h
 have hr:=(x.ss[s.toNat]).h
 refine cF2 pr118 fn118 (fun tm hl h0 h1=>?_)
 refine go2 (bw3 hl h0 h1) fnil ?_
 exact fQ hl
def hv0 (m:Mv):Nat→Int
 | 0=>0
 | _+1=>m.next
def hv1 (m:Mv):Nat→Int
 | 0=>0
 | 1=>0
 | _+2=>m.tune
set_option maxHeartbeats 1000000 in
theorem c73 (x:VP) (s c:Int) (m:Mv) (h:At x s c m) (st:St):ClR EE (.func 73 [] []) [plPV x s,iv c] st (fun v st'=>v = .tuple [plPV x m.next,iv m.tune]∧Keep st st'):=by
 refine cG2 pr73 fn73 (fun tm hl h0 h1=>?_)
 refine go2 (bw3 hl h0 h1) fnil ?_
 refine wp_range 2 [] (fun i vs st'=>st.heap.length≤st'.lo∧st'.lo≤st'.heap.length∧hp st' st.heap.length=some (.var [x.v,iv s])∧hp st' (st.heap.length+1)=some (.var [.nilslice,iv 0])∧hp st' (st.heap.length+1+1)=some (.var [iv (hv0 m i),iv (hv1 m i)])∧HExt st.heap st'.heap) (by omega) (sG hl) (by rfl) (sG hl) (by decide) ⟨by simp [lo_push],by simp [lo_push,len_push];omega,(sG hl),(sG hl),(sR hl),?_⟩ ?_ ?_
 ·exact ((HExt.push ⟨st.heap,st.heap.length⟩ _).trans (.push _ _)).trans (.push _ _)
 ·rintro i hi tm1 st1 ⟨hlo,hwf,hb,hr,ho,hx⟩ hS hia
  have hl1:tm1.length=27:=lN hS hl;have i1:tg tm1 1=iv c:=tQ hS (bw hl h1);have i2:tg tm1 2 = .ptr st.heap.length 0:=tQ hS (bw hl h1);have i6:tg tm1 6 = .ptr (st.heap.length+1+1) 0:=tQ hS (bw hl h1);have i9:tg tm1 9 = .agg [.func 117 [] [],.func 118 [] []]:=tQ hS (bw hl h1);clear hS
  have lb:=hp_lt hb
  have lr:=hp_lt hr
  have lo:=hp_lt ho
  have hi2:i=0∨i=1:=by omega
  rcases hi2 with rfl|rfl
  ·replace hia:tg tm1 10=iv 0:=hia
   have k1:=fun st=>c117 x s c m h st
   refine go2 (bw11 hl1 i1 i2 i6 i9 hia hb ho (n4 lb) (n4 lr) (n4 lo)) (bw k1 fnil) ?_
   refine wops_one (v := .func 117 [] []) rfl (fun rec=>by simp only [↓reduceIte,go_sem,op_indexArr,ev_t,hl1,i9,hia];rfl) ?_
   refine go2 (bw11 hl1 i1 i2 i6 i9 hia hb ho (n4 lb) (n4 lr) (n4 lo)) (bw k1 fnil) ?_
   refine ⟨by simp only [lo_setVar];omega,by simp only [lo_setVar,len_setVar];omega,(sG (bw3 hb (n4 lb) (n4 lo))),(sG (bw3 hr (n4 lr) (n4 lo))),(sR (n4 lo)),hx.setVar (by omega)⟩
  ·replace hia:tg tm1 10=iv 1:=hia
   have k1:=fun st=>c118 x s c m h st
   refine go2 (bw11 hl1 i1 i2 i6 i9 hia hb ho (n4 lb) (n4 lr) (n4 lo)) (bw k1 fnil) ?_
   refine wops_one (v := .func 118 [] []) rfl (fun rec=>by simp only [↓reduceIte,go_sem,op_indexArr,ev_t,hl1,i9,hia];rfl) ?_
   refine go2 (bw11 hl1 i1 i2 i6 i9 hia hb ho (n4 lb) (n4 lr) (n4 lo)) (bw k1 fnil) ?_
   refine ⟨by simp only [lo_setVar];omega,by simp only [lo_setVar,len_setVar];omega,(sG (bw3 hb (n4 lb) (n4 lo))),(sG (bw3 hr (n4 lr) (n4 lo))),(sR (n4 lo)),hx.setVar (by omega)⟩
 ·rintro tm1 st1 ⟨hlo,hwf,hb,hr,ho,hx⟩ hS
  have hl1:tm1.length=27:=lN hS hl;have i2:tg tm1 2 = .ptr st.heap.length 0:=tQ hS hl;have i4:tg tm1 4 = .ptr (st.heap.length+1) 0:=tQ hS hl;have i6:tg tm1 6 = .ptr (st.heap.length+1+1) 0:=tQ hS hl;clear hS
  have lb:=hp_lt hb
  have lr:=hp_lt hr
  have lo:=hp_lt ho
  refine go2 (bw10 hl1 i2 i4 i6 hb hr ho (n4 lb) (n4 lr) (n4 lo)) fnil ?_
  refine fX (.tuple [plPV x m.next,iv m.tune]) (bw5 hl1 i4 hr (n4 lr) (n4 lb)) ?_
  obtain ⟨e1,e2⟩:=finish_keepT (st:=st) (st1:=setVar (setVar st1 st.heap.length (.var [x.v,iv m.next])) (st.heap.length+1) (.var [x.v,iv m.next])) (vs:=[plPV x m.next,iv m.tune]) (by rfl) (by simp only [lo_setVar];omega) ((hx.setVar (by omega)).setVar (by omega))
  exact ⟨e1,e2⟩
end Go.Den.Tq
end
section
namespace Go.Den.Tq
open Go.Den.Tp Go.Den.Ve
theorem plays_take {T:List (List Mv)} {l:List Int} {i:Nat} (hi:i<l.length) (s:Int):plays T s (l.take (i+1))=plays T s (l.take i)++[(mvAt T (stTo T s (l.take i)) l[i]).tune]:=by
 rw [List.take_succ_eq_append_getElem hi,plays_snoc]
theorem stTo_take {T:List (List Mv)} {l:List Int} {i:Nat} (hi:i<l.length) (s:Int):stTo T s (l.take (i+1))=(mvAt T (stTo T s (l.take i)) l[i]).next:=by
 rw [List.take_succ_eq_append_getElem hi,stTo_snoc]
def InC (cues:Int) (l:List Int):Prop:=∀ c∈l,0≤c∧c<cues
theorem InC.take {cues:Int} {l:List Int} (h:InC cues l) (i:Nat):InC cues (l.take i):=fun c hc=>h c (List.mem_of_mem_take hc)
set_option maxHeartbeats 2000000 in
theorem c31 {cues tunes:Int} (x:VP) (hV:OkV cues tunes x) (L:PV) (l:List Int) (hL:SlOf 1 encI L l) (hN:l.length<1000) (hl0:InC cues l) (st:St):ClR EE (.func 31 [] []) [x.pv,L] st (fun v st'=>∃ P,v = .tuple [P,plPV x (stTo x.t 0 l)]∧P.sl=some (l.length,(plays x.t 0 l).flatMap encI)∧Keep st st'):=by
 have hLs:=hL.slen
 refine cG2 pr31 fn31 (fun tm hl h0 h1=>?_)
 refine go2 (bw4 hl h0 h1 hLs) fnil ?_
 refine wp_range l.length [7] (fun i vs st'=>∃ v,vs=[v]∧OwnS st.heap.length st' 1 v i ((plays x.t 0 (l.take i)).flatMap encI)∧st.heap.length≤st'.lo∧st'.lo≤st'.heap.length∧hp st' (st.heap.length+1)=some (.var [.nilslice,iv 0])∧hp st' (st.heap.length+1+1)=some (.var [x.v,iv (stTo x.t 0 (l.take i))])∧HExt st.heap st'.heap) (by omega) (sG hl) (sG hl) (sG hl) (by decide) ⟨_,(sG hl),.nil,by simp [lo_push,lo_setVar],by simp [lo_push,lo_setVar,len_push,len_setVar];omega,(sG hl),(sR hl),?_⟩ ?_ ?_
 ·exact ((((HExt.push ⟨st.heap,st.heap.length⟩ _).trans (.push _ _)).trans (.push _ _)).setVar (by simp only [len_push];omega))
 ·rintro i hi tm1 st1 ⟨v,hv,hO,hlo,hwf,hr,hp0,hx⟩ hS hia
  simp only [List.map_cons,List.map_nil,List.cons.injEq,and_true] at hv
  have hl1:tm1.length=34:=lN hS hl;have i6:tg tm1 6 = .ptr (st.heap.length+1+1) 0:=tQ hS (bw hl h1);have i14:tg tm1 14=L:=tQ hS (bw hl h1);clear hS
  have lr:=hp_lt hr
  have lp:=hp_lt hp0
  obtain ⟨hAt,hnx,htn⟩:=hV.at (hV.stTo _ (hl0.take i)) (hl0 _ (List.getElem_mem hi))
  have hcall:=c73 x _ _ _ hAt st1
  refine go2 (bw6 hl1 i6 i14 hia hp0 (n4 lp)) fnil ?_
  refine cR hl1 (hcall) ?_
  rintro u st2 ⟨rfl,hk⟩
  have hr2:=hk.hp hr
  have hp2:=hk.hp hp0
  have lr2:=hp_lt hr2
  have lp2:=hp_lt hp2
  have hlo2:st2.lo=st1.lo:=hk.2
  have hln:=hk.len
  refine go2 (bw7 hl1 i6 hv hr2 hp2 (n4 lr2) (n4 lp2)) fnil ?_
  have hO2:OwnS st.heap.length st2 1 v i ((plays x.t 0 (l.take i)).flatMap encI):=OwnS.hext hO hk.1
  refine aP (bw hl1 hv) ((own_var (y:=[x.v,iv (stTo x.t 0 (l.take i))]) (own_new hO2) (sG (bw hp2 (n4 lp2)))).push) ?_
  intro v' st3 hO3 hFr hk3
  have hlo3:=hFr.lo
  have hln3:=hFr.len
  have hup3:=hFr.up
  simp only [lo_push,lo_setVar,len_push,len_setVar] at hlo3 hln3 hup3
  refine go2 hl1 fnil ?_
  refine ⟨v',(sG hl1),?_,by omega,by omega,hk3 _ _ (sG (bw3 hr2 (n4 lr2) (n4 lp2))) (by simp),?_,?_⟩
  ·rw [plays_take hi,List.flatMap_append]
   exact hO3
  ·rw [stTo_take hi]
   exact hk3 _ _ (sG (bw3 hp2 (n4 lr2) (n4 lp2))) (by simp)
  ·exact (((((hx.trans hk.1).trans (.push _ _)).setVar (by omega)).setVar (by omega)).trans (.push _ _)).fr hFr
 ·rintro tm1 st1 ⟨v,hv,hO,hlo,hwf,hr,hp0,hx⟩ hS
  simp only [List.map_cons,List.map_nil,List.cons.injEq,and_true,List.take_length] at hv
  rw [List.take_length] at hO hp0
  have hl1:tm1.length=34:=lN hS hl;have i5:tg tm1 5 = .ptr (st.heap.length+1) 0:=tQ hS hl;have i6:tg tm1 6 = .ptr (st.heap.length+1+1) 0:=tQ hS hl;clear hS
  have lr:=hp_lt hr
  have lp:=hp_lt hp0
  refine go2 (bw8 hl1 i5 i6 hv hr hp0 (n4 lr) (n4 lp)) fnil ?_
  refine fX (.tuple [v,plPV x (stTo x.t 0 l)]) (bw4 hl1 i5 hr (n4 lr)) ?_
  obtain ⟨v',e1,e2,e3⟩:=finish_slA (st:=st) (st1:=setVar st1 (st.heap.length+1) (.var [x.v,iv (stTo x.t 0 l)])) (Z:=plPV x (stTo x.t 0 l)) hO.sl (by rfl) (by rw [lo_setVar];omega) (fun m=>ints_low _ m) (hx.setVar (by omega))
  exact ⟨v',e1,e2,e3⟩
def notedB (t h:List Int):Bool:=(List.range h.length).all fun i=>!(decide (0≤h.getD i 0)&&t.getD i 0 != h.getD i 0)
theorem c9 (b:QB) (hN:SmQ b) (hb:qbB b=true) (n:Nat) (hn:n<b.vs.length) (L:PV) (l:List Int) (hL:SlOf 1 encI L l) (h8:l.length≤8) (hl0:InC b.cues l) (st:St):ClR EE (.func 9 [] []) [b.pv,iv n,L] st (fun v st'=>∃ P,v = .tuple [P,iv 0]∧RetW st l.length ((plays (b.vs[n]).t 0 l).flatMap encI) P st'):=by
 have hLc:=hL.cells
 have hLi:=hL.isCell
 have hbh:=b.h
 have hq:=hb
 simp only [qbB,Bool.and_eq_true,List.all_eq_true] at hq
 obtain ⟨hc,ht,hv,hall⟩:=hq
 have hV:=okV_iff.1 (hall _ (List.getElem_mem hn))
 have k28:=fun st=>c28 b hN st
 have k29:=fun st=>c29 b hN n st
 have k30:=fun st=>c30 b hc L l hL st
 have hB:inN (n:Int) 0 ((b.vs.length:Int) - 1)=true:=by simp only [inN,Bool.and_eq_true,decide_eq_true_eq];omega
 have hC:cuesB b l=true:=by
  simp only [cuesB,Bool.and_eq_true,decide_eq_true_eq,List.all_eq_true,inN]
  exact ⟨h8,fun c hc=>by have:=hl0 c hc;omega⟩
 refine cG3 pr9 fn9 (fun tm hl h0 h1 h2=>?_)
 refine go2 (bw7 hl h0 h1 h2 hb hB hC) (bw4 k28 k29 k30 fnil) ?_
 have hcall:=fun st=>c31 b.vs[n] hV L l hL (by omega) hl0 st
 refine cR (bw3 hl h1 h2) (hcall _) ?_
 rintro u st2 ⟨P,rfl,hP,hk⟩
 have hlo2:st2.lo=st.heap.length:=hk.2
 refine go2 hl fnil ?_
 refine fX (.tuple [P,iv 0]) hl ?_
 have:=finish_slT (st:=st) (st1:=setVar (st2.push (.var [.nilslice,iv 0])) st2.heap.length (.var [(b.vs[n]).v,iv (stTo (b.vs[n]).t 0 l)])) (vs:=[iv 0]) hP (by rfl) (by simp only [lo_setVar,lo_push];have:=hk.len;simp only [len_push] at this;omega) (fun m=>ints_low _ m)
 exact this
end Go.Den.Tq
end
section
namespace Go.Den.Tq
open Go.Den.Tp Go.Den.Ve
theorem c22 (x lo hi:Int) (st:St):Cl EE (.func 22 [] []) [iv x,iv lo,iv hi] st (.ret (.bool (inN x lo hi))) st:=by
 refine cF3 pr22 fn22 (fun tm hl h0 h1 h2=>?_)
 have e:inN x lo hi=(decide (x≥lo)&&decide (x≤hi)):=rfl
 rw [e]
 cases hd:decide (x≥lo)
 ·refine go2 (bw5 hl h0 h1 h2 hd) fnil ?_
  exact fQ hl
 ·refine go2 (bw5 hl h0 h1 h2 hd) fnil ?_
  exact fQ hl
theorem c56 (b:QB) (hc:inN b.cues 1 4=true) (n:Int) (st:St):Cl EE (.func 56 [] []) [b.pv,iv n] st (.ret (.bool (inN n 0 (b.cues - 1)))) st:=by
 simp only [inN,Bool.and_eq_true,decide_eq_true_eq] at hc
 have hw:=wrapM hc.1 (by omega)
 refine cF2 pr56 fn56 (fun tm hl h0 h1=>?_)
 refine go2 (bw4 hl h0 h1 hw) (bw c22 fnil) ?_
 exact fQ hl
theorem c32 (b:QB) (ht:inN b.tunes 1 6=true) (n:Int) (st:St):Cl EE (.func 32 [] []) [b.pv,iv n] st (.ret (.bool (inN n 0 (b.tunes - 1)))) st:=by
 simp only [inN,Bool.and_eq_true,decide_eq_true_eq] at ht
 have hw:=wrapM ht.1 (by omega)
 refine cF2 pr32 fn32 (fun tm hl h0 h1=>?_)
 refine go2 (bw4 hl h0 h1 hw) (bw c22 fnil) ?_
 exact fQ hl
theorem c6 (b:QB) (hN:SmQ b) (n:Int) (st:St):Cl EE (.func 6 [] []) [b.pv,iv n] st (.ret (.bool (inN n 0 (b.vs.length - 1)))) st:=by
 have hw:=wrapL hN.n
 refine cF2 pr6 fn6 (fun tm hl h0 h1=>?_)
 refine go2 (bw4 hl h0 h1 hw) (bw c22 fnil) ?_
 exact fQ hl
theorem wrapS {n:Nat} (h:n<1000000):IntKind.wrap .i64 ((n:Int)+1)=((n+1:Nat):Int):=wrap_nat (n:=n+1) (by omega)
set_option maxHeartbeats 2000000 in
theorem c55 (b:QB) (ht:inN b.tunes 1 6=true) (x:VP) (hk:x.ss.length<1000000) (hm:∀ s∈x.ss,s.ms.length<1000000) (st:St):Cl EE (.func 55 [] []) [b.pv,x.pv] st (.ret (.bool (verB b.cues b.tunes x))) st:=by
 have hxh:=x.h
 have hw0:=wrapL hk
 have k32:=fun (n:Int) st=>c32 b ht n st
 refine cF2 pr55 fn55 (fun tm hl h0 h1=>?_)
 refine go2 (bw3 hl h0 h1) fnil ?_
 refine wp_for [5] (fun i vs s=>vs=[iv i]∧i≤x.ss.length∧(∀ k,∀ hk:k<x.ss.length,k<i→rowB b.cues b.tunes x.ss.length x.ss[k]=true)∧st.heap.length≤s.lo∧s.lo≤s.heap.length∧hp s st.heap.length=some (.var [iv b.cues,iv b.tunes,b.v])∧hp s (st.heap.length+1)=some (.var [x.v])) (fun i=>x.ss.length - i) ⟨(sR hl),Nat.zero_le _,fun k _ hk=>absurd hk (by omega),by simp [lo_push],by simp [lo_push,len_push];omega,(sG hl),(sG hl)⟩ ?_
 rintro i tm1 st1 ⟨hv,hi,hno,hlo,hwf,hb,hxv⟩ hS
 simp only [List.map_cons,List.map_nil,List.cons.injEq,and_true] at hv
 have hl1:tm1.length=61:=lN hS hl;have i2:tg tm1 2 = .ptr st.heap.length 0:=tQ hS (bw3 hl h0 h1);have i3:tg tm1 3 = .ptr (st.heap.length+1) 0:=tQ hS (bw3 hl h0 h1);clear hS
 have lb:=hp_lt hb
 have lx:=hp_lt hxv
 refine go2 (bw8 hl1 hv i2 i3 hb hxv (n4 lb) (n4 lx)) fnil ?_
 refine ⟨decide ((i:Int)<x.ss.length),(sG hl1),fun hd=>?_,fun hd=>?_⟩
 ·have hdf:=of_decide_eq_false hd
  have hin:i=x.ss.length:=by omega
  have e:verB b.cues b.tunes x=inN x.ss.length 1 4:=by
   unfold verB
   have:x.ss.all (rowB b.cues b.tunes x.ss.length)=true:=by
    rw [List.all_eq_true]
    intro s hs
    obtain ⟨k,hk,rfl⟩:=List.getElem_of_mem hs
    exact hno k hk (by omega)
   rw [this,Bool.and_true]
  rw [e]
  refine go2 (bw7 hl1 i2 i3 hb hxv (n4 lb) (n4 lx)) (bw c22 fnil) ?_
  exact fQ hl1
 ·have hlt:i<x.ss.length:=by have:=of_decide_eq_true hd;omega
  have hw1:=wrapS (n:=i) (by omega)
  have hsh:=(x.ss[i]).h
  have hsN:=hm _ (List.getElem_mem hlt)
  have hstop:rowB b.cues b.tunes x.ss.length x.ss[i]=false→verB b.cues b.tunes x=false:=by
   intro h
   unfold verB
   have:x.ss.all (rowB b.cues b.tunes x.ss.length)=false:=by
    rw [List.all_eq_false]
    exact ⟨_,List.getElem_mem hlt,by rw [h];simp⟩
   rw [this,Bool.and_false]
  refine ⟨by omega,?_⟩
  cases hA:(((x.ss[i]).ms.length:Int) != b.cues)
  ·have hA2:((x.ss[i]).ms.length:Int)=b.cues:=by simpa using hA
   refine go2 (bw9 hl1 hv i2 i3 hb hxv hA (n4 lb) (n4 lx)) fnil ?_
   refine wp_for [6] (fun k vs s=>vs=[iv k]∧k≤(x.ss[i]).ms.length∧(∀ j,∀ hj:j<(x.ss[i]).ms.length,j<k→mvB b.tunes x.ss.length (x.ss[i]).ms[j]=true)∧st.heap.length≤s.lo∧s.lo≤s.heap.length∧hp s st.heap.length=some (.var [iv b.cues,iv b.tunes,b.v])∧hp s (st.heap.length+1)=some (.var [x.v])) (fun k=>(x.ss[i]).ms.length - k) ⟨(sR hl1),Nat.zero_le _,fun k _ hk=>absurd hk (by omega),hlo,hwf,hb,hxv⟩ ?_
   clear hb hxv hlo hwf lb lx
   rintro k tm2 st2 ⟨hv2,hk2,hno2,hlo,hwf,hb,hxv⟩ hS
   simp only [List.map_cons,List.map_nil,List.cons.injEq,and_true] at hv2
   have hl2:tm2.length=61:=lN hS hl1;have j2:tg tm2 2 = .ptr st.heap.length 0:=tQ hS (bw4 hl1 i2 i3 hv);have j3:tg tm2 3 = .ptr (st.heap.length+1) 0:=tQ hS (bw4 hl1 i2 i3 hv);have j5:tg tm2 5=iv i:=tQ hS (bw4 hl1 i2 i3 hv);clear hS
   have lb:=hp_lt hb
   have lx:=hp_lt hxv
   refine go2 (bw9 hl2 hv2 j2 j3 j5 hb hxv (n4 lb) (n4 lx)) fnil ?_
   refine ⟨decide ((k:Int)<(x.ss[i]).ms.length),(sG hl2),fun hd=>?_,fun hd=>?_⟩
   ·have hdf:=of_decide_eq_false hd
    have hkn:k=(x.ss[i]).ms.length:=by omega
    refine go2 (bw3 hl2 j5 hw1) fnil ?_
    refine ⟨(sG hl2),by omega,?_,hlo,hwf,hb,hxv⟩
    intro j hj hji
    by_cases hje:j=i
    ·subst hje
     unfold rowB
     rw [Bool.and_eq_true,decide_eq_true_eq,List.all_eq_true]
     refine ⟨hA2,fun m hm=>?_⟩
     obtain ⟨q,hq,rfl⟩:=List.getElem_of_mem hm
     exact hno2 q hq (by omega)
    ·exact hno j hj (by omega)
   ·have hlt2:k<(x.ss[i]).ms.length:=by have:=of_decide_eq_true hd;omega
    have hw2:=wrapS (n:=k) (by omega)
    have hstop2:mvB b.tunes x.ss.length (x.ss[i]).ms[k]=false→verB b.cues b.tunes x=false:=by
     intro h
     refine hstop ?_
     unfold rowB
     have:(x.ss[i]).ms.all (mvB b.tunes x.ss.length)=false:=by
      rw [List.all_eq_false]
      exact ⟨_,List.getElem_mem hlt2,by rw [h];simp⟩
     rw [this,Bool.and_false]
    refine ⟨by omega,?_⟩
    cases hB:inN ((x.ss[i]).ms[k]).next 0 ((x.ss.length:Int) - 1)
    ·rw [hstop2 (by unfold mvB;rw [hB];rfl)]
     refine go2 (bw11 hl2 hv2 j2 j3 j5 hb hxv hw0 hB (n4 lb) (n4 lx)) (bw c22 fnil) ?_
     exact fQ hl2
    ·cases hC:inN ((x.ss[i]).ms[k]).tune 0 (b.tunes - 1)
     ·rw [hstop2 (by unfold mvB;rw [hC,Bool.and_false])]
      refine go2 (bw12 hl2 hv2 j2 j3 j5 hb hxv hw0 hB hC (n4 lb) (n4 lx)) (bw3 c22 k32 fnil) ?_
      exact fQ hl2
     ·refine go2 (bw13 hl2 hv2 j2 j3 j5 hb hxv hw0 hw2 hB hC (n4 lb) (n4 lx)) (bw3 c22 k32 fnil) ?_
      refine ⟨(sG hl2),by omega,?_,by simp only [lo_push,lo_setVar];omega,by simp only [lo_push,lo_setVar,len_push,len_setVar];omega,(sG (bw hb (n4 lb))),(sG (bw hxv (n4 lx)))⟩
      intro j hj hjk
      by_cases hje:j=k
      ·subst hje;unfold mvB;rw [hB,hC];rfl
      ·exact hno2 j hj (by omega)
  ·have hA2:¬ ((x.ss[i]).ms.length:Int)=b.cues:=by simpa using hA
   rw [hstop (by unfold rowB;rw [decide_eq_false hA2,Bool.false_and])]
   refine go2 (bw9 hl1 hv i2 i3 hb hxv hA (n4 lb) (n4 lx)) fnil ?_
   exact fQ hl1
theorem c21 (b:QB) (hN:SmQ b) (st:St):Cl EE (.func 21 [] []) [b.pv] st (.ret (.bool (qbB b))) st:=by
 have hbh:=b.h
 unfold qbB
 refine cF1 pr21 fn21 (fun tm hl h0=>?_)
 cases hA:inN b.cues 1 4
 ·refine go2 (bw3 hl h0 hA) (bw c22 fnil) ?_
  exact fQ hl
 cases hC:inN b.tunes 1 6
 ·refine go2 (bw4 hl h0 hA hC) (bw c22 fnil) ?_
  exact fQ hl
 cases hD:inN (b.vs.length:Int) 1 4
 ·refine go2 (bw5 hl h0 hA hC hD) (bw c22 fnil) ?_
  exact fQ hl
 simp only [Bool.true_and]
 refine go2 (bw5 hl h0 hA hC hD) (bw c22 fnil) ?_
 refine wp_for [3] (fun i vs s=>vs=[iv i]∧i≤b.vs.length∧(∀ k,∀ hk:k<b.vs.length,k<i→verB b.cues b.tunes b.vs[k]=true)∧s=({ heap:=st.heap,lo:=st.heap.length }:St).push (.var [iv b.cues,iv b.tunes,b.v])) (fun i=>b.vs.length - i) ⟨(sR hl),Nat.zero_le _,fun k _ hk=>absurd hk (by omega),rfl⟩ ?_
 rintro i tm1 st1 ⟨hv,hi,hno,rfl⟩ hS
 simp only [List.map_cons,List.map_nil,List.cons.injEq,and_true] at hv
 have hl1:tm1.length=36:=lN hS hl;have i1:tg tm1 1 = .ptr st.heap.length 0:=tQ hS (bw hl h0);clear hS
 refine go2 (bw3 hl1 hv i1) fnil ?_
 refine ⟨decide ((i:Int)<b.vs.length),(sG hl1),fun hd=>?_,fun hd=>?_⟩
 ·have hdf:=of_decide_eq_false hd
  have e:b.vs.all (verB b.cues b.tunes)=true:=by
   rw [List.all_eq_true]
   intro s hs
   obtain ⟨k,hk,rfl⟩:=List.getElem_of_mem hs
   exact hno k hk (by omega)
  rw [e]
  refine go2 hl1 fnil ?_
  exact fQ hl1
 ·have hlt:i<b.vs.length:=by have:=of_decide_eq_true hd;omega
  have hNn:=hN.n
  have hw1:=wrapS (n:=i) (by omega)
  have hk:=fun st=>c55 b hC b.vs[i] (hN.k _ (List.getElem_mem hlt)) (hN.m _ (List.getElem_mem hlt)) st
  refine ⟨by omega,?_⟩
  cases hV:verB b.cues b.tunes b.vs[i]
  ·have e:b.vs.all (verB b.cues b.tunes)=false:=by
    rw [List.all_eq_false]
    exact ⟨_,List.getElem_mem hlt,by rw [hV];simp⟩
   rw [e]
   refine go2 (bw4 hl1 hv i1 hV) (bw hk fnil) ?_
   exact fQ hl1
  ·refine go2 (bw5 hl1 hv i1 hw1 hV) (bw hk fnil) ?_
   refine ⟨(sG hl1),by omega,?_,rfl⟩
   intro j hj hji
   by_cases hje:j=i
   ·subst hje;exact hV
   ·exact hno j hj (by omega)
end Go.Den.Tq
end

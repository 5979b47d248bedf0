/- Part of the proofs of laws of the package version. Texts: VnRow, VnIn, VwA, VwE, VwF, VwG, VwB, VwC, VwD, VwH, VwK, VwL, VwM, VxA, VxK. -/
import Derived.Test.YtehdcjbdhkkipaaGreatDoorVMBa
import Derived.Test.YtehdcjbdhkkipaaGreatDoorRows
import Derived.ProofKit
import Derived.LaidMore
import Derived.OpenShut
import Derived.Stop.Joined
import Derived.HandedShaped
import Derived.Lay
import Derived.LaidHandle
import Derived.Carry
import Derived.Test.YtehdcjbdhkkipaaGreatDoorVMAz
import Derived.Test.YtehdcjbdhkkipaaGreatDoorVMAu
set_option linter.unusedSimpArgs false
set_option linter.unusedVariables false
section
namespace Go.Proofs.YtehdcjbdhkkipaaGreatDoor
open Go.ChangeShapes Go.WideShapes Go.ChangeAt Go.WideMaps Go.WideElems Go.RowKit
set_option maxRecDepth 100000
theorem ownKnob0:ownKnob Tryz.prog.godebug=none:=by kernel_rfl
theorem laidOut0:laidOutB Tryz.prog=true:=by kernel_rfl
theorem maxLen_cell{W:World}(h:W.ShapedOpen Tryz.prog):∃ m,1<W.heap.size∧W.cell? ⟨1,0,none⟩=some (.int .i64 m):=by
 obtain⟨m,hm⟩:=cell_of_shapedOpen_int (g:=1) (t:=3) (zero:=#[.int .i64 0]) (k := .i64) h (of_decide_eq_true (by kernel_rfl)) (by kernel_rfl) rfl (by kernel_rfl) (by kernel_rfl) Tryz.underlying3
 refine⟨m,?_,hm⟩
 unfold World.cell? at hm
 split at hm
 ·rename_i hh
  exact (Array.getElem?_eq_some_iff.1 hh).1
 ·cases hm
theorem returns_law{H:Type}{enc:TypeId×Value→H}{a:Assume}{C:Checked}{os:Os}{f:FuncId}{fn:Func}{s:ChangeSpec}{conds:List PathCond}{apart fresh handsOn again:Bool}{X:World→Array Value→Prop}
  (hX:∀ (w w':World) (args:Array Value),w.heap=w'.heap→X w args→X w' args)
  (own:ownKnob C.prog.godebug=none) (started:os.Started) (noInit:C.prog.inits.idxOf? f=none) (hfn:C.prog.funcs[f]? = some fn)
  (witness:∃ (w:World) (tape:Tape) (i:Input),w.os=os∧(w.forCall tape i).Shaped C.prog∧i.vars=[]∧Input.okWide C.prog (w.forCall tape i) .any w.heap.size f i ∧
   ((s.pre enc C.prog fn conds apart (w.forCall tape i).memory i.args∧X (w.forCall tape i).memory i.args)∧sizedMet enc C.prog fn (OpenSpec.ofChange s) apart (w.forCall tape i).memory i.args)∧a.holds C.prog (lone (Frame.enter C.prog f i.args .normal) [] (w.forCall tape i)))
  (contract:∀ (W:World) (base:Nat) (args:Array Value) (ds gs:List (DataW H)) (before:List MemPlace),
   (∀ (j:Nat) t v,fn.params[j]? = some t→args[j]? = some v→Value.okWide C.prog W .any base t v) →
   DataW.Whole enc C.prog fn.params.toList s.vars apart W args.toList ds gs before →
   W.ShapedOpen C.prog →
   Calls C.prog f args W fun e W'=>∃ v,e = .returned v∧s.post enc C.prog fn apart fresh handsOn again W args v W') :
  ReturnsInHanded a C os f .any (fun w args=>(s.pre enc C.prog fn conds apart w args∧X w args)∧sizedMet enc C.prog fn (OpenSpec.ofChange s) apart w args) (s.post enc C.prog fn apart fresh handsOn again):=by
 refine returnsInHanded_of_calls own started noInit witness ?_
 intro w tape i _ hsh _ hok hpre _
 obtain⟨_,_,_,fn',hfn',_,_,_,_,hval⟩:=hok
 have e:fn'=fn:=Option.some.inj (hfn'.symm.trans hfn)
 subst e
 obtain⟨⟨⟨ds,gs,before,hw,_⟩,_⟩,_⟩:=hpre
 have hw':=DataW.Whole.of_heap (w':=w.forCall tape i) (by rfl) hw
 refine (contract (w.forCall tape i) w.heap.size i.args ds gs before hval hw' hsh).mono fun e W' ⟨v,he,hp⟩=>?_
 subst he
 exact ChangeSpec.post_blind hp
theorem trodAll_grown{H:Type}{enc:TypeId×Value→H}{W W':World}(hb:Below W.heap.size W W'):∀ {ts:List TypeId} {vs:List Value} {ds:List (DataW H)} {ps:List MemPlace},(∀ t∈ts,Tryz.prog.readableRec t=true∧t<Tryz.prog.types.size)→DataW.TrodAll enc Tryz.prog W 0 (fun _=>true) true ts vs ds ps→(∀ x∈ps,x.block<W.heap.size)→DataW.TrodAll enc Tryz.prog W' 0 (fun b=>decide (b<W.heap.size)) true ts vs ds ps
 | [],vs,ds,ps,_,h,_=>by
  obtain⟨rfl,rfl,rfl⟩:=trodAll_nil h
  rfl
 | t::ts,vs,ds,ps,hr,h,hl=>by
  obtain⟨v,vs',d,ds',p,q,rfl,rfl,rfl,h1,h2⟩:=trodAll_cons h
  have h0:=hr t (by simp)
  exact⟨p,q,Below.trod laidOut0 h0.1 h0.2 h1 hb (fun x hx=>hl x (by simp[hx])),trodAll_grown hb (fun t ht=>hr t (by simp[ht])) h2 (fun x hx=>hl x (by simp[hx])),rfl⟩
theorem keptBut_grown{W W':World}{may:MemPlace→Prop}(h:∀ b,b<W.heap.size→W'.heap[b]? = W.heap[b]?)(ho:W'.os=W.os∧W'.output=W.output):W.keptBut W' may:=by
 refine⟨ho.1,ho.2,fun i hi=>?_⟩
 rw[h i hi]
 split
 ·rename_i h1 h2
  rw[h1] at h2
  cases h2
  exact⟨rfl,rfl,rfl,fun _ _=>rfl⟩
 ·rename_i h1 h2
  rw[h1] at h2
  cases h2
  exact .inr ⟨rfl,rfl⟩
 ·rfl
theorem post_true{H:Type}{enc:TypeId×Value→H}{fn:Func}{s:ChangeSpec}{W W':World}{args:Array Value}{ds:List (DataW H)}{before:List MemPlace}
  (hvars:s.vars=[]) (hW:DataW.Whole enc Tryz.prog fn.params.toList s.vars false W args.toList ds [] before) (hres:fn.resultTypes=#[4]) (hfn:s.fn H (ds++[])={ results:=[.lit (.bool true)],args:=ds })
  (hr:∀ t∈fn.params.toList,Tryz.prog.readableRec t=true∧t<Tryz.prog.types.size)
  (hs:W.heap.size≤W'.heap.size) (hb:∀ b,b<W.heap.size→W'.heap[b]? = W.heap[b]?) (ho:W'.os=W.os∧W'.output=W.output) :
  s.post enc Tryz.prog fn false true false false W args (.bool true) W':=by
 have hW0:=hW
 obtain⟨p,q,hA,hV,rfl,_,_⟩:=hW
 rw[hvars] at hV
 obtain⟨_,rfl⟩:([]:List (DataW H))=[]∧q=[]:=by
  cases q with
  | nil=>exact⟨rfl,rfl⟩
  | cons x q=>simp[DataW.TrodVars] at hV
 have hlt:∀ x∈p,x.block<W.heap.size:=fun x hx=>by simpa using hW0.lt x (by simp[hx])
 have ha:({ W' with tape:=W.tape }:World).Alike W':=⟨rfl,rfl,rfl⟩
 have hbl:Below W.heap.size W { W' with tape:=W.tape }:=⟨ho.1,rfl,ho.2,hs,hb⟩
 have hT:=trodAll_grown hbl hr hA hlt
 have hT':DataW.TrodAll enc Tryz.prog W' 0 (fun b=>decide (b<W.heap.size)) true fn.params.toList args.toList ds p:=DataW.TrodAll.of_heap (show ({ W' with tape:=W.tape }:World).heap=W'.heap from rfl) hT
 refine⟨ds,[],p++[],[],p,[],hW0,?_,?_,?_,keptBut_grown hb ho,fun h=>by cases h⟩
 ·rw[hfn,hres]
  exact trodAll_mk1 (shut_bool Tryz.underlying4 _)
 ·rw[hfn];exact hT'
 ·rw[hfn,hvars];rfl
end Go.Proofs.YtehdcjbdhkkipaaGreatDoor
end
section
namespace Go.Den.Ve
set_option maxRecDepth 100000
open Go.Proofs Go.ChangeShapes Go.WideShapes
section
variable{H:Type}{enc:TypeId×Value→H}{W:World}{base fuel:Nat}{d:DataW H}{ps:List MemPlace}
theorem cells_get{a:Addr}{k:Nat}{cs:List Value}(h:W.cells? 0 a k=some cs):cs.length=k∧∀ (j:Nat) (v:Value),cs[j]? = some v→W.cell? (a.add j)=some v:=by
 unfold World.cells? at h
 simp only[Nat.zero_le,if_true] at h
 have hl:=mapM_some_length h
 rw[List.length_range] at hl
 refine⟨hl,fun j v hj=>?_⟩
 have hjl:=(List.getElem?_eq_some_iff.1 hj).1
 have:=mapM_some_get h j j (by rw[List.getElem?_range (by omega)])
 rw[this,hj]
theorem add_spot{a:Addr}{v:Value}(h:W.cell? ((a.add 0).add 0)=some v):a.spot=none:=by
 have:=World.cell?_spot h
 simpa[Addr.add] using this
theorem in_slice{α:Type}{en:α→List PV}{t e:TypeId}{k:Nat}(hu:Tryz.prog.underlying t=some (.slice e))(hk:Tryz.prog.cellsOf e=k)(hk1:0<k)(hen:∀ a,(en a).length=k)
  (hel:∀ (n:Nat) (cs:List Value) (y:DataW H×List MemPlace),DataW.trod enc Tryz.prog W 0 (fun _=>true) true n e cs=some y→∃ a:α,VRL (gh0 W) W (en a) cs)
  {v:Value} {x:DataW H×List MemPlace} (h:DataW.trod enc Tryz.prog W 0 (fun _=>true) true fuel t [v]=some x):∃ F l,VR (gh0 W) W F v∧SlOf k en F l:=by
 rcases DataW.trod_slice hu h with ⟨hv,_⟩|⟨a,len,cap,elems,rest,n,_,hv,_,_,hl,_,hlen,hel',hrest,_⟩
 ·simp at hv
  subst hv
  exact⟨.nilslice,[],by simp only[VR],rfl,fun _ h=>by cases h⟩
 ·simp at hv
  subst hv
  rw[hk] at hel' hrest
  by_cases hcap:cap=0
  ·subst hcap
   have hl0:len=0:=by omega
   subst hl0
   refine⟨.slice .shared 0 [],[],?_,rfl,fun _ h=>by cases h⟩
   simp only[VR]
   exact .inr ⟨by trivial,by trivial,by trivial,a,rfl⟩
  ·have hsp:a.spot=none:=by
    have key:∀ (o:Option (DataW H×List MemPlace)) (i:Nat),i=0→o.isSome=true→(W.cells? 0 (a.add (i*k)) k).bind (DataW.trod enc Tryz.prog W 0 (fun _=>true) true n e)=o→a.spot=none:=fun o i hi ho h1=>by
     obtain⟨y,rfl⟩:=Option.isSome_iff_exists.1 ho
     obtain⟨cs,h2,h3⟩:=Option.bind_eq_some_iff.1 h1
     obtain⟨h4,h5⟩:=cells_get h2
     have hc0:0<cs.length:=by omega
     have h6:=h5 0 cs[0] (List.getElem?_eq_getElem hc0)
     rw[hi,Nat.zero_mul] at h6
     exact add_spot h6
    by_cases hlen0:0<len
    ·refine key elems[0]? 0 rfl (by rw[List.getElem?_eq_getElem (by omega)];rfl) (hel' 0 hlen0)
    ·obtain⟨h1,h2⟩:=hrest rfl
     exact key rest[0]? (len+0) (by omega) (by rw[List.getElem?_eq_getElem (by omega)];rfl) (h2 0 (by omega))
   obtain⟨b,off,sp⟩:=a
   simp only at hsp
   subst hsp
   have hadd:∀ o j,((⟨b,o,none⟩:Addr).add j)=⟨b,o+j,none⟩:=fun o j=>by
    unfold Addr.add
    by_cases h0:j=0
    ·rw[if_pos h0,h0];rfl
    ·rw[if_neg h0]
   obtain⟨l,hll,hlq⟩:=list_of (α:=α) (Q:=fun i a=>∀ (j:Nat) (p:PV),(en a)[j]? = some p→∃ v,W.cell? ⟨b,off+i*k+j,none⟩=some v∧VR (gh0 W) W p v) len (fun i hi=>by
    have h1:=hel' i hi
    rw[hadd,List.getElem?_eq_getElem (by omega:i<elems.length)] at h1
    obtain⟨cs,h2,h3⟩:=Option.bind_eq_some_iff.1 h1
    obtain⟨h4,h5⟩:=cells_get h2
    obtain⟨x,hx⟩:=hel n cs _ h3
    refine⟨x,fun j p hj=>?_⟩
    obtain⟨v,g1,g2⟩:=hx.get hj
    have:=h5 j v g1
    rw[hadd] at this
    exact⟨v,this,g2⟩)
   refine⟨.slice .shared len (l.flatMap en),l,vr_slice0 hl fun j p hj=>?_,by simp only[PV.sl,hll],fun a _=>hen a⟩
   have hjl:=(List.getElem?_eq_some_iff.1 hj).1
   have hfl:(l.flatMap en).length=l.length*k:=flatMap_len (fun a _=>hen a)
   have hi:j / k<l.length:=by
    rw[hfl] at hjl
    exact (Nat.div_lt_iff_lt_mul hk1).2 hjl
   have hdr:(l.flatMap en).drop (j / k*k)=(l.drop (j / k)).flatMap en:=flatMap_drop (j / k) (fun a _=>hen a)
   have hdm:j / k*k+j % k=j:=by rw[Nat.mul_comm];exact Nat.div_add_mod j k
   have hj2:((l.flatMap en).drop (j / k*k))[j % k]? = some p:=by
    rw[List.getElem?_drop,← hj,hdm]
   rw[hdr,List.drop_eq_getElem_cons hi,List.flatMap_cons,List.getElem?_append_left (by rw[hen];exact Nat.mod_lt _ hk1)] at hj2
   obtain⟨v,g1,g2⟩:=hlq (j / k) _ (List.getElem?_eq_getElem hi) (j % k) p hj2
   refine⟨v,?_,g2⟩
   rw[← g1]
   congr 2
   omega
theorem e3':Tryz.prog.cellsOf 3=1:=by kernel_rfl
theorem e4':Tryz.prog.cellsOf 4=1:=by kernel_rfl
theorem e22':Tryz.prog.cellsOf 22=1:=by kernel_rfl
theorem e24':Tryz.prog.cellsOf 24=2:=by kernel_rfl
theorem e25':Tryz.prog.cellsOf 25=1:=by kernel_rfl
theorem e76':Tryz.prog.cellsOf 76=2:=by kernel_rfl
theorem e77':Tryz.prog.cellsOf 77=1:=by kernel_rfl
theorem trod_one{t n:Nat}{cs:List Value}{y:DataW H×List MemPlace}(h:DataW.trod enc Tryz.prog W 0 (fun _=>true) true n t cs=some y)(hs:(∃ e,Tryz.prog.underlying t=some (.slice e))):∃ v,cs=[v]:=by
 obtain⟨e,hu⟩:=hs
 rcases DataW.trod_slice hu h with ⟨hv,_⟩|⟨a,len,cap,elems,rest,n,_,hv,_⟩
 ·exact⟨_,hv⟩
 ·exact⟨_,hv⟩
theorem in_ints1{v:Value}{x:DataW H×List MemPlace}(h:DataW.trod enc Tryz.prog W 0 (fun _=>true) true fuel 25 [v]=some x):∃ F l,VR (gh0 W) W F v∧SlOf 1 encI F l :=
 in_slice Tryz.underlying25 e3' (by decide) (fun _=>rfl) (fun n cs y h=>by
  obtain⟨k,rfl,_,_⟩:=DataW.trod_int Tryz.underlying3 h
  exact⟨k,VRL.cons (by simp only[VR]) (VRL.nil_iff.2 rfl)⟩) h
theorem in_line{n:Nat}{cs:List Value}{y:DataW H×List MemPlace}(h:DataW.trod enc Tryz.prog W 0 (fun _=>true) true n 76 cs=some y):∃ a:LP,VRL (gh0 W) W (encLP a) cs:=by
 obtain⟨xs,n,_,_,hl,hxl,hf⟩:=DataW.trod_struct Tryz.underlying76 h
 rw[e76'] at hl
 match cs,hl with
 | [a,b],_ =>
  have f0:DataW.trod enc Tryz.prog W 0 (fun _=>true) true n 4 (List.take (Tryz.prog.cellsOf 4) [a,b])=xs[0]? := hf 0 _ rfl
  have f1:DataW.trod enc Tryz.prog W 0 (fun _=>true) true n 25 (List.take (Tryz.prog.cellsOf 25) [b])=xs[1]? := hf 1 _ rfl
  rw[e4'] at f0
  rw[e25'] at f1
  have hx:xs.length=2:=hxl
  match xs,hx with
  | [x0,x1],_ =>
   obtain⟨k,k0,_⟩:=DataW.trod_bool Tryz.underlying4 f0
   simp at k0
   subst k0
   obtain⟨F,l,h1,h2⟩:=in_ints1 (x:=x1) f1
   exact⟨⟨k,F,l,h2⟩,VRL.cons (by simp only[VR]) (VRL.cons h1 (VRL.nil_iff.2 rfl))⟩
theorem in_copy{n:Nat}{cs:List Value}{y:DataW H×List MemPlace}(h:DataW.trod enc Tryz.prog W 0 (fun _=>true) true n 77 cs=some y):∃ a:CP,VRL (gh0 W) W (encCP a) cs:=by
 obtain⟨v,rfl⟩:=trod_one h ⟨_,Tryz.underlying77⟩
 obtain⟨F,l,h1,h2⟩:=in_slice (en:=encLP) Tryz.underlying77 e76' (by decide) (fun _=>rfl) (fun n cs y h=>in_line h) h
 exact⟨⟨F,l,h2⟩,VRL.cons h1 (VRL.nil_iff.2 rfl)⟩
theorem in_book{v:Value}(hok:Value.okWide Tryz.prog W .any base 24 v)(h:DataW.Trod enc Tryz.prog W 0 (fun _=>true) true 24 v d ps):∃ b:BP,VR (gh0 W) W b.pv v:=by
 obtain⟨fuel,h⟩:=h
 unfold Value.okWide at hok
 rw[Tryz.underlying24] at hok
 obtain⟨cs,rfl,_⟩:=hok
 obtain⟨xs,n,_,_,hl,hxl,hf⟩:=DataW.trod_struct Tryz.underlying24 h
 rw[e24'] at hl
 have hcs:(Value.agg cs).cells.toList=cs.toList:=rfl
 rw[hcs] at hl hf
 obtain⟨l⟩:=cs
 match l,hl with
 | [a,b],_ =>
  have f0:DataW.trod enc Tryz.prog W 0 (fun _=>true) true n 3 (List.take (Tryz.prog.cellsOf 3) [a,b])=xs[0]? := hf 0 _ rfl
  have f1:DataW.trod enc Tryz.prog W 0 (fun _=>true) true n 22 (List.take (Tryz.prog.cellsOf 22) [b])=xs[1]? := hf 1 _ rfl
  rw[e3'] at f0
  rw[e22'] at f1
  have hx:xs.length=2:=hxl
  match xs,hx with
  | [x0,x1],_ =>
   obtain⟨k,k0,_,_⟩:=DataW.trod_int Tryz.underlying3 f0
   simp at k0
   subst k0
   obtain⟨F,l,h1,h2⟩:=in_slice (en:=encCP) (x:=x1) Tryz.underlying22 e77' (by decide) (fun _=>rfl) (fun n cs y h=>in_copy h) f1
   refine⟨⟨k,F,l,h2⟩,?_⟩
   simp only[VR]
   exact⟨_,rfl,VRL.cons (by simp only[VR]) (VRL.cons h1 (VRL.nil_iff.2 rfl))⟩
end
end Go.Den.Ve
end
section
namespace Go.Den.Ve
theorem c44(b:BP)(h:OkB b.bk)(n:Int)(st:St):Cl EE (.func 44 [] []) [b.pv,iv n] st (.ret (.bool (inN n 0 (lines1 b.bk - 1)))) st:=by
 have hB:=b.h
 have hp0:=h.pos
 have h4:=h.l4
 rw[lines1_bk b hp0] at h4 ⊢
 have hw:IntKind.wrap .i64 ((b.cs[0].ls.length:Int) - 1)=b.cs[0].ls.length - 1:=wrap_in (by unfold inI;omega)
 refine cF2 pr44 fn44 (fun tm hl h0 h1=>?_)
 refine go2 (bw4 hl h0 h1 hw) (bw c79 fnil) ?_
 exact fQ hl
theorem c53(b:BP)(h:b.cs.length<1000000)(n:Int)(st:St):Cl EE (.func 53 [] []) [b.pv,iv n] st (.ret (.bool (inN n 0 (b.cs.length - 1)))) st:=by
 have hw:IntKind.wrap .i64 ((b.cs.length:Int) - 1)=b.cs.length - 1:=wrap_in (by unfold inI;omega)
 refine cF2 pr53 fn53 (fun tm hl h0 h1=>?_)
 refine go2 (bw4 hl h0 h1 hw) (bw c79 fnil) ?_
 exact fQ hl
end Go.Den.Ve
end
section
namespace Go.Den.Ve
theorem CP.okl{b:BP}(h:OkB b.bk){c:CP}(hc:c∈b.cs):c.ls.length=lines1 b.bk∧∀ x∈c.ls,lineB b.words x.l=true∧(x.lost=true→x.l=[]):=by
 obtain⟨h1,h2⟩:=h.all c.c (List.mem_map.2 ⟨c,hc,rfl⟩)
 exact⟨by simpa using h1,fun x hx=>h2 x.ln (List.mem_map.2 ⟨x,hx,rfl⟩)⟩
theorem line4{w:Int}{l:List Int}(h:lineB w l=true):l.length≤4:=(lineB_iff.1 h).1
theorem lev4{w:Int}{l m:List Int}(h1:lineB w l=true)(h2:lineB w m=true):lev l m≤4:=by
 have:=lev_max l m
 have:=line4 h1
 have:=line4 h2
 omega
def costK (b:BK) (i:Nat) (l:List Int) (k:Nat):Int:=((b.copies.take k).map fun c=>takenI l (c.getD i ⟨true,[]⟩)).sum
theorem costK_succ(b:BP)(i:Nat)(l:List Int){k:Nat}(hk:k<b.cs.length)(hi:i<b.cs[k].ls.length):costK b.bk i l (k+1)=costK b.bk i l k+takenI l b.cs[k].ls[i].ln:=by
 unfold costK
 have hk':k<b.bk.copies.length:=by simpa using hk
 rw[List.take_succ_eq_append_getElem hk',List.map_append,List.sum_append_int,List.map_singleton,List.sum_singleton]
 congr 2
 have:b.bk.copies[k]=b.cs[k].c:=by simp
 rw[this,List.getD_eq_getElem?_getD,List.getElem?_map,List.getElem?_eq_getElem hi];rfl
theorem taken4{w:Int}{l:List Int}{x:LP}(h1:lineB w l=true)(h2:lineB w x.l=true):0≤takenI l x.ln∧takenI l x.ln≤4:=by
 refine⟨taken_nn _ _,?_⟩
 unfold takenI
 have:=lev4 h1 h2
 split
 ·omega
 ·show ((lev l x.l:Nat):Int)≤4
  omega
theorem costK_in(b:BP)(hB:OkB b.bk){i:Nat}(hi:i<lines1 b.bk){l:List Int}(hl:lineB b.words l=true):∀ {k:Nat},k≤b.cs.length→0≤costK b.bk i l k∧costK b.bk i l k≤4*k
 | 0,_=>by simp[costK]
 | k+1,hk=>by
  have h1:=costK_in b hB hi hl (k:=k) (by omega)
  have hc:=CP.okl hB (List.getElem_mem (h:=show k<b.cs.length by omega))
  have hik:i<b.cs[k].ls.length:=by omega
  have h2:=taken4 (x:=b.cs[k].ls[i]) hl (hc.2 _ (List.getElem_mem hik)).1
  rw[costK_succ b i l (by omega) hik]
  omega
def briefS (X:List SI):Bool:=decide (X.length≤6)&&X.all fun x=>decide (x.l.length≤6)
end Go.Den.Ve
end
section
namespace Go.Den.Ve
def growN (w:Nat) (l:List Int):List (List Int):=(List.range w).map fun (x:Nat)=>l++[(x:Int)]
theorem lists_grow(w:Nat):∀ k,listsL w (k+1)=(listsL w k).flatMap (growN w)
 | 0=>by
  simp only[listsL,growN,List.flatMap_cons,List.flatMap_nil,List.append_nil,List.nil_append,List.map_cons,List.map_nil]
  induction List.range w with
  | nil=>rfl
  | cons x l ih=>rw[List.flatMap_cons,ih];rfl
 | k+1=>by
  have ih:=lists_grow w k
  have e:listsL w (k+1+1)=(List.range w).flatMap fun (x:Nat)=>(listsL w (k+1)).map fun l=>(x:Int)::l:=rfl
  have e2:listsL w (k+1)=(List.range w).flatMap fun (x:Nat)=>(listsL w k).map fun l=>(x:Int)::l:=rfl
  rw[e]
  conv=>rhs;rw[e2]
  rw[List.flatMap_assoc]
  congr 1
  funext x
  rw[ih,List.map_flatMap,List.flatMap_map]
  congr 1
  funext l
  simp only[growN,List.map_map]
  rfl
def preL (w k:Nat):List (List Int):=(List.range k).flatMap (listsL w)
theorem preL_succ(w k:Nat):preL w (k+1)=preL w k++listsL w k:=by simp[preL,List.range_succ]
theorem preL_all(w:Nat):preL w 5=linesL w:=rfl
theorem preL_len{w:Nat}(hw:w≤3):∀ k,(preL w k).length≤3 ^ k
 | 0=>by simp[preL]
 | k+1=>by
  have h:=preL_len hw k
  rw[preL_succ,List.length_append,lists_pow]
  have h2:w ^ k≤3 ^ k:=Nat.pow_le_pow_left hw k
  have:3 ^ (k+1)=3*3 ^ k:=by rw[Nat.pow_succ];omega
  omega
theorem preL_at{w k m:Nat}(hm:m<(listsL w k).length):(preL w k).length+m<(preL w (k+1)).length:=by rw[preL_succ,List.length_append];omega
theorem preL_get{w k m:Nat}(hm:m<(listsL w k).length)(h:(preL w k).length+m<(preL w (k+1)).length):(preL w (k+1))[(preL w k).length+m]=(listsL w k)[m]:=by
 have e:=preL_succ w k
 simp only[e]
 rw[List.getElem_append_right (by omega)]
 congr 1;omega
theorem growN_take(w:Nat)(l:List Int){x:Nat}(hx:x<w):(growN w l).take (x+1)=(growN w l).take x++[l++[(x:Int)]]:=by
 have hl:x<(growN w l).length:=by simp[growN,hx]
 rw[List.take_succ_eq_append_getElem hl]
 simp[growN]
def outA (w k m x:Nat):List (List Int):=preL w (k+1)++(((listsL w k).take m).flatMap (growN w)++(growN w ((listsL w k).getD m [])).take x)
theorem outA_len{w k m x:Nat}(hw:w≤3)(hk:k≤3):(outA w k m x).length≤500:=by
 have h1:=preL_len hw (k+1)
 have h2:3 ^ (k+1)≤3 ^ 4:=Nat.pow_le_pow_right (by omega) (by omega)
 have h3:((listsL w k).take m).flatMap (growN w) <+: listsL w (k+1):=by
  rw[lists_grow]
  conv=>rhs;rw[← List.take_append_drop m (listsL w k),List.flatMap_append]
  exact List.prefix_append _ _
 have h4:=h3.length_le
 rw[lists_pow] at h4
 have h5:w ^ (k+1)≤3 ^ (k+1):=Nat.pow_le_pow_left hw _
 have h6:((growN w ((listsL w k).getD m [])).take x).length≤3:=by
  rw[List.length_take];simp[growN];omega
 simp only[outA,List.length_append]
 omega
theorem outA_x{w k m x:Nat}(hx:x<w)(hm:m<(listsL w k).length):outA w k m (x+1)=outA w k m x++[(listsL w k)[m]++[(x:Int)]]:=by
 have e:(listsL w k).getD m []=(listsL w k)[m]:=by rw[List.getD_eq_getElem?_getD,List.getElem?_eq_getElem hm];rfl
 simp only[outA,e]
 rw[growN_take w _ hx]
 simp only[List.append_assoc]
theorem outA_m{w k m:Nat}(hm:m<(listsL w k).length):outA w k (m+1) 0=outA w k m w:=by
 have e:(listsL w k).getD m []=(listsL w k)[m]:=by rw[List.getD_eq_getElem?_getD,List.getElem?_eq_getElem hm];rfl
 simp only[outA,e]
 rw[List.take_succ_eq_append_getElem hm,List.flatMap_append,List.flatMap_singleton,List.take_of_length_le (l:=growN w (listsL w k)[m]) (by simp[growN])]
 simp
theorem outA_0(w k:Nat):outA w k 0 0=preL w (k+1):=by simp[outA]
theorem outA_end(w k:Nat):outA w k (listsL w k).length 0=preL w (k+2):=by
 simp only[outA,List.take_length,List.take_zero,List.append_nil]
 rw[preL_succ w (k+1),lists_grow]
set_option maxHeartbeats 8000000 in
theorem c58(b:BP)(w:Nat)(hwb:b.words=w)(hw1:1≤w)(hw3:w≤3)(st:St):ClR EE (.func 58 [] []) [b.pv] st (RetS st 1 (linesL w).length ((linesL w).flatMap encL)):=by
 have hb:=b.h
 refine cG1 pr58 fn58 (fun tm hl h0=>?_)
 refine go2 (bw hl h0) fnil ?_
 refine wp_for [5,3,4] (fun k vs S=>∃ v,vs=[iv k,v,iv ((preL w k).length:Nat)]∧k≤4∧OwnS st.heap.length S 1 v (preL w (k+1)).length ((preL w (k+1)).flatMap encL)∧hp S st.heap.length=some (.var [iv w,b.v])∧st.heap.length≤S.lo∧S.lo≤S.heap.length) (fun k=>4 - k) ⟨_,(sR hl),by omega,⟨rfl,.inr ⟨_,rfl,by first|omega|(simp only[len_push];omega),(sG fnil)⟩⟩,(sG hwb),by simp only[lo_push];omega,by simp only[lo_push,len_push];omega⟩ ?_
 rintro k tm1 S ⟨v,hv,hk,hO,d0,hlo,hwf⟩ hS
 obtain⟨hv5,hv3,hv4⟩:=mv3 hv
 have hl1:tm1.length=41:=lN hS hl;have i1:tg tm1 1 = .ptr st.heap.length 0:=tQ hS hl;clear hS
 have ld0:=hp_lt d0
 refine go2 (bw hl1 hv5) fnil ?_
 refine⟨decide ((k:Int)<4),(sG hl1),fun hbi=>?_,fun hbi=>?_⟩
 ·have hlt:=of_decide_eq_false hbi
  have hk4:k=4:=by omega
  subst hk4
  rw[preL_all] at hO
  refine go2 (bw hl1 hv3) fnil ?_
  refine fX (v) (bw hl1 hv3) ?_
  exact hO.finish hlo (fun m c hc=>encL_low _ m c hc)
 have hlt:k<4:=by have:=of_decide_eq_true hbi;omega
 have hwk:=wS k (by omega)
 refine⟨by omega,?_⟩
 have hvs:=sl_slen hO.sl
 have hpl:=preL_len hw3 (k+1)
 have hpl2:3 ^ (k+1)≤3 ^ 4:=Nat.pow_le_pow_right (by omega) (by omega)
 refine go2 (bw4 hl1 hv3 hv4 hvs) fnil ?_
 refine wp_for [7,3] (fun m vs S'=>∃ v,vs=[iv (((preL w k).length+m:Nat):Int),v]∧m≤(listsL w k).length∧OwnS st.heap.length S' 1 v (outA w k m 0).length ((outA w k m 0).flatMap encL)∧hp S' st.heap.length=some (.var [iv w,b.v])∧st.heap.length≤S'.lo∧S'.lo≤S'.heap.length) (fun m=>(listsL w k).length - m) ⟨v,(sG (bw3 hl1 hv3 hv4)),Nat.zero_le _,by rw[outA_0];exact hO,d0,hlo,hwf⟩ ?_
 clear hO d0 hlo hwf hv3 hvs ld0
 rintro m tm2 S2 ⟨v2,hv,hm,hO,d0,hlo,hwf⟩ hS2
 obtain⟨hv7,hv3⟩:=mv2 hv
 have hl2:tm2.length=41:=lN hS2 hl1;have j1:tg tm2 1 = .ptr st.heap.length 0:=tQ hS2 (bw3 hl1 i1 hv5);have j6:tg tm2 6=iv ((preL w (k+1)).length:Nat):=tQ hS2 (bw3 hl1 i1 hv5);have j5:tg tm2 5=iv k:=tQ hS2 (bw3 hl1 i1 hv5);clear hS2
 have ld0:=hp_lt d0
 have hps:(preL w (k+1)).length=(preL w k).length+(listsL w k).length:=by rw[preL_succ,List.length_append]
 refine go2 (bw3 hl2 hv7 j6) fnil ?_
 refine⟨decide ((((preL w k).length+m:Nat):Int)<((preL w (k+1)).length:Nat)),(sG hl2),fun hbi2=>?_,fun hbi2=>?_⟩
 ·have hlt2:=of_decide_eq_false hbi2
  have hmn:m=(listsL w k).length:=by omega
  subst hmn
  rw[outA_end] at hO
  refine go2 (bw4 hl2 j6 j5 hwk) fnil ?_
  exact⟨v2,(sG (bw hl2 hv3)),by omega,hO,d0,hlo,hwf⟩
 have hlt2:m<(listsL w k).length:=by have:=of_decide_eq_true hbi2;omega
 have hwm:IntKind.wrap .i64 ((((preL w k).length+m:Nat):Int)+1)=(((preL w k).length+(m+1):Nat):Int):=by rw[wrap_in (by unfold inI;omega)];omega
 refine⟨by omega,?_⟩
 refine go2 hl2 fnil ?_
 refine wp_for [8,3] (fun x vs S'=>∃ v,vs=[iv x,v]∧x≤w∧OwnS st.heap.length S' 1 v (outA w k m x).length ((outA w k m x).flatMap encL)∧hp S' st.heap.length=some (.var [iv w,b.v])∧st.heap.length≤S'.lo∧S'.lo≤S'.heap.length) (fun x=>w - x) ⟨v2,(sR (bw hl2 hv3)),Nat.zero_le _,hO,d0,hlo,hwf⟩ ?_
 clear hO d0 hlo hwf hv3 ld0
 rintro x tm3 S3 ⟨v3,hv,hx,hO,d0,hlo,hwf⟩ hS3
 obtain⟨hv8,hv3⟩:=mv2 hv
 have hl3:tm3.length=41:=lN hS3 hl2;have k1:tg tm3 1 = .ptr st.heap.length 0:=tQ hS3 (bw3 hl2 j1 hv7);have k7:tg tm3 7=iv (((preL w k).length+m:Nat):Int):=tQ hS3 (bw3 hl2 j1 hv7);clear hS3
 have ld0:=hp_lt d0
 refine go2 (bw5 hl3 hv8 k1 d0 (n4 ld0)) fnil ?_
 refine⟨decide ((x:Int)<w),(sG hl3),fun hbi3=>?_,fun hbi3=>?_⟩
 ·have hlt3:=of_decide_eq_false hbi3
  have hxw:x=w:=by omega
  subst hxw
  refine go2 (bw3 hl3 k7 hwm) fnil ?_
  exact⟨v3,(sG (bw hl3 hv3)),by omega,by rw[outA_m hlt2];exact hO,d0,hlo,hwf⟩
 have hlt3:x<w:=by have:=of_decide_eq_true hbi3;omega
 have hwx:=wS x (by omega)
 refine⟨by omega,?_⟩
 have hol:=outA_len (m:=m) (x:=x) hw3 (show k≤3 by omega)
 have hV:SlOf 1 encL v3 (outA w k m x):=SlOf.of_sl hO.sl rfl rfl (fun _=>rfl)
 have hat:(preL w k).length+m<(outA w k m x).length:=by
  have:=preL_at hlt2
  simp only[outA,List.length_append] at *;omega
 have hget:(outA w k m x)[(preL w k).length+m]=(listsL w k)[m]:=by
  have h1:=preL_at hlt2
  simp only[outA]
  rw[List.getElem_append_left h1,preL_get hlt2]
 have hll:=(mem_lists.1 (List.getElem_mem hlt2)).1
 refine go2 (bw4 hl3 k7 hv3 hget) fnil ?_
 refine wops_append (m:=S3.heap.length) rfl rfl (sR hl3) (sR (bw hl3 hget)) .nil (el_sl (listsL w k)[m]).sl (Nat.le_refl _) (by rw[encI_map];simp) (encI_cell _) (by simp only[maxList];omega) ?_
 intro a1 s1 hO1 hF1 hk1
 rw[encI_share,Nat.zero_add,List.nil_append] at hO1
 have x1:=hF1.len
 have x2:=hF1.lo
 have x3:=hF1.up
 refine go2 (bw hl3 hv8) fnil ?_
 refine wops_append rfl rfl (sR hl3) (sR (bw hl3 hv8)) hO1.push rfl (by simp only[len_push];omega) (by rfl) (by rfl) (by simp only[maxList];omega) ?_
 intro a2 s2 hO2 hF2 hk2
 have y1:=hF2.len
 have y2:=hF2.lo
 have y3:=hF2.up
 simp only[lo_push,len_push] at y1 y2 y3
 have hO2':OwnS S3.heap.length s2 1 a2 ((listsL w k)[m]++[(x:Int)]).length (((listsL w k)[m]++[(x:Int)]).flatMap encI):=by
  rw[List.length_append,List.flatMap_append]
  simpa[share_int] using hO2
 have hsh:a2.share=elL ((listsL w k)[m]++[(x:Int)]):=share_own hO2' rfl rfl (by simp)
 have hac:=sl_cells hO2'.sl
 have hFF:Fr S3.heap.length S3 s2:=(hF1.push x1).trans hF2
 have hOv:=hO.frame hFF (Nat.le_refl _)
 have d2:=hFF.hp d0 (by omega)
 have ld2:=hp_lt d2
 refine go2 (bw4 hl3 hv3 hsh hac) fnil ?_
 refine wops_append rfl rfl (sR hl3) (sR hl3) hOv.push rfl (by simp only[len_push];omega) (by rfl) (by simp only[List.all_cons,List.all_nil,el_share,el_isCell,Bool.and_true]) (by simp only[maxList];omega) ?_
 intro a3 s3 hO3 hF3 hk3
 have z1:=hF3.lo
 have z2:=hF3.up
 have z3:=hF3.len
 simp only[lo_push,len_push] at z1 z2 z3
 refine go2 (bw3 hl3 hv8 hwx) fnil ?_
 refine⟨a3,(sG hl3),by omega,?_,hk3 _ _ (by rw[hp_push,if_neg (by omega)];exact d2) (by simp),by omega,by omega⟩
 rw[outA_x hlt3 hlt2,List.flatMap_append,List.flatMap_singleton,List.length_append]
 simpa[el_share] using hO3
def costsL (b:BK) (i:Nat) (w:Nat):List Int:=(linesL w).map (cost1 b i)
end Go.Den.Ve
end
section
namespace Go.Den
end Go.Den
namespace Go.Den.Ve
def LeastP (X:List (List Int)) (m:List Int→Int) (st:St) (v:PV) (st':St):Prop:=∃ u,v = .tuple [u,iv (minL m X)]∧RetW st (leastL m X).length ((leastL m X).flatMap encL) u st'
end Go.Den.Ve
end
section
namespace Go.Den.Ve
theorem cost_snoc(x:Sp):∀ s:List Sp,costL (s++[x])=costL s+if x.1=1 then 0 else 1
 | []=>by simp[costL]
 | y::s=>by rw[List.cons_append,costL,cost_snoc x s,costL];omega
theorem cost_le:∀ s:List Sp,costL s≤s.length
 | []=>Nat.le_refl _
 | x::s=>by have:=cost_le s;rw[costL,List.length_cons];split <;> omega
theorem soon_pre(s t:List Sp):∀ l:List Sp,soonL (l++s) (l++t)=soonL s t
 | []=>rfl
 | a::l=>by rw[List.cons_append,List.cons_append,soonL,if_pos rfl];exact soon_pre s t l
end Go.Den.Ve
end
section
namespace Go.Den.Ve
end Go.Den.Ve
end
section
namespace Go.Den.Ve
def StepsP (l m:List Int) (c:Int) (st:St) (v:PV) (st':St):Prop:=∃ u,v = .tuple [u,.bool (stepsR l m c).isSome]∧RetW st ((stepsR l m c).getD []).length (((stepsR l m c).getD []).flatMap enc2) u st'
theorem enc2_many:∀ s:List Sp,(s.flatMap enc2).length=s.length*2
 | []=>rfl
 | x::p=>by rw[List.flatMap_cons,List.length_append,enc2_many p,List.length_cons];simp only[List.length_cons,List.length_nil];omega
end Go.Den.Ve
end
section
namespace Go.Den.Ve
def WholeP (b:BK) (st:St) (v:PV) (st':St):Prop:=∃ u,v = .tuple [u,iv (wholeN b),iv (wholeC b)]∧RetW st (wholeT b).length ((wholeT b).flatMap encL) u st'
def tks (b:BK) (n i:Nat):List Int:=(leastB b i).map fun y=>takenI y (lnAt b n i)
def flK (b:BK) (n k:Nat):Int:=((farK b n k).map Prod.fst).sum
def fhK (b:BK) (n k:Nat):Int:=((farK b n k).map Prod.snd).sum
end Go.Den.Ve
end
section
namespace Go.Den.Ve
def wayR (X:List (List Int)) (x:List Int):List Int:=X.map fun y=>((lev x y:Nat):Int)
end Go.Den.Ve
end
section
namespace Go.Den.Ve
def askM (b:BK) (i:Nat) (y x:List Int):Int:=cost1 b i x+((lev x y:Nat):Int)
end Go.Den.Ve
end
section
namespace Go.Den.Ve
def askE (o:Option T3):T3:=match o with
 | none=>(-1,-1,0)
 | some x=>x
abbrev askK (X:List T3):T3:=askE (bestF (fun x y:T3=>decide (x.2.2<y.2.2)) X)
end Go.Den.Ve
end
section
namespace Go.Den.Ve
theorem goodB_yes{b:BP}(h:goodB b=true):smallB b=true∧OkB b.bk:=by
 simp only[goodB,Bool.and_eq_true] at h
 exact⟨h.1,bookB_iff.1 h.2⟩
def anyArg (b:BP) (l1 l2:List Int):Bool:=smallB b&&(decide ((l1.length:Int)≤6)&&decide ((l2.length:Int)≤6))
end Go.Den.Ve
end
section
namespace Go.Den.Ve
end Go.Den.Ve
end

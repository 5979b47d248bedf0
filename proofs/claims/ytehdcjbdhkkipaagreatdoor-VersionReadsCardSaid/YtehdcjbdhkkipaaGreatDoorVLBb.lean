/- Part of the proofs of laws of the package version. Texts: VnRow, VnIn, VwA, VwE, VwF, VwG, VwB, VxA, VxC, VxCb, VxD, VxI, VwQ. -/
import Derived.Test.YtehdcjbdhkkipaaGreatDoorVLBa
import Derived.Test.YtehdcjbdhkkipaaGreatDoorRows
import Derived.ProofKit
import Derived.LaidMore
import Derived.OpenShut
import Derived.Stop.Joined
import Derived.HandedShaped
import Derived.Lay
import Derived.LaidHandle
import Derived.Carry
import Derived.Test.YtehdcjbdhkkipaaGreatDoorVLAz
import Derived.Test.YtehdcjbdhkkipaaGreatDoorVLAy
set_option linter.unusedSimpArgs false
set_option linter.unusedVariables false
section
namespace Go.Proofs.YtehdcjbdhkkipaaGreatDoor
open Go.ChangeShapes Go.WideShapes Go.ChangeAt Go.WideMaps Go.WideElems Go.RowKit
set_option maxRecDepth 100000
theorem ownKnob0:ownKnob Tryz.prog.godebug=none:=by kernel_rfl
theorem laidOut0:laidOutB Tryz.prog=true:=by kernel_rfl
theorem maxLen_cell{W:World}(h:W.ShapedOpen Tryz.prog):∃ m,1<W.heap.size∧W.cell? ⟨1,0,none⟩=some (.int .i64 m):=by
 obtain⟨m,hm⟩:=cell_of_shapedOpen_int (g:=1) (t:=3) (zero:=#[.int .i64 0]) (k := .i64) h (of_decide_eq_true (by kernel_rfl)) (by kernel_rfl) rfl (by kernel_rfl) (by kernel_rfl) Tryz.underlying3
 refine⟨m,?_,hm⟩
 unfold World.cell? at hm
 split at hm
 ·rename_i hh
  exact (Array.getElem?_eq_some_iff.1 hh).1
 ·cases hm
theorem returns_law{H:Type}{enc:TypeId×Value→H}{a:Assume}{C:Checked}{os:Os}{f:FuncId}{fn:Func}{s:ChangeSpec}{conds:List PathCond}{apart fresh handsOn again:Bool}{X:World→Array Value→Prop}
  (hX:∀ (w w':World) (args:Array Value),w.heap=w'.heap→X w args→X w' args)
  (own:ownKnob C.prog.godebug=none) (started:os.Started) (noInit:C.prog.inits.idxOf? f=none) (hfn:C.prog.funcs[f]? = some fn)
  (witness:∃ (w:World) (tape:Tape) (i:Input),w.os=os∧(w.forCall tape i).Shaped C.prog∧i.vars=[]∧Input.okWide C.prog (w.forCall tape i) .any w.heap.size f i ∧
   ((s.pre enc C.prog fn conds apart (w.forCall tape i).memory i.args∧X (w.forCall tape i).memory i.args)∧sizedMet enc C.prog fn (OpenSpec.ofChange s) apart (w.forCall tape i).memory i.args)∧a.holds C.prog (lone (Frame.enter C.prog f i.args .normal) [] (w.forCall tape i)))
  (contract:∀ (W:World) (base:Nat) (args:Array Value) (ds gs:List (DataW H)) (before:List MemPlace),
   (∀ (j:Nat) t v,fn.params[j]? = some t→args[j]? = some v→Value.okWide C.prog W .any base t v) →
   DataW.Whole enc C.prog fn.params.toList s.vars apart W args.toList ds gs before →
   W.ShapedOpen C.prog →
   Calls C.prog f args W fun e W'=>∃ v,e = .returned v∧s.post enc C.prog fn apart fresh handsOn again W args v W') :
  ReturnsInHanded a C os f .any (fun w args=>(s.pre enc C.prog fn conds apart w args∧X w args)∧sizedMet enc C.prog fn (OpenSpec.ofChange s) apart w args) (s.post enc C.prog fn apart fresh handsOn again):=by
 refine returnsInHanded_of_calls own started noInit witness ?_
 intro w tape i _ hsh _ hok hpre _
 obtain⟨_,_,_,fn',hfn',_,_,_,_,hval⟩:=hok
 have e:fn'=fn:=Option.some.inj (hfn'.symm.trans hfn)
 subst e
 obtain⟨⟨⟨ds,gs,before,hw,_⟩,_⟩,_⟩:=hpre
 have hw':=DataW.Whole.of_heap (w':=w.forCall tape i) (by rfl) hw
 refine (contract (w.forCall tape i) w.heap.size i.args ds gs before hval hw' hsh).mono fun e W' ⟨v,he,hp⟩=>?_
 subst he
 exact ChangeSpec.post_blind hp
theorem trodAll_grown{H:Type}{enc:TypeId×Value→H}{W W':World}(hb:Below W.heap.size W W'):∀ {ts:List TypeId} {vs:List Value} {ds:List (DataW H)} {ps:List MemPlace},(∀ t∈ts,Tryz.prog.readableRec t=true∧t<Tryz.prog.types.size)→DataW.TrodAll enc Tryz.prog W 0 (fun _=>true) true ts vs ds ps→(∀ x∈ps,x.block<W.heap.size)→DataW.TrodAll enc Tryz.prog W' 0 (fun b=>decide (b<W.heap.size)) true ts vs ds ps
 | [],vs,ds,ps,_,h,_=>by
  obtain⟨rfl,rfl,rfl⟩:=trodAll_nil h
  rfl
 | t::ts,vs,ds,ps,hr,h,hl=>by
  obtain⟨v,vs',d,ds',p,q,rfl,rfl,rfl,h1,h2⟩:=trodAll_cons h
  have h0:=hr t (by simp)
  exact⟨p,q,Below.trod laidOut0 h0.1 h0.2 h1 hb (fun x hx=>hl x (by simp[hx])),trodAll_grown hb (fun t ht=>hr t (by simp[ht])) h2 (fun x hx=>hl x (by simp[hx])),rfl⟩
theorem keptBut_grown{W W':World}{may:MemPlace→Prop}(h:∀ b,b<W.heap.size→W'.heap[b]? = W.heap[b]?)(ho:W'.os=W.os∧W'.output=W.output):W.keptBut W' may:=by
 refine⟨ho.1,ho.2,fun i hi=>?_⟩
 rw[h i hi]
 split
 ·rename_i h1 h2
  rw[h1] at h2
  cases h2
  exact⟨rfl,rfl,rfl,fun _ _=>rfl⟩
 ·rename_i h1 h2
  rw[h1] at h2
  cases h2
  exact .inr ⟨rfl,rfl⟩
 ·rfl
theorem post_true{H:Type}{enc:TypeId×Value→H}{fn:Func}{s:ChangeSpec}{W W':World}{args:Array Value}{ds:List (DataW H)}{before:List MemPlace}
  (hvars:s.vars=[]) (hW:DataW.Whole enc Tryz.prog fn.params.toList s.vars false W args.toList ds [] before) (hres:fn.resultTypes=#[4]) (hfn:s.fn H (ds++[])={ results:=[.lit (.bool true)],args:=ds })
  (hr:∀ t∈fn.params.toList,Tryz.prog.readableRec t=true∧t<Tryz.prog.types.size)
  (hs:W.heap.size≤W'.heap.size) (hb:∀ b,b<W.heap.size→W'.heap[b]? = W.heap[b]?) (ho:W'.os=W.os∧W'.output=W.output) :
  s.post enc Tryz.prog fn false true false false W args (.bool true) W':=by
 have hW0:=hW
 obtain⟨p,q,hA,hV,rfl,_,_⟩:=hW
 rw[hvars] at hV
 obtain⟨_,rfl⟩:([]:List (DataW H))=[]∧q=[]:=by
  cases q with
  | nil=>exact⟨rfl,rfl⟩
  | cons x q=>simp[DataW.TrodVars] at hV
 have hlt:∀ x∈p,x.block<W.heap.size:=fun x hx=>by simpa using hW0.lt x (by simp[hx])
 have ha:({ W' with tape:=W.tape }:World).Alike W':=⟨rfl,rfl,rfl⟩
 have hbl:Below W.heap.size W { W' with tape:=W.tape }:=⟨ho.1,rfl,ho.2,hs,hb⟩
 have hT:=trodAll_grown hbl hr hA hlt
 have hT':DataW.TrodAll enc Tryz.prog W' 0 (fun b=>decide (b<W.heap.size)) true fn.params.toList args.toList ds p:=DataW.TrodAll.of_heap (show ({ W' with tape:=W.tape }:World).heap=W'.heap from rfl) hT
 refine⟨ds,[],p++[],[],p,[],hW0,?_,?_,?_,keptBut_grown hb ho,fun h=>by cases h⟩
 ·rw[hfn,hres]
  exact trodAll_mk1 (shut_bool Tryz.underlying4 _)
 ·rw[hfn];exact hT'
 ·rw[hfn,hvars];rfl
end Go.Proofs.YtehdcjbdhkkipaaGreatDoor
end
section
namespace Go.Den.Ve
set_option maxRecDepth 100000
open Go.Proofs Go.ChangeShapes Go.WideShapes
section
variable{H:Type}{enc:TypeId×Value→H}{W:World}{base fuel:Nat}{d:DataW H}{ps:List MemPlace}
end
end Go.Den.Ve
end
section
namespace Go.Den.Ve
end Go.Den.Ve
end
section
namespace Go.Den.Ve
theorem CP.okl{b:BP}(h:OkB b.bk){c:CP}(hc:c∈b.cs):c.ls.length=lines1 b.bk∧∀ x∈c.ls,lineB b.words x.l=true∧(x.lost=true→x.l=[]):=by
 obtain⟨h1,h2⟩:=h.all c.c (List.mem_map.2 ⟨c,hc,rfl⟩)
 exact⟨by simpa using h1,fun x hx=>h2 x.ln (List.mem_map.2 ⟨x,hx,rfl⟩)⟩
theorem line4{w:Int}{l:List Int}(h:lineB w l=true):l.length≤4:=(lineB_iff.1 h).1
theorem lev4{w:Int}{l m:List Int}(h1:lineB w l=true)(h2:lineB w m=true):lev l m≤4:=by
 have:=lev_max l m
 have:=line4 h1
 have:=line4 h2
 omega
def costK (b:BK) (i:Nat) (l:List Int) (k:Nat):Int:=((b.copies.take k).map fun c=>takenI l (c.getD i ⟨true,[]⟩)).sum
theorem costK_succ(b:BP)(i:Nat)(l:List Int){k:Nat}(hk:k<b.cs.length)(hi:i<b.cs[k].ls.length):costK b.bk i l (k+1)=costK b.bk i l k+takenI l b.cs[k].ls[i].ln:=by
 unfold costK
 have hk':k<b.bk.copies.length:=by simpa using hk
 rw[List.take_succ_eq_append_getElem hk',List.map_append,List.sum_append_int,List.map_singleton,List.sum_singleton]
 congr 2
 have:b.bk.copies[k]=b.cs[k].c:=by simp
 rw[this,List.getD_eq_getElem?_getD,List.getElem?_map,List.getElem?_eq_getElem hi];rfl
theorem taken4{w:Int}{l:List Int}{x:LP}(h1:lineB w l=true)(h2:lineB w x.l=true):0≤takenI l x.ln∧takenI l x.ln≤4:=by
 refine⟨taken_nn _ _,?_⟩
 unfold takenI
 have:=lev4 h1 h2
 split
 ·omega
 ·show ((lev l x.l:Nat):Int)≤4
  omega
theorem costK_in(b:BP)(hB:OkB b.bk){i:Nat}(hi:i<lines1 b.bk){l:List Int}(hl:lineB b.words l=true):∀ {k:Nat},k≤b.cs.length→0≤costK b.bk i l k∧costK b.bk i l k≤4*k
 | 0,_=>by simp[costK]
 | k+1,hk=>by
  have h1:=costK_in b hB hi hl (k:=k) (by omega)
  have hc:=CP.okl hB (List.getElem_mem (h:=show k<b.cs.length by omega))
  have hik:i<b.cs[k].ls.length:=by omega
  have h2:=taken4 (x:=b.cs[k].ls[i]) hl (hc.2 _ (List.getElem_mem hik)).1
  rw[costK_succ b i l (by omega) hik]
  omega
def briefS (X:List SI):Bool:=decide (X.length≤6)&&X.all fun x=>decide (x.l.length≤6)
end Go.Den.Ve
end
section
namespace Go.Den.Ve
def growN (w:Nat) (l:List Int):List (List Int):=(List.range w).map fun (x:Nat)=>l++[(x:Int)]
theorem lists_grow(w:Nat):∀ k,listsL w (k+1)=(listsL w k).flatMap (growN w)
 | 0=>by
  simp only[listsL,growN,List.flatMap_cons,List.flatMap_nil,List.append_nil,List.nil_append,List.map_cons,List.map_nil]
  induction List.range w with
  | nil=>rfl
  | cons x l ih=>rw[List.flatMap_cons,ih];rfl
 | k+1=>by
  have ih:=lists_grow w k
  have e:listsL w (k+1+1)=(List.range w).flatMap fun (x:Nat)=>(listsL w (k+1)).map fun l=>(x:Int)::l:=rfl
  have e2:listsL w (k+1)=(List.range w).flatMap fun (x:Nat)=>(listsL w k).map fun l=>(x:Int)::l:=rfl
  rw[e]
  conv=>rhs;rw[e2]
  rw[List.flatMap_assoc]
  congr 1
  funext x
  rw[ih,List.map_flatMap,List.flatMap_map]
  congr 1
  funext l
  simp only[growN,List.map_map]
  rfl
def preL (w k:Nat):List (List Int):=(List.range k).flatMap (listsL w)
theorem preL_succ(w k:Nat):preL w (k+1)=preL w k++listsL w k:=by simp[preL,List.range_succ]
theorem preL_len{w:Nat}(hw:w≤3):∀ k,(preL w k).length≤3 ^ k
 | 0=>by simp[preL]
 | k+1=>by
  have h:=preL_len hw k
  rw[preL_succ,List.length_append,lists_pow]
  have h2:w ^ k≤3 ^ k:=Nat.pow_le_pow_left hw k
  have:3 ^ (k+1)=3*3 ^ k:=by rw[Nat.pow_succ];omega
  omega
def outA (w k m x:Nat):List (List Int):=preL w (k+1)++(((listsL w k).take m).flatMap (growN w)++(growN w ((listsL w k).getD m [])).take x)
def costsL (b:BK) (i:Nat) (w:Nat):List Int:=(linesL w).map (cost1 b i)
end Go.Den.Ve
end
section
namespace Go.Den
end Go.Den
namespace Go.Den.Ve
def LeastP (X:List (List Int)) (m:List Int→Int) (st:St) (v:PV) (st':St):Prop:=∃ u,v = .tuple [u,iv (minL m X)]∧RetW st (leastL m X).length ((leastL m X).flatMap encL) u st'
end Go.Den.Ve
end
section
namespace Go.Den.Ve
theorem cost_snoc(x:Sp):∀ s:List Sp,costL (s++[x])=costL s+if x.1=1 then 0 else 1
 | []=>by simp[costL]
 | y::s=>by rw[List.cons_append,costL,cost_snoc x s,costL];omega
theorem cost_le:∀ s:List Sp,costL s≤s.length
 | []=>Nat.le_refl _
 | x::s=>by have:=cost_le s;rw[costL,List.length_cons];split <;> omega
theorem soon_pre(s t:List Sp):∀ l:List Sp,soonL (l++s) (l++t)=soonL s t
 | []=>rfl
 | a::l=>by rw[List.cons_append,List.cons_append,soonL,if_pos rfl];exact soon_pre s t l
end Go.Den.Ve
end
section
namespace Go.Den.Ve
def anyArg (b:BP) (l1 l2:List Int):Bool:=smallB b&&(decide ((l1.length:Int)≤6)&&decide ((l2.length:Int)≤6))
end Go.Den.Ve
end
section
namespace Go.Den.Ve
end Go.Den.Ve
end
section
namespace Go.Den.Ve
end Go.Den.Ve
end
section
namespace Go.Den.Ve
def allH (X:List (List Int)) (l:List Int):Bool:=X.all fun x=>holdL x l
def allHK (X:List (List Int)) (l:List Int) (k:Nat):Bool:=(X.take k).all fun x=>holdL x l
def ComR (X:List (List Int)) (w:Nat):List Int:=commonR (allH X) [] (linesL w)
end Go.Den.Ve
end
section
namespace Go.Den.Ve
theorem same_at{a b:BP}(h:a.bk=b.bk):a.words=b.words∧∃ hl:a.cs.length=b.cs.length,∀ (i:Nat) (hi:i<a.cs.length),∃ hk:a.cs[i].ls.length=b.cs[i].ls.length,∀ (k:Nat) (hk':k<a.cs[i].ls.length),a.cs[i].ls[k].lost=b.cs[i].ls[k].lost∧a.cs[i].ls[k].l=b.cs[i].ls[k].l:=by
 have h1:a.words=b.words:=congrArg BK.words h
 have h2:a.cs.map CP.c=b.cs.map CP.c:=congrArg BK.copies h
 have hl:a.cs.length=b.cs.length:=by have:=congrArg List.length h2;simpa using this
 refine⟨h1,hl,fun i hi=>?_⟩
 have h3:a.cs[i].c=b.cs[i].c:=by
  have e:(a.cs.map CP.c)[i]? = (b.cs.map CP.c)[i]? := by rw[h2]
  rw[List.getElem?_map,List.getElem?_map,List.getElem?_eq_getElem hi,List.getElem?_eq_getElem (by omega)] at e
  exact Option.some.inj e
 have hk:a.cs[i].ls.length=b.cs[i].ls.length:=by have:=congrArg List.length h3;simpa using this
 refine⟨hk,fun k hk'=>?_⟩
 have h4:a.cs[i].ls[k].ln=b.cs[i].ls[k].ln:=by
  have e:(a.cs[i].ls.map LP.ln)[k]? = (b.cs[i].ls.map LP.ln)[k]? := by show a.cs[i].c[k]? = b.cs[i].c[k]?;rw[h3]
  rw[List.getElem?_map,List.getElem?_map,List.getElem?_eq_getElem hk',List.getElem?_eq_getElem (by omega)] at e
  exact Option.some.inj e
 exact⟨congrArg LN.lost h4,congrArg LN.words h4⟩
set_option maxHeartbeats 4000000 in
theorem c77(a b:BP)(h:a.bk=b.bk)(hN:SmB a)(hM:∀ c∈a.cs,∀ x∈c.ls,x.l.length<1000000)(st:St):Cl EE (.func 77 [] []) [a.pv,b.pv] st (.ret (.bool true)) st:=by
 have ha:=a.h
 have hb:=b.h
 have hn:=hN.n
 obtain⟨e1,e2,hall⟩:=same_at h
 have p1:(a.words != b.words)=false:=by rw[e1];simp
 have p2:((a.cs.length:Int) != b.cs.length)=false:=by rw[e2];simp
 refine cF2 pr77 fn77 (fun tm hl h0 h1=>?_)
 refine go2 (bw5 hl h0 h1 p1 p2) fnil ?_
 refine wp_for [5] (fun i vs S=>vs=[iv i]∧i≤a.cs.length∧S=(({ heap:=st.heap,lo:=st.heap.length }:St).push (.var [iv a.words,a.v])).push (.var [iv b.words,b.v])) (fun i=>a.cs.length - i) ⟨(sR hl),Nat.zero_le _,rfl⟩ ?_
 rintro i tm1 S ⟨hv,hi,rfl⟩ hS
 replace hv:=mv1 hv
 have hl1:tm1.length=92:=lN hS hl;have i2:tg tm1 2 = .ptr st.heap.length 0:=tQ hS hl;have i3:tg tm1 3 = .ptr (st.heap.length+1) 0:=tQ hS hl;clear hS
 refine go2 (bw3 hl1 hv i2) fnil ?_
 refine⟨decide ((i:Int)<a.cs.length),(sG hl1),fun hbi=>?_,fun hbi=>?_⟩
 ·refine go2 hl1 fnil ?_
  exact fQ hl1
 have hlt:i<a.cs.length:=by have:=of_decide_eq_true hbi;omega
 have hlt2:i<b.cs.length:=by omega
 have hwi:=wS i (by omega)
 refine⟨by omega,?_⟩
 obtain⟨e3,hin⟩:=hall i hlt
 have hA:=a.cs[i].h
 have hB:=b.cs[i].h
 have hak:=hN.k _ (List.getElem_mem hlt)
 have p3:((a.cs[i].ls.length:Int) != b.cs[i].ls.length)=false:=by rw[e3];simp
 refine go2 (bw5 hl1 hv i2 i3 p3) fnil ?_
 refine wp_for [6] (fun k vs S=>vs=[iv k]∧k≤a.cs[i].ls.length∧S=(({ heap:=st.heap,lo:=st.heap.length }:St).push (.var [iv a.words,a.v])).push (.var [iv b.words,b.v])) (fun k=>a.cs[i].ls.length - k) ⟨(sR hl1),Nat.zero_le _,rfl⟩ ?_
 rintro k tm2 S ⟨hv6,hk,rfl⟩ hS2
 replace hv6:=mv1 hv6
 have hl2:tm2.length=92:=lN hS2 hl1;have j2:tg tm2 2 = .ptr st.heap.length 0:=tQ hS2 (bw4 hl1 i2 i3 hv);have j3:tg tm2 3 = .ptr (st.heap.length+1) 0:=tQ hS2 (bw4 hl1 i2 i3 hv);have j5:tg tm2 5=iv i:=tQ hS2 (bw4 hl1 i2 i3 hv);clear hS2
 refine go2 (bw4 hl2 hv6 j2 j5) fnil ?_
 refine⟨decide ((k:Int)<a.cs[i].ls.length),(sG hl2),fun hbk=>?_,fun hbk=>?_⟩
 ·refine go2 (bw3 hl2 j5 hwi) fnil ?_
  exact⟨(sG hl2),by omega,rfl⟩
 have hltk:k<a.cs[i].ls.length:=by have:=of_decide_eq_true hbk;omega
 have hltk2:k<b.cs[i].ls.length:=by omega
 have hwk:=wS k (by omega)
 refine⟨by omega,?_⟩
 obtain⟨e4,e5⟩:=hin k hltk
 have p4:(a.cs[i].ls[k].lost==b.cs[i].ls[k].lost)=true:=by rw[e4];simp
 have hXa:=a.cs[i].ls[k].h
 have hXb:=b.cs[i].ls[k].h
 have k27:=fun st=>c27 a.cs[i].ls[k].w b.cs[i].ls[k].w a.cs[i].ls[k].l b.cs[i].ls[k].l hXa hXb (hM _ (List.getElem_mem hlt) _ (List.getElem_mem hltk)) st
 rw[e5,beq_self_eq_true] at k27
 refine go2 (bw7 hl2 hv6 j2 j3 j5 p4 hwk) (bw k27 fnil) ?_
 exact⟨(sG hl2),by omega,rfl⟩
theorem bk_small{a b:BP}(h:a.bk=b.bk)(hM:∀ c∈b.cs,∀ x∈c.ls,x.l.length<1000000):∀ c∈a.cs,∀ x∈c.ls,x.l.length<1000000:=fun c hc x hx=>by
 obtain⟨_,e2,hall⟩:=same_at h
 obtain⟨i,hi,rfl⟩:=List.mem_iff_getElem.1 hc
 obtain⟨k,hk,rfl⟩:=List.mem_iff_getElem.1 hx
 obtain⟨e3,hin⟩:=hall i hi
 rw[(hin k hk).2]
 exact hM _ (List.getElem_mem _) _ (List.getElem_mem _)
def nilB:BP:=⟨0,.nilslice,[],.nil⟩
end Go.Den.Ve
end
section
namespace Go.Den.Ve
theorem c158m(n:Nat)(h0:1≤n)(h:n<10):∃ d:List UInt8,d.length≤3∧∀ st,Cl EE (.func 158 [] []) [iv (-(n:Int))] st (.ret (.str (toB d))) st:=by
 have d1:decide (-(n:Int) > -10)=true:=by simp;omega
 have d2:decide (-(n:Int)<0)=true:=by simp;omega
 have w1:IntKind.wrap .i64 (48 - (-(n:Int)))=((48+n:Nat):Int):=by rw[show 48 - (-(n:Int))=((48+n:Nat):Int) by omega];exact wrap_nat (by omega)
 have w2:IntKind.wrap .u8 ((48+n:Nat):Int)=((48+n:Nat):Int):=wrap8 (by omega)
 refine⟨[45]++[UInt8.ofNat (48+n)],by simp,fun st=>?_⟩
 refine cF1 pr158 fn158 (fun tm hl h0=>?_)
 refine go2 (bw6 hl h0 d1 d2 w1 w2) fnil ?_
 refine wops_one (v := .str (toB [UInt8.ofNat (48+n)])) rfl (fun rec=>step_b2s (sR hl) (by omega)) ?_
 refine wops_add (s:=[45]) (t:=[UInt8.ofNat (48+n)]) rfl rfl (sR hl) (sR hl) (by simp) ?_
 refine go2 hl fnil ?_
 exact fnq_flat (results_one (by rw[rdRes_tmp];simp only[↓reduceIte,go_sem,hl];first|done|rfl)) (by first|exact Nat.le_refl _|(simp only[lo_push];omega)) (by rfl)
theorem c158n(n:Nat)(h0:1≤n)(h1:n<100):∃ d:List UInt8,∀ st,Cl EE (.func 158 [] []) [iv (-(n:Int))] st (.ret (.str (toB d))) st:=by
 by_cases h:n<10
 ·obtain⟨d,_,h⟩:=c158m n h0 h
  exact⟨d,h⟩
 ·obtain⟨d,hdl,hd⟩:=c158m (n / 10) (by omega) (by omega)
  have d1:decide (-(n:Int) > -10)=false:=by simp;omega
  have d2:decide (-(n:Int)<0)=true:=by simp;omega
  have hz:((10:Int)=0)=False:=by simp
  have w0:IntKind.wrap .i64 (Int.tdiv (-(n:Int)) 10) = -((n / 10:Nat):Int):=by
   rw[Int.neg_tdiv,Int.tdiv_eq_ediv_of_nonneg (by omega),wrap_in (by unfold inI;omega)];rfl
  have w3:Int.tmod (-(n:Int)) 10 = -((n % 10:Nat):Int):=by
   rw[Int.neg_tmod,Int.tmod_eq_emod_of_nonneg (by omega)];rfl
  have w1:IntKind.wrap .i64 (48 - (-((n % 10:Nat):Int)))=((48+n % 10:Nat):Int):=by rw[show 48 - (-((n % 10:Nat):Int))=((48+n % 10:Nat):Int) by omega];exact wrap_nat (by omega)
  have w2:IntKind.wrap .u8 ((48+n % 10:Nat):Int)=((48+n % 10:Nat):Int):=wrap8 (by omega)
  have o1:(d.length+1≤1000000)=True:=by simp only[eq_iff_iff,iff_true];omega
  refine⟨d++[UInt8.ofNat (48+n % 10)],fun st=>?_⟩
  refine cF1 pr158 fn158 (fun tm hl h0=>?_)
  refine go2 (bw9 hl h0 d1 d2 w0 w1 w2 w3 hz) (bw hd fnil) ?_
  refine wopsD_pure (v := .str (toB [UInt8.ofNat (48+n % 10)])) (by first|omega|exact Nat.le_refl _) (sR hl) (fun rec st1 he=>step_b2s (sR hl) (by omega)) ?_
  refine go2 (bw hl o1) fnil ?_
  exact fnq_flat (results_one (by rw[rdRes_tmp];simp only[↓reduceIte,go_sem,hl];first|done|rfl)) (by first|exact Nat.le_refl _|(simp only[lo_push];omega)) (by rfl)
set_option maxHeartbeats 16000000 in
theorem c159(w:List UInt8)(hwl:w.length≤1000):∃ v b,NumP w v b∧∀ st,Cl EE (.func 159 [] []) [.str (toB w),iv 2] st (.ret (.tuple [iv v,.bool b])) st:=by
 obtain⟨s,sg,hs⟩:∃ (s:List UInt8) (sg:Int),((sg=1∧s=w∧∀ t,w≠45::t)∨(sg = -1∧w=45::s)):=by
  cases w with
  | nil=>exact⟨[],1,.inl ⟨rfl,rfl,fun t h=>by cases h⟩⟩
  | cons b t =>
   by_cases hb:b=45
   ·subst hb;exact⟨t,-1,.inr ⟨rfl,rfl⟩⟩
   ·exact⟨b::t,1,.inl ⟨rfl,rfl,fun u h=>by cases h;exact hb rfl⟩⟩
 have hneg:sg = -1→numB w=false:=fun h=>by
  rcases hs with ⟨h2,_⟩|⟨_,h2⟩
  ·omega
  ·exact numB_dig ⟨45,by rw[h2];simp,rfl⟩
 have hsw:sg=1→s=w:=fun h=>by
  rcases hs with ⟨_,h2,_⟩|⟨h2,_⟩
  ·exact h2
  ·omega
 have hsg:sg=1∨sg = -1:=by rcases hs with ⟨h,_⟩|⟨h,_⟩ <;> simp[h]
 have hsl:s.length≤1000:=by
  rcases hs with ⟨_,h,_⟩|⟨_,h⟩
  ·rw[h];exact hwl
  ·rw[h] at hwl;simp at hwl;omega
 have hdec:(∀ b∈s,isDig b=true)→s.length≤2→∃ d:List UInt8,(sg=1→d=itoaL (valL s))∧(sg = -1→valL s=0→d=[48])∧∀ st,Cl EE (.func 158 [] []) [iv (sg*(valL s:Int))] st (.ret (.str (toB d))) st:=fun h1 h2=>by
  have hv:=valL_bound (List.all_eq_true.2 h1) h2
  rcases hsg with rfl|rfl
  ·refine⟨itoaL (valL s),fun _=>rfl,fun h=>by omega,fun st=>?_⟩
   have:=c158 (valL s:Int) (by omega) (by omega) st
   rw[Int.toNat_natCast] at this
   rw[Int.one_mul];exact this
  ·by_cases h0:valL s=0
   ·refine⟨[48],fun h=>by omega,fun _ _=>rfl,fun st=>?_⟩
    rw[h0]
    exact c158 0 (by omega) (by omega) st
   ·obtain⟨d,hd⟩:=c158n (valL s) (by omega) hv
    exact⟨d,fun h=>by omega,fun _ h=>absurd h h0,fun st=>by rw[show (-1:Int)*(valL s:Int) = -((valL s:Nat):Int) by omega];exact hd st⟩
 obtain⟨v,b,hN,hcase⟩:∃ v b,NumP w v b∧(((s.length<1∨2<s.length)∧v=0∧b=false)∨((1≤s.length∧s.length≤2)∧(∃ i,∃ hi:i<s.length,isDig s[i]=false∧∀ j,∀ hj:j<s.length,j<i→isDig s[j]=true)∧v=0∧b=false)∨((1≤s.length∧s.length≤2)∧(∀ b∈s,isDig b=true)∧∃ d:List UInt8,v=sg*(valL s:Int)∧b=(d==w)∧∀ st,Cl EE (.func 158 [] []) [iv (sg*(valL s:Int))] st (.ret (.str (toB d))) st)):=by
  by_cases hl:s.length<1∨2<s.length
  ·refine⟨0,false,numP_no ?_,.inl ⟨hl,rfl,rfl⟩⟩
   rcases hsg with h|h
   ·rw[← hsw h]
    unfold numB
    rcases hl with hl|hl
    ·have:s=[]:=List.eq_nil_of_length_eq_zero (by omega)
     rw[this];rfl
    ·rw[decide_eq_false (show ¬ s.length≤2 by omega)];simp
   ·exact hneg h
  ·by_cases hd:∀ b∈s,isDig b=true
   ·obtain⟨d,hd1,hd2,hd3⟩:=hdec hd (by omega)
    refine⟨sg*(valL s:Int),d==w,?_,.inr (.inr ⟨by omega,hd,d,rfl,rfl,hd3⟩)⟩
    rcases hsg with h|h
    ·have e1:=hd1 h
     have e2:=hsw h
     subst e2
     subst h
     have en:numB s=(itoaL (valL s)==s):=by
      unfold numB
      rw[List.all_eq_true.2 hd,decide_eq_true (show s.length≤2 by omega)]
      have:(s==[])=false:=by
       rw[beq_eq_false_iff_ne];rintro rfl;simp at hl
      rw[this];rfl
     rw[e1,Int.one_mul]
     exact⟨(fun h=>⟨(by rw[← en];exact h),rfl⟩),(fun h1 h2=>by rw[en] at h2;rw[h2] at h1;cases h1)⟩
    ·refine⟨(fun h2=>by rw[hneg h] at h2;cases h2),fun h1 _=>?_⟩
     have hv0:valL s≠0:=fun h0=>by
      rw[hd2 h h0] at h1
      rcases hs with ⟨h3,_⟩|⟨_,h3⟩
      ·omega
      ·rw[h3] at h1
       have:=beq_iff_eq.1 h1
       cases this
     rw[h];omega
   ·have hx:∃ i,∃ hi:i<s.length,isDig s[i]=false∧∀ j,∀ hj:j<s.length,j<i→isDig s[j]=true:=by
     have:∀ n,n≤s.length→(∀ j,∀ hj:j<s.length,j<n→isDig s[j]=true)∨∃ i,∃ hi:i<s.length,isDig s[i]=false∧∀ j,∀ hj:j<s.length,j<i→isDig s[j]=true:=by
      intro n
      induction n with
      | zero=>intro _;exact .inl fun j _ h=>absurd h (by omega)
      | succ n ih =>
       intro hn
       rcases ih (by omega) with h1|h1
       ·cases hq:isDig (s[n]'(by omega)) with
        | false=>exact .inr ⟨n,by omega,hq,h1⟩
        | true =>
         refine .inl fun j hj hjn=>?_
         by_cases e:j=n
         ·subst e;exact hq
         ·exact h1 j hj (by omega)
       ·exact .inr h1
     rcases this s.length (Nat.le_refl _) with h1|h1
     ·exact absurd (fun b hb=>by obtain⟨j,hj,rfl⟩:=List.getElem_of_mem hb;exact h1 j hj hj) hd
     ·exact h1
    refine⟨0,false,numP_no ?_,.inr (.inl ⟨by omega,hx,rfl,rfl⟩)⟩
    rcases hsg with h|h
    ·obtain⟨i,hi,h1,_⟩:=hx
     rw[← hsw h]
     exact numB_dig ⟨s[i],List.getElem_mem hi,h1⟩
    ·exact hneg h
 refine⟨v,b,hN,fun st=>?_⟩
 have wk0:((0:Int)≤0)=True:=by simp
 have wt0:Int.toNat 0=0:=rfl
 refine cF2 pr159 fn159 (fun tm hl h0 h1=>?_)
 refine wp_seqK (fun tm S=>tm.length=63∧tg tm 0 = .str (toB w)∧tg tm 1=iv 2∧S=({ heap:=st.heap,lo:=st.heap.length }:St)) ?_ ?_
 ·refine go2 (bw3 hl h0 h1) fnil ?_
  exact⟨(sG hl),(sG (bw hl h0)),(sG (bw hl h1)),rfl⟩
 clear hl h0 h1 tm
 rintro tm S ⟨hl,h0,h1,rfl⟩
 refine wp_seqK (fun tm S=>tm.length=63∧tg tm 0 = .str (toB w)∧tg tm 1=iv 2∧tg tm 6=iv 1∧tg tm 7 = .str (toB w)∧S=({ heap:=st.heap,lo:=st.heap.length }:St)) ?_ ?_
 ·refine go2 (bw3 hl h0 h1) fnil ?_
  exact⟨(sG hl),(sG (bw hl h0)),(sG (bw hl h1)),(sG hl),(sG hl),rfl⟩
 clear hl h0 h1 tm
 rintro tm S ⟨hl,h0,h1,h6,h7,rfl⟩
 refine wp_seqK (fun tm S=>tm.length=63∧tg tm 0 = .str (toB w)∧tg tm 1=iv 2∧tg tm 6=iv sg∧tg tm 7 = .str (toB s)∧S=({ heap:=st.heap,lo:=st.heap.length }:St)) ?_ ?_
 ·rcases hs with ⟨rfl,rfl,hw⟩|⟨rfl,rfl⟩
  ·cases s with
   | nil =>
    have x1:decide (((0:Nat):Int)>0)=false:=rfl
    refine go2 (bw6 hl h0 h1 h6 h7 x1) fnil ?_
    exact⟨(sG hl),(sG (bw hl h0)),(sG (bw hl h1)),(sG (bw hl h6)),(sG (bw hl h7)),rfl⟩
   | cons b t =>
    have x1:decide (((t.length+1:Nat):Int)>0)=true:=by rw[decide_eq_true_eq];omega
    have hix:(toB (b::t))[0]? = some b:=getElem?_toB (b::t) 0 (by simp)
    have x2:((b.toNat:Int)==45)=false:=by
     rw[beq_eq_false_iff_ne]
     intro h
     have hb:b.toNat=(45:UInt8).toNat:=by
      have:b.toNat=45:=by omega
      exact this
     exact hw t (by rw[UInt8.toNat_inj.1 hb])
    refine go2 (bw11 hl h0 h1 h6 h7 x1 x2 @op_indexStr wk0 wt0 hix) fnil ?_
    exact⟨(sG hl),(sG (bw hl h0)),(sG (bw hl h1)),(sG (bw hl h6)),(sG (bw hl h7)),rfl⟩
  ·have x1:decide (((s.length+1:Nat):Int)>0)=true:=by rw[decide_eq_true_eq];omega
   have hix:(toB (45::s))[0]? = some 45:=getElem?_toB (45::s) 0 (by simp)
   have x2:(((45:UInt8).toNat:Int)==45)=true:=rfl
   refine go2 (bw11 hl h0 h1 h6 h7 x1 x2 @op_indexStr wk0 wt0 hix) fnil ?_
   refine wopsD_pure (v := .str (toB s)) (by first|omega|exact Nat.le_refl _) (sR hl) (fun rec st1 he=>by
    rw[step_subs (s:=45::s) (a:=1) (b:=s.length+1) (sR (bw hl h7)) (by rfl) (by rfl) (by omega) (by simp)]
    simp) ?_
   refine go2 hl fnil ?_
   exact⟨(sG hl),(sG (bw hl h0)),(sG (bw hl h1)),(sG hl),(sG hl),rfl⟩
 clear hl h0 h1 h6 h7 tm
 rintro tm S ⟨hl,h0,h1,h6,h7,rfl⟩
 have r1:s.length<1∨2<s.length→decide ((s.length:Int)<1)=true∨(decide ((s.length:Int)<1)=false∧decide ((s.length:Int)>2)=true):=fun h=>by
  rcases h with h|h
  ·exact .inl (decide_eq_true (by omega))
  ·exact .inr ⟨decide_eq_false (by omega),decide_eq_true (by omega)⟩
 rcases hcase with ⟨hl2,rfl,rfl⟩|hrest
 ·rcases r1 hl2 with x1|⟨x1,x2⟩
  ·refine go2 (bw6 hl h0 h1 h6 h7 x1) fnil ?_
   refine fnq_tuple (results_two (v:=iv 0) (u := .bool false) ?_ ?_) (by first|omega|exact Nat.le_refl _) (by rfl)
   ·rw[rdRes_tmp];simp only[↓reduceIte,go_sem,hl]
   ·rw[rdRes_tmp];simp only[↓reduceIte,go_sem,hl]
  ·refine go2 (bw7 hl h0 h1 h6 h7 x1 x2) fnil ?_
   refine fnq_tuple (results_two (v:=iv 0) (u := .bool false) ?_ ?_) (by first|omega|exact Nat.le_refl _) (by rfl)
   ·rw[rdRes_tmp];simp only[↓reduceIte,go_sem,hl]
   ·rw[rdRes_tmp];simp only[↓reduceIte,go_sem,hl]
 have hl12:1≤s.length∧s.length≤2:=by rcases hrest with ⟨h,_⟩|⟨h,_⟩ <;> exact h
 have x1:decide ((s.length:Int)<1)=false:=decide_eq_false (by omega)
 have x2:decide ((s.length:Int)>2)=false:=decide_eq_false (by omega)
 have hbound:∀ i,(∀ j,∀ hj:j<s.length,j<i→isDig s[j]=true)→valL (s.take i)<100:=fun i h=>valL_bound (List.all_eq_true.2 fun b hb=>by
  obtain⟨j,hj,rfl⟩:=List.getElem_of_mem hb
  rw[List.length_take] at hj
  rw[List.getElem_take]
  exact h j (by omega) (by omega)) (by rw[List.length_take];omega)
 refine go2 (bw7 hl h0 h1 h6 h7 x1 x2) fnil ?_
 refine wp_for [9,8] (fun i vs S=>vs=[iv i,iv (valL (s.take i):Nat)]∧i≤s.length∧(∀ j,∀ hj:j<s.length,j<i→isDig s[j]=true)∧S=({ heap:=st.heap,lo:=st.heap.length }:St)) (fun i=>s.length - i) ⟨(sR hl),Nat.zero_le _,(fun j _ hj=>absurd hj (by omega)),rfl⟩ ?_
 rintro i tm1 S ⟨hv,hi,hall,rfl⟩ hS
 obtain⟨hv9,hv8⟩:=mv2 hv
 have hl1:tm1.length=63:=lN hS hl;have i0:tg tm1 0 = .str (toB w):=tQ hS (bw4 hl h0 h6 h7);have i6:tg tm1 6=iv sg:=tQ hS (bw4 hl h0 h6 h7);have i7:tg tm1 7 = .str (toB s):=tQ hS (bw4 hl h0 h6 h7);clear hS
 refine go2 (bw3 hl1 hv9 i7) fnil ?_
 refine⟨decide ((i:Int)<s.length),(sG hl1),fun hb=>?_,fun hb1=>?_⟩
 ·have hlt:=of_decide_eq_false hb
  obtain rfl:i=s.length:=by omega
  rcases hrest with ⟨_,⟨j,hj,hj1,_⟩,_⟩|⟨_,_,d,rfl,rfl,hd⟩
  ·rw[hall j hj hj] at hj1;cases hj1
  ·have hvb:=hbound s.length (fun j hj _=>hall j hj hj)
   rw[List.take_length] at hv8 hvb
   have hm:IntKind.wrap .i64 (sg*(valL s:Int))=sg*(valL s:Int):=wrap_in (by unfold inI;rcases hsg with rfl|rfl <;> omega)
   refine go2 (bw5 hl1 hv8 i0 i6 hm) (bw hd fnil) ?_
   refine fnq_tuple (results_two (v:=iv (sg*(valL s:Int))) (u := .bool (d==w)) ?_ ?_) (by first|omega|exact Nat.le_refl _) (by rfl)
   ·rw[rdRes_tmp];simp only[↓reduceIte,go_sem,hl1]
   ·rw[rdRes_tmp];simp only[↓reduceIte,go_sem,hl1]
 have hlt:i<s.length:=by have:=of_decide_eq_true hb1;omega
 have hw1:=wS i (by omega)
 have hix:=getElem?_toB s i hlt
 have hk0:((0:Int)≤(i:Int))=True:=by simp
 have hvb:=hbound i hall
 have hvt:=valL_take hlt
 have hb255:s[i].toNat<256:=s[i].toNat_lt
 refine⟨by omega,?_⟩
 cases hdg:isDig s[i]
 ·have hv0:v=0∧b=false:=by
   rcases hrest with ⟨_,_,h1,h2⟩|⟨_,h,_⟩
   ·exact⟨h1,h2⟩
   ·rw[h _ (List.getElem_mem hlt)] at hdg;cases hdg
  obtain⟨rfl,rfl⟩:=hv0
  simp only[isDig,Bool.and_eq_false_iff,decide_eq_false_iff_not] at hdg
  by_cases h48:s[i].toNat<48
  ·have y1:decide ((s[i].toNat:Int)<48)=true:=decide_eq_true (by omega)
   refine go2 (bw8 hl1 hv9 i7 @op_indexStr hk0 Int.toNat_natCast hix y1) fnil ?_
   refine fnq_tuple (results_two (v:=iv 0) (u := .bool false) ?_ ?_) (by first|omega|exact Nat.le_refl _) (by rfl)
   ·rw[rdRes_tmp];simp only[↓reduceIte,go_sem,hl1]
   ·rw[rdRes_tmp];simp only[↓reduceIte,go_sem,hl1]
  ·have y1:decide ((s[i].toNat:Int)<48)=false:=decide_eq_false (by omega)
   have y2:decide ((s[i].toNat:Int)>57)=true:=decide_eq_true (by omega)
   refine go2 (bw9 hl1 hv9 i7 @op_indexStr hk0 Int.toNat_natCast hix y1 y2) fnil ?_
   refine fnq_tuple (results_two (v:=iv 0) (u := .bool false) ?_ ?_) (by first|omega|exact Nat.le_refl _) (by rfl)
   ·rw[rdRes_tmp];simp only[↓reduceIte,go_sem,hl1]
   ·rw[rdRes_tmp];simp only[↓reduceIte,go_sem,hl1]
 ·have hdg':=hdg
  simp only[isDig,Bool.and_eq_true,decide_eq_true_eq] at hdg'
  have y1:decide ((s[i].toNat:Int)<48)=false:=decide_eq_false (by omega)
  have y2:decide ((s[i].toNat:Int)>57)=false:=decide_eq_false (by omega)
  have wa:IntKind.wrap .i64 (10*(valL (s.take i):Int))=((10*valL (s.take i):Nat):Int):=by rw[show 10*(valL (s.take i):Int)=((10*valL (s.take i):Nat):Int) by omega];exact wrap_nat (by omega)
  have wb:IntKind.wrap .u8 ((s[i].toNat:Int) - 48)=((s[i].toNat - 48:Nat):Int):=by rw[show (s[i].toNat:Int) - 48=((s[i].toNat - 48:Nat):Int) by omega];exact wrap8 (by omega)
  have wc:IntKind.wrap .i64 ((s[i].toNat - 48:Nat):Int)=((s[i].toNat - 48:Nat):Int):=wrap_nat (by omega)
  have wd:IntKind.wrap .i64 (((10*valL (s.take i):Nat):Int)+((s[i].toNat - 48:Nat):Int))=((valL (s.take (i+1)):Nat):Int):=by rw[hvt,← Int.natCast_add];exact wrap_nat (by omega)
  refine go2 (bw15 hl1 hv9 hv8 i7 @op_indexStr hk0 Int.toNat_natCast hix y1 y2 wa wb wc wd hw1) fnil ?_
  refine⟨(sG hl1),by omega,fun j hj hji=>?_,rfl⟩
  by_cases e:j=i
  ·subst e;exact hdg
  ·exact hall j hj (by omega)
set_option maxHeartbeats 8000000 in
theorem c127(s:List UInt8)(y:UInt8)(hs:s.length≤1000)(st:St):ClR EE (.func 127 [] []) [.str (toB s),.int .u8 y.toNat] st (RetS st 1 (splitL y [] s).length ((splitL y [] s).flatMap encS)):=by
 refine cG2 pr127 fn127 (fun tm hl h0 h1=>?_)
 refine go2 (bw3 hl h0 h1) fnil ?_
 refine wp_for [7,6,5] (fun i vs S=>∃ (X:List (List UInt8)) (f:Nat) (v:PV),vs=[iv i,iv f,v]∧i≤s.length∧f≤i∧splitL y [] s=X++splitL y ((s.take i).drop f) (s.drop i)∧X.length≤i∧OwnS st.heap.length S 1 v X.length (X.flatMap encS)∧Fr st.heap.length ({ heap:=st.heap,lo:=st.heap.length }:St) S) (fun i=>s.length - i) ⟨[],0,_,(sR hl),Nat.zero_le _,Nat.le_refl _,by simp,Nat.le_refl _,.nil,.refl _ _⟩ ?_
 rintro i tm1 S ⟨X,f,v,hv,hi,hfi,hX,hXl,hO,hFr⟩ hS
 obtain⟨hv7,hv6,hv5⟩:=mv3 hv
 have hl1:tm1.length=34:=lN hS hl;have i0:tg tm1 0 = .str (toB s):=tQ hS (bw3 hl h0 h1);have i1:tg tm1 1 = .int .u8 y.toNat:=tQ hS (bw3 hl h0 h1);clear hS
 have w1:=hFr.len
 have w2:=hFr.lo
 have w3:=hFr.up
 simp only at w1 w2 w3
 refine go2 (bw3 hl1 hv7 i0) fnil ?_
 refine⟨decide ((i:Int)<s.length),(sG hl1),fun hb=>?_,fun hb1=>?_⟩
 ·have hlt:=of_decide_eq_false hb
  obtain rfl:i=s.length:=by omega
  have e:splitL y [] s=X++[s.drop f]:=by rw[hX,List.drop_length,List.take_length];rfl
  rw[e]
  refine go2 (bw4 hl1 hv5 hv6 i0) fnil ?_
  refine wops_one (v := .str (toB (s.drop f))) rfl (fun rec=>by
   rw[step_subs (s:=s) (a:=f) (b:=s.length) (sR (bw hl1 i0)) (by rfl) (by simp only[bound];simp only[↓reduceIte,go_sem,hl1,hv6];simp) hfi (Nat.le_refl _)]
   rw[List.take_of_length_le (by simp)]) ?_
  refine go2 (bw hl1 hv5) fnil ?_
  refine wops_append (m:=st.heap.length) rfl rfl (sR (bw hl1 hv5)) (sR hl1) hO.push rfl (by simp only[len_push];omega) (by rfl) (by rfl) (by simp only[maxList];omega) ?_
  intro v' s3 hO' hFr' hk
  have x2:=hFr'.lo
  simp only[lo_push] at x2
  refine go2 hl1 fnil ?_
  refine fnr_ret (results_one (v:=v') (by rw[rdRes_tmp];simp only[↓reduceIte,go_sem,hl1])) (OwnS.finish (st1:=s3) (n:=(X++[s.drop f]).length) (by simpa[share_str,encS] using hO') (by omega) (fun m c hc=>encS_low _ m c hc))
 have hlt:i<s.length:=by have:=of_decide_eq_true hb1;omega
 have hw1:=wS i (by omega)
 have hix:=getElem?_toB s i hlt
 have hk0:((0:Int)≤(i:Int))=True:=by simp
 have hdr:s.drop i=s[i]::s.drop (i+1):=List.drop_eq_getElem_cons hlt
 have htk:s.take (i+1)=s.take i++[s[i]]:=List.take_succ_eq_append_getElem hlt
 refine⟨by omega,?_⟩
 cases hx:((s[i].toNat:Int)==(y.toNat:Int))
 ·have hne:s[i]≠y:=fun h=>by rw[h] at hx;simp at hx
  have e:splitL y [] s=X++splitL y ((s.take (i+1)).drop f) (s.drop (i+1)):=by
   rw[hX,hdr,splitL,if_neg hne,htk,List.drop_append_of_le_length (by rw[List.length_take];omega)]
  refine go2 (bw10 hl1 hv7 i0 i1 @op_indexStr hk0 Int.toNat_natCast hix hx hw1) fnil ?_
  exact⟨X,f,v,(sG (bw3 hl1 hv6 hv5)),by omega,by omega,e,by omega,hO,hFr⟩
 ·have heq:s[i]=y:=UInt8.toNat_inj.1 (by have:=beq_iff_eq.1 hx;omega)
  have e:splitL y [] s=(X++[(s.take i).drop f])++splitL y ((s.take (i+1)).drop (i+1)) (s.drop (i+1)):=by
   rw[hX,hdr,splitL,if_pos heq,show (s.take (i+1)).drop (i+1)=[] from List.drop_of_length_le (by rw[List.length_take];omega)];simp
  have hsub:(s.drop f).take (i - f)=(s.take i).drop f:=by rw[List.drop_take]
  refine go2 (bw11 hl1 hv7 hv6 hv5 i0 i1 @op_indexStr hk0 Int.toNat_natCast hix hx) fnil ?_
  refine wops_one (v := .str (toB ((s.take i).drop f))) rfl (fun rec=>by
   rw[step_subs (s:=s) (a:=f) (b:=i) (sR (bw hl1 i0)) (by simp only[bound];simp only[↓reduceIte,go_sem,hl1,hv7];simp) (by simp only[bound];simp only[↓reduceIte,go_sem,hl1,hv6];simp) hfi hi]
   rw[hsub]) ?_
  refine go2 (bw hl1 hv5) fnil ?_
  refine wops_append (m:=st.heap.length) rfl rfl (sR (bw hl1 hv5)) (sR hl1) hO.push rfl (by simp only[len_push];omega) (by rfl) (by rfl) (by simp only[maxList];omega) ?_
  intro v' s3 hO' hFr' hk
  refine go2 (bw3 hl1 hv7 hw1) fnil ?_
  exact⟨X++[(s.take i).drop f],i+1,v',(sG hl1),by omega,Nat.le_refl _,e,by simp;omega,by simpa[share_str,encS] using hO',(hFr.push (by omega)).trans hFr'⟩
theorem num_fun:∃ R:List UInt8→Int×Bool,∀ w,w.length≤1000→NumP w (R w).1 (R w).2∧∀ st,Cl EE (.func 159 [] []) [.str (toB w),iv 2] st (.ret (.tuple [iv (R w).1,.bool (R w).2])) st:=by
 have h:∀ w:List UInt8,∃ r:Int×Bool,w.length≤1000→NumP w r.1 r.2∧∀ st,Cl EE (.func 159 [] []) [.str (toB w),iv 2] st (.ret (.tuple [iv r.1,.bool r.2])) st:=fun w=>by
  by_cases hw:w.length≤1000
  ·obtain⟨v,b,h1,h2⟩:=c159 w hw
   exact⟨(v,b),fun _=>⟨h1,h2⟩⟩
  ·exact⟨(0,false),fun h=>absurd h hw⟩
 exact⟨fun w=>Classical.choose (h w),fun w=>Classical.choose_spec (h w)⟩
theorem share_el{P:PV}{ns:List Int}(h:SlOf 1 encI P ns)(hz:ns=[]→P = .nilslice):P.share=elL ns:=by
 cases ns with
 | nil=>rw[hz rfl];rfl
 | cons x l =>
  have h1:=h.sl
  cases P <;> simp only[PV.sl,Option.some.injEq,Prod.mk.injEq,reduceCtorEq] at h1
  ·obtain⟨rfl,rfl⟩:=h1;rfl
  ·exact h1.1.elim
set_option maxHeartbeats 8000000 in
theorem c128(V:PV)(ws:List (List UInt8))(hV:SlOf 1 encS V ws)(hw:∀ w∈ws,w.length≤1000)(hN:ws.length≤1001):∃ ns b,NumsP ws ns b∧(b=false→ns=[])∧∀ st,ClR EE (.func 128 [] []) [V,iv 2] st (fun v st'=>∃ P,v = .tuple [P,.bool b]∧SlOf 1 encI P ns∧P.share=elL ns∧Keep st st'):=by
 obtain⟨R,hR⟩:=num_fun
 have hVs:=hV.slen
 have hall:ws.all numB=true→ws.all (fun w=>(R w).2)=true:=fun h=>List.all_eq_true.2 fun w hm=>((hR w (hw w hm)).1.1 (List.all_eq_true.1 h w hm)).1
 cases hb:ws.all (fun w=>(R w).2)
 ·refine⟨[],false,⟨(fun h=>by rw[hall h] at hb;cases hb),(fun h=>by cases h)⟩,fun _=>rfl,fun st=>?_⟩
  refine cG2 pr128 fn128 (fun tm hl h0 h1=>?_)
  refine go2 (bw3 hl h0 h1) fnil ?_
  refine wp_for [7,6] (fun i vs S=>∃ v,vs=[iv i,v]∧i≤ws.length∧(∀ j,∀ hj:j<ws.length,j<i→(R ws[j]).2=true)∧OwnS st.heap.length S 1 v i (((ws.take i).map fun w=>(R w).1).flatMap encI)∧Fr st.heap.length ({ heap:=st.heap,lo:=st.heap.length }:St) S) (fun i=>ws.length - i) ⟨_,(sR hl),Nat.zero_le _,(fun j _ hj=>absurd hj (by omega)),.nil,.refl _ _⟩ ?_
  rintro i tm1 S ⟨v,hv,hi,hok,hO,hFr⟩ hS
  obtain⟨hv7,hv6⟩:=mv2 hv
  have hl1:tm1.length=32:=lN hS hl;have i0:tg tm1 0=V:=tQ hS (bw3 hl h0 h1);have i1:tg tm1 1=iv 2:=tQ hS (bw3 hl h0 h1);clear hS
  have w1:=hFr.len
  have w2:=hFr.lo
  have w3:=hFr.up
  simp only at w1 w2 w3
  refine go2 (bw4 hl1 hv7 i0 hVs) fnil ?_
  refine⟨decide ((i:Int)<ws.length),(sG hl1),fun hb2=>?_,fun hb1=>?_⟩
  ·have hlt:=of_decide_eq_false hb2
   exfalso
   have:ws.all (fun w=>(R w).2)=true:=List.all_eq_true.2 fun w hm=>by
    obtain⟨j,hj,rfl⟩:=List.getElem_of_mem hm
    exact hok j hj (by omega)
   rw[this] at hb;cases hb
  have hlt:i<ws.length:=by have:=of_decide_eq_true hb1;omega
  have hw1:=wS i (by omega)
  have kR:=(hR ws[i] (hw _ (List.getElem_mem hlt))).2
  refine⟨by omega,?_⟩
  cases hr:(R ws[i]).2
  ·rw[hr] at kR
   refine go2 (bw4 hl1 hv7 i0 i1) (bw kR fnil) ?_
   refine fnr_ret (v := .tuple [.nilslice,.bool false]) (results_two (by rw[rdRes_tmp];simp only[↓reduceIte,go_sem,hl1]) (by rw[rdRes_tmp];simp only[↓reduceIte,go_sem,hl1])) ?_
   obtain⟨v',e1,hW⟩:=finish_slT (st:=st) (st1:=S) (v := .nilslice) (vs:=[.bool false]) (n:=0) (cs:=[]) rfl (by rfl) (by omega) (fun m=>rfl)
   rw[e1]
   rw[finish_tuple (by omega) (by rfl)] at e1
   have e2:PV.nilslice=v':=by injection e1 with e1;injection e1
   exact⟨v',rfl,retI (l:=[]) hW,by rw[← e2];rfl,keepW hW⟩
  ·rw[hr] at kR
   have htk:(ws.take (i+1)).map (fun w=>(R w).1)=(ws.take i).map (fun w=>(R w).1)++[(R ws[i]).1]:=by rw[List.take_succ_eq_append_getElem hlt,List.map_append];rfl
   refine go2 (bw5 hl1 hv7 hv6 i0 i1) (bw kR fnil) ?_
   refine wops_append (m:=st.heap.length) rfl rfl (sR (bw hl1 hv6)) (sR hl1) hO.push rfl (by simp only[len_push];omega) (by rfl) (by rfl) (by simp only[maxList];omega) ?_
   intro v' s3 hO' hFr' hk
   refine go2 (bw3 hl1 hv7 hw1) fnil ?_
   refine⟨v',(sG hl1),by omega,fun j hj hji=>?_,by rw[htk];simpa[share_int] using hO',(hFr.push (by omega)).trans hFr'⟩
   by_cases e:j=i
   ·subst e;exact hr
   ·exact hok j hj (by omega)
 ·have hallR:∀ w∈ws,(R w).2=true:=fun w hm=>List.all_eq_true.1 hb w hm
  refine⟨ws.map fun w=>(R w).1,true,⟨fun _=>rfl,fun _=>⟨by simp,fun h=>?_,fun h=>?_⟩⟩,(fun h=>by cases h),fun st=>?_⟩
  ·exact List.map_congr_left fun w hm=>((hR w (hw w hm)).1.1 (List.all_eq_true.1 h w hm)).2
  ·obtain⟨w,hm,hn⟩:=List.all_eq_false.1 h
   exact⟨(R w).1,List.mem_map.2 ⟨w,hm,rfl⟩,(hR w (hw w hm)).1.2 (hallR w hm) (by simpa using hn)⟩
  refine cG2 pr128 fn128 (fun tm hl h0 h1=>?_)
  refine go2 (bw3 hl h0 h1) fnil ?_
  refine wp_for [7,6] (fun i vs S=>∃ v,vs=[iv i,v]∧i≤ws.length∧(i=0→v = .nilslice)∧OwnS st.heap.length S 1 v i (((ws.take i).map fun w=>(R w).1).flatMap encI)∧Fr st.heap.length ({ heap:=st.heap,lo:=st.heap.length }:St) S) (fun i=>ws.length - i) ⟨_,(sR hl),Nat.zero_le _,fun _=>rfl,.nil,.refl _ _⟩ ?_
  rintro i tm1 S ⟨v,hv,hi,hz,hO,hFr⟩ hS
  obtain⟨hv7,hv6⟩:=mv2 hv
  have hl1:tm1.length=32:=lN hS hl;have i0:tg tm1 0=V:=tQ hS (bw3 hl h0 h1);have i1:tg tm1 1=iv 2:=tQ hS (bw3 hl h0 h1);clear hS
  have w1:=hFr.len
  have w2:=hFr.lo
  have w3:=hFr.up
  simp only at w1 w2 w3
  refine go2 (bw4 hl1 hv7 i0 hVs) fnil ?_
  refine⟨decide ((i:Int)<ws.length),(sG hl1),fun hb2=>?_,fun hb1=>?_⟩
  ·have hlt:=of_decide_eq_false hb2
   obtain rfl:i=ws.length:=by omega
   rw[List.take_length] at hO
   refine go2 (bw hl1 hv6) fnil ?_
   refine fnr_ret (v := .tuple [v,.bool true]) (results_two (by rw[rdRes_tmp];simp only[↓reduceIte,go_sem,hl1]) (by rw[rdRes_tmp];simp only[↓reduceIte,go_sem,hl1])) ?_
   obtain⟨v',e1,hW⟩:=finish_slT (st:=st) (st1:=S) (v:=v) (vs:=[.bool true]) hO.sl (by rfl) (by omega) (fun m=>lowL_of fun c hc=>encI_low _ m c hc)
   rw[e1]
   have hW2:RetW st (ws.map fun w=>(R w).1).length ((ws.map fun w=>(R w).1).flatMap encI) v' (finishCall st S (.tuple [v,.bool true])).2:=by rw[List.length_map];exact hW
   refine⟨v',rfl,retI hW2,share_el (retI hW2) fun e=>?_,keepW hW⟩
   have hv0:v = .nilslice:=hz (by rw[← List.length_map (f:=fun w=>(R w).1),e];rfl)
   subst hv0
   rw[finish_tuple (by omega) (by rfl)] at e1
   injection e1 with e1
   injection e1 with e2
   exact e2.symm
  have hlt:i<ws.length:=by have:=of_decide_eq_true hb1;omega
  have hw1:=wS i (by omega)
  have kR:=(hR ws[i] (hw _ (List.getElem_mem hlt))).2
  rw[hallR _ (List.getElem_mem hlt)] at kR
  have htk:(ws.take (i+1)).map (fun w=>(R w).1)=(ws.take i).map (fun w=>(R w).1)++[(R ws[i]).1]:=by rw[List.take_succ_eq_append_getElem hlt,List.map_append];rfl
  refine⟨by omega,?_⟩
  refine go2 (bw5 hl1 hv7 hv6 i0 i1) (bw kR fnil) ?_
  refine wops_append (m:=st.heap.length) rfl rfl (sR (bw hl1 hv6)) (sR hl1) hO.push rfl (by simp only[len_push];omega) (by rfl) (by rfl) (by simp only[maxList];omega) ?_
  intro v' s3 hO' hFr' hk
  refine go2 (bw3 hl1 hv7 hw1) fnil ?_
  exact⟨v',(sG hl1),by omega,(fun h=>absurd h (by omega)),by rw[htk];simpa[share_int] using hO',(hFr.push (by omega)).trans hFr'⟩
end Go.Den.Ve
end

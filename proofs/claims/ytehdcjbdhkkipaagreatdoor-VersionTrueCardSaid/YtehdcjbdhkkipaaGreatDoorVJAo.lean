/- Part of the proofs of laws of the package version. Texts: VnRow, VnIn, VwA, VwE, VwF, VwG, VwB, VwH, VwN, VxA, VxC, VxCb, VxD, VxE, VxG, VxL. -/
import Derived.Test.YtehdcjbdhkkipaaGreatDoorVJAn
import Derived.Test.YtehdcjbdhkkipaaGreatDoorRows
import Derived.ProofKit
import Derived.LaidMore
import Derived.OpenShut
import Derived.Stop.Joined
import Derived.HandedShaped
import Derived.Lay
import Derived.LaidHandle
import Derived.Carry
import Derived.Test.YtehdcjbdhkkipaaGreatDoorVJAm
import Derived.Test.YtehdcjbdhkkipaaGreatDoorVJAh
import Derived.Test.YtehdcjbdhkkipaaGreatDoorVJAg
set_option linter.unusedSimpArgs false
set_option linter.unusedVariables false
section
namespace Go.Proofs.YtehdcjbdhkkipaaGreatDoor
open Go.ChangeShapes Go.WideShapes Go.ChangeAt Go.WideMaps Go.WideElems Go.RowKit
set_option maxRecDepth 100000
theorem ownKnob0:ownKnob Tryz.prog.godebug=none:=by kernel_rfl
theorem laidOut0:laidOutB Tryz.prog=true:=by kernel_rfl
theorem maxLen_cell {W:World} (h:W.ShapedOpen Tryz.prog):∃ m,1<W.heap.size∧W.cell? ⟨1,0,none⟩=some (.int .i64 m):=by
 obtain ⟨m,hm⟩:=cell_of_shapedOpen_int (g:=1) (t:=3) (zero:=#[.int .i64 0]) (k := .i64) h (of_decide_eq_true (by kernel_rfl)) (by kernel_rfl) rfl (by kernel_rfl) (by kernel_rfl) Tryz.underlying3
 refine ⟨m,?_,hm⟩
 unfold World.cell? at hm
 split at hm
 ·rename_i hh
  exact (Array.getElem?_eq_some_iff.1 hh).1
 ·cases hm
theorem returns_law {H:Type} {enc:TypeId×Value→H} {a:Assume} {C:Checked} {os:Os} {f:FuncId} {fn:Func} {s:ChangeSpec} {conds:List PathCond} {apart fresh handsOn again:Bool} {X:World→Array Value→Prop}
  (hX:∀ (w w':World) (args:Array Value),w.heap=w'.heap→X w args→X w' args)
  (own:ownKnob C.prog.godebug=none) (started:os.Started) (noInit:C.prog.inits.idxOf? f=none) (hfn:C.prog.funcs[f]? = some fn)
  (witness:∃ (w:World) (tape:Tape) (i:Input),w.os=os∧(w.forCall tape i).Shaped C.prog∧i.vars=[]∧Input.okWide C.prog (w.forCall tape i) .any w.heap.size f i ∧
   ((s.pre enc C.prog fn conds apart (w.forCall tape i).memory i.args∧X (w.forCall tape i).memory i.args)∧sizedMet enc C.prog fn (OpenSpec.ofChange s) apart (w.forCall tape i).memory i.args)∧a.holds C.prog (lone (Frame.enter C.prog f i.args .normal) [] (w.forCall tape i)))
  (contract:∀ (W:World) (base:Nat) (args:Array Value) (ds gs:List (DataW H)) (before:List MemPlace),
   (∀ (j:Nat) t v,fn.params[j]? = some t→args[j]? = some v→Value.okWide C.prog W .any base t v) →
   DataW.Whole enc C.prog fn.params.toList s.vars apart W args.toList ds gs before →
   W.ShapedOpen C.prog →
   Calls C.prog f args W fun e W'=>∃ v,e = .returned v∧s.post enc C.prog fn apart fresh handsOn again W args v W') :
  ReturnsInHanded a C os f .any (fun w args=>(s.pre enc C.prog fn conds apart w args∧X w args)∧sizedMet enc C.prog fn (OpenSpec.ofChange s) apart w args) (s.post enc C.prog fn apart fresh handsOn again):=by
 refine returnsInHanded_of_calls own started noInit witness ?_
 intro w tape i _ hsh _ hok hpre _
 obtain ⟨_,_,_,fn',hfn',_,_,_,_,hval⟩:=hok
 have e:fn'=fn:=Option.some.inj (hfn'.symm.trans hfn)
 subst e
 obtain ⟨⟨⟨ds,gs,before,hw,_⟩,_⟩,_⟩:=hpre
 have hw':=DataW.Whole.of_heap (w':=w.forCall tape i) (by rfl) hw
 refine (contract (w.forCall tape i) w.heap.size i.args ds gs before hval hw' hsh).mono fun e W' ⟨v,he,hp⟩=>?_
 subst he
 exact ChangeSpec.post_blind hp
theorem trodAll_grown {H:Type} {enc:TypeId×Value→H} {W W':World} (hb:Below W.heap.size W W'):∀ {ts:List TypeId} {vs:List Value} {ds:List (DataW H)} {ps:List MemPlace},(∀ t∈ts,Tryz.prog.readableRec t=true∧t<Tryz.prog.types.size)→DataW.TrodAll enc Tryz.prog W 0 (fun _=>true) true ts vs ds ps→(∀ x∈ps,x.block<W.heap.size)→DataW.TrodAll enc Tryz.prog W' 0 (fun b=>decide (b<W.heap.size)) true ts vs ds ps
 | [],vs,ds,ps,_,h,_=>by
  obtain ⟨rfl,rfl,rfl⟩:=trodAll_nil h
  rfl
 | t::ts,vs,ds,ps,hr,h,hl=>by
  obtain ⟨v,vs',d,ds',p,q,rfl,rfl,rfl,h1,h2⟩:=trodAll_cons h
  have h0:=hr t (by simp)
  exact ⟨p,q,Below.trod laidOut0 h0.1 h0.2 h1 hb (fun x hx=>hl x (by simp [hx])),trodAll_grown hb (fun t ht=>hr t (by simp [ht])) h2 (fun x hx=>hl x (by simp [hx])),rfl⟩
theorem keptBut_grown {W W':World} {may:MemPlace→Prop} (h:∀ b,b<W.heap.size→W'.heap[b]? = W.heap[b]?) (ho:W'.os=W.os∧W'.output=W.output):W.keptBut W' may:=by
 refine ⟨ho.1,ho.2,fun i hi=>?_⟩
 rw [h i hi]
 split
 ·rename_i h1 h2
  rw [h1] at h2
  cases h2
  exact ⟨rfl,rfl,rfl,fun _ _=>rfl⟩
 ·rename_i h1 h2
  rw [h1] at h2
  cases h2
  exact .inr ⟨rfl,rfl⟩
 ·rfl
theorem post_true {H:Type} {enc:TypeId×Value→H} {fn:Func} {s:ChangeSpec} {W W':World} {args:Array Value} {ds:List (DataW H)} {before:List MemPlace}
  (hvars:s.vars=[]) (hW:DataW.Whole enc Tryz.prog fn.params.toList s.vars false W args.toList ds [] before) (hres:fn.resultTypes=#[4]) (hfn:s.fn H (ds++[])={ results:=[.lit (.bool true)],args:=ds })
  (hr:∀ t∈fn.params.toList,Tryz.prog.readableRec t=true∧t<Tryz.prog.types.size)
  (hs:W.heap.size≤W'.heap.size) (hb:∀ b,b<W.heap.size→W'.heap[b]? = W.heap[b]?) (ho:W'.os=W.os∧W'.output=W.output) :
  s.post enc Tryz.prog fn false true false false W args (.bool true) W':=by
 have hW0:=hW
 obtain ⟨p,q,hA,hV,rfl,_,_⟩:=hW
 rw [hvars] at hV
 obtain ⟨_,rfl⟩:([]:List (DataW H))=[]∧q=[]:=by
  cases q with
  | nil=>exact ⟨rfl,rfl⟩
  | cons x q=>simp [DataW.TrodVars] at hV
 have hlt:∀ x∈p,x.block<W.heap.size:=fun x hx=>by simpa using hW0.lt x (by simp [hx])
 have ha:({ W' with tape:=W.tape }:World).Alike W':=⟨rfl,rfl,rfl⟩
 have hbl:Below W.heap.size W { W' with tape:=W.tape }:=⟨ho.1,rfl,ho.2,hs,hb⟩
 have hT:=trodAll_grown hbl hr hA hlt
 have hT':DataW.TrodAll enc Tryz.prog W' 0 (fun b=>decide (b<W.heap.size)) true fn.params.toList args.toList ds p:=DataW.TrodAll.of_heap (show ({ W' with tape:=W.tape }:World).heap=W'.heap from rfl) hT
 refine ⟨ds,[],p++[],[],p,[],hW0,?_,?_,?_,keptBut_grown hb ho,fun h=>by cases h⟩
 ·rw [hfn,hres]
  exact trodAll_mk1 (shut_bool Tryz.underlying4 _)
 ·rw [hfn];exact hT'
 ·rw [hfn,hvars];rfl
end Go.Proofs.YtehdcjbdhkkipaaGreatDoor
end
section
namespace Go.Den.Ve
set_option maxRecDepth 100000
open Go.Proofs Go.ChangeShapes Go.WideShapes
section
variable {H:Type} {enc:TypeId×Value→H} {W:World} {base fuel:Nat} {d:DataW H} {ps:List MemPlace}
theorem cells_get {a:Addr} {k:Nat} {cs:List Value} (h:W.cells? 0 a k=some cs):cs.length=k∧∀ (j:Nat) (v:Value),cs[j]? = some v→W.cell? (a.add j)=some v:=by
 unfold World.cells? at h
 simp only [Nat.zero_le,if_true] at h
 have hl:=mapM_some_length h
 rw [List.length_range] at hl
 refine ⟨hl,fun j v hj=>?_⟩
 have hjl:=(List.getElem?_eq_some_iff.1 hj).1
 have:=mapM_some_get h j j (by rw [List.getElem?_range (by omega)])
 rw [this,hj]
theorem add_spot {a:Addr} {v:Value} (h:W.cell? ((a.add 0).add 0)=some v):a.spot=none:=by
 have:=World.cell?_spot h
 simpa [Addr.add] using this
theorem in_slice {α:Type} {en:α→List PV} {t e:TypeId} {k:Nat} (hu:Tryz.prog.underlying t=some (.slice e)) (hk:Tryz.prog.cellsOf e=k) (hk1:0<k) (hen:∀ a,(en a).length=k)
  (hel:∀ (n:Nat) (cs:List Value) (y:DataW H×List MemPlace),DataW.trod enc Tryz.prog W 0 (fun _=>true) true n e cs=some y→∃ a:α,VRL (gh0 W) W (en a) cs)
  {v:Value} {x:DataW H×List MemPlace} (h:DataW.trod enc Tryz.prog W 0 (fun _=>true) true fuel t [v]=some x):∃ F l,VR (gh0 W) W F v∧SlOf k en F l:=by
 rcases DataW.trod_slice hu h with ⟨hv,_⟩|⟨a,len,cap,elems,rest,n,_,hv,_,_,hl,_,hlen,hel',hrest,_⟩
 ·simp at hv
  subst hv
  exact ⟨.nilslice,[],by simp only [VR],rfl,fun _ h=>by cases h⟩
 ·simp at hv
  subst hv
  rw [hk] at hel' hrest
  by_cases hcap:cap=0
  ·subst hcap
   have hl0:len=0:=by omega
   subst hl0
   refine ⟨.slice .shared 0 [],[],?_,rfl,fun _ h=>by cases h⟩
   simp only [VR]
   exact .inr ⟨by trivial,by trivial,by trivial,a,rfl⟩
  ·have hsp:a.spot=none:=by
    have key:∀ (o:Option (DataW H×List MemPlace)) (i:Nat),i=0→o.isSome=true→(W.cells? 0 (a.add (i*k)) k).bind (DataW.trod enc Tryz.prog W 0 (fun _=>true) true n e)=o→a.spot=none:=fun o i hi ho h1=>by
     obtain ⟨y,rfl⟩:=Option.isSome_iff_exists.1 ho
     obtain ⟨cs,h2,h3⟩:=Option.bind_eq_some_iff.1 h1
     obtain ⟨h4,h5⟩:=cells_get h2
     have hc0:0<cs.length:=by omega
     have h6:=h5 0 cs[0] (List.getElem?_eq_getElem hc0)
     rw [hi,Nat.zero_mul] at h6
     exact add_spot h6
    by_cases hlen0:0<len
    ·refine key elems[0]? 0 rfl (by rw [List.getElem?_eq_getElem (by omega)];rfl) (hel' 0 hlen0)
    ·obtain ⟨h1,h2⟩:=hrest rfl
     exact key rest[0]? (len+0) (by omega) (by rw [List.getElem?_eq_getElem (by omega)];rfl) (h2 0 (by omega))
   obtain ⟨b,off,sp⟩:=a
   simp only at hsp
   subst hsp
   have hadd:∀ o j,((⟨b,o,none⟩:Addr).add j)=⟨b,o+j,none⟩:=fun o j=>by
    unfold Addr.add
    by_cases h0:j=0
    ·rw [if_pos h0,h0];rfl
    ·rw [if_neg h0]
   obtain ⟨l,hll,hlq⟩:=list_of (α:=α) (Q:=fun i a=>∀ (j:Nat) (p:PV),(en a)[j]? = some p→∃ v,W.cell? ⟨b,off+i*k+j,none⟩=some v∧VR (gh0 W) W p v) len (fun i hi=>by
    have h1:=hel' i hi
    rw [hadd,List.getElem?_eq_getElem (by omega:i<elems.length)] at h1
    obtain ⟨cs,h2,h3⟩:=Option.bind_eq_some_iff.1 h1
    obtain ⟨h4,h5⟩:=cells_get h2
    obtain ⟨x,hx⟩:=hel n cs _ h3
    refine ⟨x,fun j p hj=>?_⟩
    obtain ⟨v,g1,g2⟩:=hx.get hj
    have:=h5 j v g1
    rw [hadd] at this
    exact ⟨v,this,g2⟩)
   refine ⟨.slice .shared len (l.flatMap en),l,vr_slice0 hl fun j p hj=>?_,by simp only [PV.sl,hll],fun a _=>hen a⟩
   have hjl:=(List.getElem?_eq_some_iff.1 hj).1
   have hfl:(l.flatMap en).length=l.length*k:=flatMap_len (fun a _=>hen a)
   have hi:j / k<l.length:=by
    rw [hfl] at hjl
    exact (Nat.div_lt_iff_lt_mul hk1).2 hjl
   have hdr:(l.flatMap en).drop (j / k*k)=(l.drop (j / k)).flatMap en:=flatMap_drop (j / k) (fun a _=>hen a)
   have hdm:j / k*k+j % k=j:=by rw [Nat.mul_comm];exact Nat.div_add_mod j k
   have hj2:((l.flatMap en).drop (j / k*k))[j % k]? = some p:=by
    rw [List.getElem?_drop,← hj,hdm]
   rw [hdr,List.drop_eq_getElem_cons hi,List.flatMap_cons,List.getElem?_append_left (by rw [hen];exact Nat.mod_lt _ hk1)] at hj2
   obtain ⟨v,g1,g2⟩:=hlq (j / k) _ (List.getElem?_eq_getElem hi) (j % k) p hj2
   refine ⟨v,?_,g2⟩
   rw [← g1]
   congr 2
   omega
theorem e3':Tryz.prog.cellsOf 3=1:=by kernel_rfl
theorem e4':Tryz.prog.cellsOf 4=1:=by kernel_rfl
theorem e22':Tryz.prog.cellsOf 22=1:=by kernel_rfl
theorem e24':Tryz.prog.cellsOf 24=2:=by kernel_rfl
theorem e25':Tryz.prog.cellsOf 25=1:=by kernel_rfl
theorem e76':Tryz.prog.cellsOf 76=2:=by kernel_rfl
theorem e77':Tryz.prog.cellsOf 77=1:=by kernel_rfl
theorem trod_one {t n:Nat} {cs:List Value} {y:DataW H×List MemPlace} (h:DataW.trod enc Tryz.prog W 0 (fun _=>true) true n t cs=some y) (hs:(∃ e,Tryz.prog.underlying t=some (.slice e))):∃ v,cs=[v]:=by
 obtain ⟨e,hu⟩:=hs
 rcases DataW.trod_slice hu h with ⟨hv,_⟩|⟨a,len,cap,elems,rest,n,_,hv,_⟩
 ·exact ⟨_,hv⟩
 ·exact ⟨_,hv⟩
theorem in_ints1 {v:Value} {x:DataW H×List MemPlace} (h:DataW.trod enc Tryz.prog W 0 (fun _=>true) true fuel 25 [v]=some x):∃ F l,VR (gh0 W) W F v∧SlOf 1 encI F l :=
 in_slice Tryz.underlying25 e3' (by decide) (fun _=>rfl) (fun n cs y h=>by
  obtain ⟨k,rfl,_,_⟩:=DataW.trod_int Tryz.underlying3 h
  exact ⟨k,VRL.cons (by simp only [VR]) (VRL.nil_iff.2 rfl)⟩) h
theorem in_si {n:Nat} {cs:List Value} {y:DataW H×List MemPlace} (h:DataW.trod enc Tryz.prog W 0 (fun _=>true) true n 25 cs=some y):∃ a:SI,VRL (gh0 W) W (encSI a) cs:=by
 obtain ⟨v,rfl⟩:=trod_one h ⟨_,Tryz.underlying25⟩
 obtain ⟨F,l,h1,h2⟩:=in_ints1 h
 exact ⟨⟨F,l,h2⟩,VRL.cons h1 (VRL.nil_iff.2 rfl)⟩
theorem in_line {n:Nat} {cs:List Value} {y:DataW H×List MemPlace} (h:DataW.trod enc Tryz.prog W 0 (fun _=>true) true n 76 cs=some y):∃ a:LP,VRL (gh0 W) W (encLP a) cs:=by
 obtain ⟨xs,n,_,_,hl,hxl,hf⟩:=DataW.trod_struct Tryz.underlying76 h
 rw [e76'] at hl
 match cs,hl with
 | [a,b],_ =>
  have f0:DataW.trod enc Tryz.prog W 0 (fun _=>true) true n 4 (List.take (Tryz.prog.cellsOf 4) [a,b])=xs[0]? := hf 0 _ rfl
  have f1:DataW.trod enc Tryz.prog W 0 (fun _=>true) true n 25 (List.take (Tryz.prog.cellsOf 25) [b])=xs[1]? := hf 1 _ rfl
  rw [e4'] at f0
  rw [e25'] at f1
  have hx:xs.length=2:=hxl
  match xs,hx with
  | [x0,x1],_ =>
   obtain ⟨k,k0,_⟩:=DataW.trod_bool Tryz.underlying4 f0
   simp at k0
   subst k0
   obtain ⟨F,l,h1,h2⟩:=in_ints1 (x:=x1) f1
   exact ⟨⟨k,F,l,h2⟩,VRL.cons (by simp only [VR]) (VRL.cons h1 (VRL.nil_iff.2 rfl))⟩
theorem in_copy {n:Nat} {cs:List Value} {y:DataW H×List MemPlace} (h:DataW.trod enc Tryz.prog W 0 (fun _=>true) true n 77 cs=some y):∃ a:CP,VRL (gh0 W) W (encCP a) cs:=by
 obtain ⟨v,rfl⟩:=trod_one h ⟨_,Tryz.underlying77⟩
 obtain ⟨F,l,h1,h2⟩:=in_slice (en:=encLP) Tryz.underlying77 e76' (by decide) (fun _=>rfl) (fun n cs y h=>in_line h) h
 exact ⟨⟨F,l,h2⟩,VRL.cons h1 (VRL.nil_iff.2 rfl)⟩
theorem in_book {v:Value} (hok:Value.okWide Tryz.prog W .any base 24 v) (h:DataW.Trod enc Tryz.prog W 0 (fun _=>true) true 24 v d ps):∃ b:BP,VR (gh0 W) W b.pv v:=by
 obtain ⟨fuel,h⟩:=h
 unfold Value.okWide at hok
 rw [Tryz.underlying24] at hok
 obtain ⟨cs,rfl,_⟩:=hok
 obtain ⟨xs,n,_,_,hl,hxl,hf⟩:=DataW.trod_struct Tryz.underlying24 h
 rw [e24'] at hl
 have hcs:(Value.agg cs).cells.toList=cs.toList:=rfl
 rw [hcs] at hl hf
 obtain ⟨l⟩:=cs
 match l,hl with
 | [a,b],_ =>
  have f0:DataW.trod enc Tryz.prog W 0 (fun _=>true) true n 3 (List.take (Tryz.prog.cellsOf 3) [a,b])=xs[0]? := hf 0 _ rfl
  have f1:DataW.trod enc Tryz.prog W 0 (fun _=>true) true n 22 (List.take (Tryz.prog.cellsOf 22) [b])=xs[1]? := hf 1 _ rfl
  rw [e3'] at f0
  rw [e22'] at f1
  have hx:xs.length=2:=hxl
  match xs,hx with
  | [x0,x1],_ =>
   obtain ⟨k,k0,_,_⟩:=DataW.trod_int Tryz.underlying3 f0
   simp at k0
   subst k0
   obtain ⟨F,l,h1,h2⟩:=in_slice (en:=encCP) (x:=x1) Tryz.underlying22 e77' (by decide) (fun _=>rfl) (fun n cs y h=>in_copy h) f1
   refine ⟨⟨k,F,l,h2⟩,?_⟩
   simp only [VR]
   exact ⟨_,rfl,VRL.cons (by simp only [VR]) (VRL.cons h1 (VRL.nil_iff.2 rfl))⟩
theorem slice_cells {t e:TypeId} {v:Value} (hu:Tryz.prog.underlying t=some (.slice e)) (h:DataW.Trod enc Tryz.prog W 0 (fun _=>true) true t v d ps) (hok:Value.okWide Tryz.prog W .any base t v):∃ n x,DataW.trod enc Tryz.prog W 0 (fun _=>true) true n t [v]=some x:=by
 obtain ⟨fuel,h⟩:=h
 have hc:v.cells.toList=[v]:=by
  cases v with
  | agg cs=>exfalso;unfold Value.okWide at hok;rw [hu] at hok;unfold Cell.okWide Cell.ok at hok;rw [hu] at hok;exact hok
  | _=>rfl
 rw [hc] at h
 exact ⟨fuel,_,h⟩
theorem in_text {v:Value} (hok:Value.okWide Tryz.prog W .any base 45 v) (h:DataW.Trod enc Tryz.prog W 0 (fun _=>true) true 45 v d ps):∃ F l,VR (gh0 W) W F v∧SlOf 1 encSI F l:=by
 obtain ⟨n,x,h⟩:=slice_cells Tryz.underlying45 h hok
 exact in_slice Tryz.underlying45 e25' (by decide) (fun _=>rfl) (fun n cs y h=>in_si h) h
end
end Go.Den.Ve
end
section
namespace Go.Den.Ve
theorem c53 (b:BP) (h:b.cs.length<1000000) (n:Int) (st:St):Cl EE (.func 53 [] []) [b.pv,iv n] st (.ret (.bool (inN n 0 (b.cs.length - 1)))) st:=by
 have hw:IntKind.wrap .i64 ((b.cs.length:Int) - 1)=b.cs.length - 1:=wrap_in (by unfold inI;omega)
 refine cF2 pr53 fn53 (fun tm hl h0 h1=>?_)
 refine go2 (bw4 hl h0 h1 hw) (bw c79 fnil) ?_
 exact fQ hl
theorem bef_end {l m:List Int} {i:Nat} (ht:l.take i=m.take i) (h1:i≤l.length) (h2:i≤m.length) (h:i=l.length∨i=m.length):bef l m=decide ((l.length:Int)<m.length):=by
 have hbd:bef l m=bef (l.drop i) (m.drop i):=by
  conv=>lhs;rw [← List.take_append_drop i l,← List.take_append_drop i m,ht]
  exact bef_pre _ _ _
 have e1:(l.drop i).length=l.length - i:=List.length_drop
 have e2:(m.drop i).length=m.length - i:=List.length_drop
 rw [hbd]
 cases hl:l.drop i with
 | nil =>
  rw [hl] at e1
  cases hm:m.drop i with
  | nil=>rw [hm] at e2;simp at e1 e2;simp [bef];omega
  | cons y m'=>rw [hm] at e2;simp at e1 e2;simp [bef];omega
 | cons x l' =>
  rw [hl] at e1
  cases hm:m.drop i with
  | nil=>rw [hm] at e2;simp at e1 e2;simp [bef];omega
  | cons y m'=>rw [hm] at e2;simp at e1 e2;omega
theorem bef_at {l m:List Int} {i:Nat} (ht:l.take i=m.take i) (h1:i<l.length) (h2:i<m.length) (h:l[i]≠m[i]):bef l m=decide (l[i]<m[i]):=by
 have hbd:bef l m=bef (l.drop i) (m.drop i):=by
  conv=>lhs;rw [← List.take_append_drop i l,← List.take_append_drop i m,ht]
  exact bef_pre _ _ _
 rw [hbd,List.drop_eq_getElem_cons h1,List.drop_eq_getElem_cons h2,bef,if_neg h]
set_option maxHeartbeats 1000000 in
theorem c49 (F G:PV) (l m:List Int) (hF:SlOf 1 encI F l) (hG:SlOf 1 encI G m) (hN:l.length<1000000) (st:St):Cl EE (.func 49 [] []) [F,G] st (.ret (.bool (bef l m))) st:=by
 have hFs:=hF.slen
 have hGs:=hG.slen
 refine cF2 pr49 fn49 (fun tm hl h0 h1=>?_)
 refine go2 (bw3 hl h0 h1) fnil ?_
 refine wp_for [5] (fun i vs st1=>vs=[iv i]∧i≤l.length∧i≤m.length∧l.take i=m.take i∧st1={ heap:=st.heap,lo:=st.heap.length }) (fun i=>l.length - i) ⟨(sR hl),Nat.zero_le _,Nat.zero_le _,rfl,rfl⟩ ?_
 rintro i tm1 st1 ⟨hv,hi,hi2,ht,rfl⟩ hS
 simp only [List.map_cons,List.map_nil,List.cons.injEq,and_true] at hv
 have hl1:tm1.length=41:=lN hS hl;have i0:tg tm1 0=F:=tQ hS (bw3 hl h0 h1);have i1:tg tm1 1=G:=tQ hS (bw3 hl h0 h1);clear hS
 cases d1:decide ((i:Int)<l.length)
 ·have:=of_decide_eq_false d1
  refine go2 (bw5 hl1 hv i0 hFs d1) fnil ?_
  refine ⟨false,(sG hl1),fun _=>?_,fun hb=>by cases hb⟩
  rw [bef_end ht hi hi2 (by omega)]
  refine go2 (bw5 hl1 i0 i1 hFs hGs) fnil ?_
  exact fQ hl1
 have hlt:i<l.length:=by have:=of_decide_eq_true d1;omega
 cases d2:decide ((i:Int)<m.length)
 ·have:=of_decide_eq_false d2
  refine go2 (bw8 hl1 hv i0 i1 hFs hGs d1 d2) fnil ?_
  refine ⟨false,(sG hl1),fun _=>?_,fun hb=>by cases hb⟩
  rw [bef_end ht hi hi2 (by omega)]
  refine go2 (bw5 hl1 i0 i1 hFs hGs) fnil ?_
  exact fQ hl1
 have hlt2:i<m.length:=by have:=of_decide_eq_true d2;omega
 have hw1:IntKind.wrap .i64 ((i:Int)+1)=((i+1:Nat):Int):=wrap_nat (n:=i+1) (by omega)
 refine go2 (bw8 hl1 hv i0 i1 hFs hGs d1 d2) fnil ?_
 refine ⟨true,(sG hl1),(fun hb=>by cases hb),fun _=>⟨by omega,?_⟩⟩
 cases hx:(l[i] != m[i])
 ·refine go2 (bw6 hl1 hv i0 i1 hw1 hx) fnil ?_
  exact ⟨(sG hl1),by omega,by omega,take_snoc_eq hlt hlt2 ht (bne_eq_false_iff_eq.1 hx),rfl⟩
 ·rw [bef_at ht hlt hlt2 (bne_iff_ne.1 hx)]
  refine go2 (bw5 hl1 hv i0 i1 hx) fnil ?_
  exact fQ hl1
theorem c89 (F G:PV) (l m:List Int) (hF:SlOf 1 encI F l) (hG:SlOf 1 encI G m) (hN:l.length<1000000) (st:St):Cl EE (.func 89 [] []) [F,G] st (.ret (.bool (before l m))) st:=by
 have hFs:=hF.slen
 have hGs:=hG.slen
 have k49:=fun st=>c49 F G l m hF hG hN st
 refine cF2 pr89 fn89 (fun tm hl h0 h1=>?_)
 cases hd:((l.length:Int) != (m.length:Int))
 ·have hlm:l.length=m.length:=by have:=bne_eq_false_iff_eq.1 hd;omega
  rw [before,if_pos hlm]
  refine go2 (bw6 hl h0 h1 hFs hGs hd) (bw k49 fnil) ?_
  exact fQ hl
 ·have hlm:l.length≠m.length:=by have:=bne_iff_ne.1 hd;omega
  have e:before l m=decide ((l.length:Int)<m.length):=by rw [before,if_neg hlm,decide_eq_decide];omega
  rw [e]
  refine go2 (bw6 hl h0 h1 hFs hGs hd) fnil ?_
  exact fQ hl
end Go.Den.Ve
end
section
namespace Go.Den.Ve
theorem CP.okl {b:BP} (h:OkB b.bk) {c:CP} (hc:c∈b.cs):c.ls.length=lines1 b.bk∧∀ x∈c.ls,lineB b.words x.l=true∧(x.lost=true→x.l=[]):=by
 obtain ⟨h1,h2⟩:=h.all c.c (List.mem_map.2 ⟨c,hc,rfl⟩)
 exact ⟨by simpa using h1,fun x hx=>h2 x.ln (List.mem_map.2 ⟨x,hx,rfl⟩)⟩
theorem line4 {w:Int} {l:List Int} (h:lineB w l=true):l.length≤4:=(lineB_iff.1 h).1
theorem lev4 {w:Int} {l m:List Int} (h1:lineB w l=true) (h2:lineB w m=true):lev l m≤4:=by
 have:=lev_max l m
 have:=line4 h1
 have:=line4 h2
 omega
theorem c40 (b:BP) (hw:OkW b.words) (F:PV) (X:List (List Int)) (hF:SlOf 1 encL F X) (hX:∀ x∈X,lineB b.words x=true) (hs:X.Pairwise (fun x y=>before x y=true)) (hN:X.length≤121) (st:St):Cl EE (.func 40 [] []) [b.pv,F] st (.ret (.bool true)) st:=by
 have hFs:=hF.slen
 have hB:=b.h
 refine cF2 pr40 fn40 (fun tm hl h0 h1=>?_)
 refine go2 (bw hl h0) fnil ?_
 refine wp_for [5] (fun i vs S=>vs=[iv i]∧i≤X.length∧S=({ heap:=st.heap,lo:=st.heap.length }:St).push (.var [iv b.words,b.v])) (fun i=>X.length - i) ⟨(sR hl),Nat.zero_le _,rfl⟩ ?_
 rintro i tm1 S ⟨hv,hi,rfl⟩ hS
 simp only [List.map_cons,List.map_nil,List.cons.injEq,and_true] at hv
 have hl1:tm1.length=43:=lN hS hl;have i1:tg tm1 1=F:=tQ hS (bw hl h1);have i2:tg tm1 2 = .ptr st.heap.length 0:=tQ hS (bw hl h1);clear hS
 cases d1:decide ((i:Int)<X.length)
 ·refine go2 (bw5 hl1 hv i1 hFs d1) fnil ?_
  refine ⟨false,(sG hl1),fun _=>?_,fun hb=>by cases hb⟩
  have d3:decide ((X.length:Int)≤121)=true:=decide_eq_true (by omega)
  refine go2 (bw4 hl1 i1 hFs d3) fnil ?_
  exact fQ hl1
 have hlt:i<X.length:=by have:=of_decide_eq_true d1;omega
 have d2:decide ((i:Int)<200)=true:=decide_eq_true (by omega)
 have hw1:IntKind.wrap .i64 ((i:Int)+1)=((i+1:Nat):Int):=wrap_nat (n:=i+1) (by omega)
 refine go2 (bw6 hl1 hv i1 hFs d1 d2) fnil ?_
 refine ⟨true,(sG hl1),(fun hb=>by cases hb),fun _=>⟨by omega,?_⟩⟩
 have hx:=hX _ (List.getElem_mem hlt)
 have k24:=fun st=>c24 b.words b.v b.cells b.isCell hw (elL X[i]) X[i] (el_sl _) (by have:=line4 hx;omega) st
 rw [hx] at k24
 cases d4:decide ((i:Int)>0)
 ·refine go2 (bw6 hl1 hv i1 i2 d4 hw1) (bw k24 fnil) ?_
  exact ⟨(sG hl1),by omega,rfl⟩
 ·have h0i:0<i:=by have:=of_decide_eq_true d4;omega
  have hw2:IntKind.wrap .i64 ((i:Int) - 1)=((i - 1:Nat):Int):=by rw [wrap_in (by unfold inI;omega)];omega
  have hlt':i - 1<X.length:=by omega
  have hb':before X[i - 1] X[i]=true:=by
   rw [List.pairwise_iff_getElem] at hs
   exact hs (i - 1) i hlt' hlt (by omega)
  have hx':=hX _ (List.getElem_mem hlt')
  have k89:=fun st=>c89 (elL X[i - 1]) (elL X[i]) X[i - 1] X[i] (el_sl _) (el_sl _) (by have:=line4 hx';omega) st
  rw [hb'] at k89
  refine go2 (bw7 hl1 hv i1 i2 d4 hw1 hw2) (bw3 k24 k89 fnil) ?_
  exact ⟨(sG hl1),by omega,rfl⟩
theorem c41 (F L:PV) (X:List (List Int)) (l:List Int) (hF:SlOf 1 encL F X) (hL:SlOf 1 encI L l) (hN:X.length<1000000) (hNX:∀ x∈X,x.length<1000000) (st:St):Cl EE (.func 41 [] []) [F,L] st (.ret (.bool (X.any fun x=>x==l))) st:=by
 have hFs:=hF.slen
 refine cF2 pr41 fn41 (fun tm hl h0 h1=>?_)
 refine go2 (bw hl h0) fnil ?_
 refine wp_for [5] (fun i vs S=>vs=[iv i]∧i≤X.length∧(∀ x∈X.take i,(x==l)=false)∧S={ heap:=st.heap,lo:=st.heap.length }) (fun i=>X.length - i) ⟨(sR hl),Nat.zero_le _,by simp,rfl⟩ ?_
 rintro i tm1 S ⟨hv,hi,hall,rfl⟩ hS
 simp only [List.map_cons,List.map_nil,List.cons.injEq,and_true] at hv
 have hl1:tm1.length=18:=lN hS hl;have i0:tg tm1 0=F:=tQ hS (bw3 hl h0 h1);have i1:tg tm1 1=L:=tQ hS (bw3 hl h0 h1);clear hS
 refine go2 (bw4 hl1 hv i0 hFs) fnil ?_
 refine ⟨decide ((i:Int)<X.length),(sG hl1),fun hb=>?_,fun hb=>?_⟩
 ·have hlt:=of_decide_eq_false hb
  have hin:i=X.length:=by omega
  rw [hin,List.take_length] at hall
  have e:(X.any fun x=>x==l)=false:=List.any_eq_false.2 fun x hx=>by rw [hall x hx];simp
  rw [e]
  refine go2 hl1 fnil ?_
  exact fQ hl1
 ·have hlt:i<X.length:=by have:=of_decide_eq_true hb;omega
  have hw1:IntKind.wrap .i64 ((i:Int)+1)=((i+1:Nat):Int):=wrap_nat (n:=i+1) (by omega)
  refine ⟨by omega,?_⟩
  have k27:=fun st=>c27 (elL X[i]) L X[i] l (el_sl _) hL (hNX _ (List.getElem_mem hlt)) st
  cases hx:(X[i]==l)
  ·rw [hx] at k27
   refine go2 (bw6 hl1 hv i0 i1 hw1 hx) (bw k27 fnil) ?_
   refine ⟨(sG hl1),by omega,fun x hm=>?_,rfl⟩
   rw [List.take_succ_eq_append_getElem hlt] at hm
   rcases List.mem_append.1 hm with hm|hm
   ·exact hall x hm
   ·rw [List.mem_singleton.1 hm];exact hx
  ·have e:(X.any fun x=>x==l)=true:=List.any_eq_true.2 ⟨X[i],List.getElem_mem hlt,hx⟩
   rw [e]
   rw [hx] at k27
   refine go2 (bw5 hl1 hv i0 i1 hx) (bw k27 fnil) ?_
   exact fQ hl1
def costK (b:BK) (i:Nat) (l:List Int) (k:Nat):Int:=((b.copies.take k).map fun c=>takenI l (c.getD i ⟨true,[]⟩)).sum
theorem costK_succ (b:BP) (i:Nat) (l:List Int) {k:Nat} (hk:k<b.cs.length) (hi:i<b.cs[k].ls.length):costK b.bk i l (k+1)=costK b.bk i l k+takenI l b.cs[k].ls[i].ln:=by
 unfold costK
 have hk':k<b.bk.copies.length:=by simpa using hk
 rw [List.take_succ_eq_append_getElem hk',List.map_append,List.sum_append_int,List.map_singleton,List.sum_singleton]
 congr 2
 have:b.bk.copies[k]=b.cs[k].c:=by simp
 rw [this,List.getD_eq_getElem?_getD,List.getElem?_map,List.getElem?_eq_getElem hi];rfl
theorem taken4 {w:Int} {l:List Int} {x:LP} (h1:lineB w l=true) (h2:lineB w x.l=true):0≤takenI l x.ln∧takenI l x.ln≤4:=by
 refine ⟨taken_nn _ _,?_⟩
 unfold takenI
 have:=lev4 h1 h2
 split
 ·omega
 ·show ((lev l x.l:Nat):Int)≤4
  omega
theorem costK_in (b:BP) (hB:OkB b.bk) {i:Nat} (hi:i<lines1 b.bk) {l:List Int} (hl:lineB b.words l=true):∀ {k:Nat},k≤b.cs.length→0≤costK b.bk i l k∧costK b.bk i l k≤4*k
 | 0,_=>by simp [costK]
 | k+1,hk=>by
  have h1:=costK_in b hB hi hl (k:=k) (by omega)
  have hc:=CP.okl hB (List.getElem_mem (h:=show k<b.cs.length by omega))
  have hik:i<b.cs[k].ls.length:=by omega
  have h2:=taken4 (x:=b.cs[k].ls[i]) hl (hc.2 _ (List.getElem_mem hik)).1
  rw [costK_succ b i l (by omega) hik]
  omega
def briefS (X:List SI):Bool:=decide (X.length≤6)&&X.all fun x=>decide (x.l.length≤6)
set_option maxHeartbeats 1000000 in
theorem c66 (F:PV) (X:List SI) (hF:SlOf 1 encSI F X) (st:St):Cl EE (.func 66 [] []) [F] st (.ret (.bool (briefS X))) st:=by
 have hFs:=hF.slen
 refine cF1 pr66 fn66 (fun tm hl h0=>?_)
 refine go2 (bw hl h0) fnil ?_
 refine wp_for [3] (fun i vs S=>vs=[iv i]∧i≤6∧i≤X.length∧(∀ x∈X.take i,x.l.length≤6)∧S={ heap:=st.heap,lo:=st.heap.length }) (fun i=>X.length - i) ⟨(sR hl),by omega,Nat.zero_le _,by simp,rfl⟩ ?_
 rintro i tm1 S ⟨hv,hi6,hi,hall,rfl⟩ hS
 simp only [List.map_cons,List.map_nil,List.cons.injEq,and_true] at hv
 have hl1:tm1.length=23:=lN hS hl;have i0:tg tm1 0=F:=tQ hS (bw hl h0);clear hS
 have e6:decide (X.length≤6)=decide ((X.length:Int)≤6):=by rw [decide_eq_decide];omega
 cases d1:decide ((i:Int)<X.length)
 ·have hlt:=of_decide_eq_false d1
  have hin:i=X.length:=by omega
  rw [hin,List.take_length] at hall
  have e:briefS X=decide ((X.length:Int)≤6):=by
   rw [briefS,List.all_eq_true.2 (fun x hx=>decide_eq_true (hall x hx)),Bool.and_true,e6]
  refine go2 (bw5 hl1 hv i0 hFs d1) fnil ?_
  refine ⟨false,(sG hl1),fun _=>?_,fun hb=>by cases hb⟩
  rw [e]
  refine go2 (bw3 hl1 i0 hFs) fnil ?_
  exact fQ hl1
 have hlt:i<X.length:=by have:=of_decide_eq_true d1;omega
 cases d2:decide ((i:Int)<6)
 ·have hlt2:=of_decide_eq_false d2
  have e:briefS X=decide ((X.length:Int)≤6):=by
   have h1:decide (X.length≤6)=false:=decide_eq_false (by omega)
   rw [briefS,h1,Bool.false_and,← e6,h1]
  refine go2 (bw6 hl1 hv i0 hFs d1 d2) fnil ?_
  refine ⟨false,(sG hl1),fun _=>?_,fun hb=>by cases hb⟩
  rw [e]
  refine go2 (bw3 hl1 i0 hFs) fnil ?_
  exact fQ hl1
 have hlt2:i<6:=by have:=of_decide_eq_true d2;omega
 have hw1:IntKind.wrap .i64 ((i:Int)+1)=((i+1:Nat):Int):=wrap_nat (n:=i+1) (by omega)
 refine go2 (bw6 hl1 hv i0 hFs d1 d2) fnil ?_
 refine ⟨true,(sG hl1),(fun hb=>by cases hb),fun _=>⟨by omega,?_⟩⟩
 have hX:=X[i].h
 cases hx:decide ((X[i].l.length:Int)>6)
 ·have hx6:=of_decide_eq_false hx
  refine go2 (bw5 hl1 hv i0 hx hw1) fnil ?_
  refine ⟨(sG hl1),by omega,by omega,fun x hm=>?_,rfl⟩
  rw [List.take_succ_eq_append_getElem hlt] at hm
  rcases List.mem_append.1 hm with hm|hm
  ·exact hall x hm
  ·rw [List.mem_singleton.1 hm];omega
 ·have hx6:=of_decide_eq_true hx
  have e:briefS X=false:=by
   have h1:(X.all fun x=>decide (x.l.length≤6))=false:=List.all_eq_false.2 ⟨X[i],List.getElem_mem hlt,by simp;omega⟩
   rw [briefS,h1,Bool.and_false]
  rw [e]
  refine go2 (bw4 hl1 hv i0 hx) fnil ?_
  exact fQ hl1
set_option maxHeartbeats 1000000 in
theorem c67 (b:BP) (hB:OkB b.bk) (T:PV) (t:List SI) (hT:SlOf 1 encSI T t) (hN:t.length<1000000) (hNt:∀ x∈t,x.l.length<1000000) (st:St):Cl EE (.func 67 [] []) [b.pv,T] st (.ret (.bool (txtB b.bk (t.map SI.l)))) st:=by
 have hTs:=hT.slen
 have hb:=b.h
 have hw:=hB.okW
 have hp0:=hB.pos
 have hl1b:=lines1_bk b hp0
 refine cF2 pr67 fn67 (fun tm hl h0 h1=>?_)
 refine go2 (bw hl h0) fnil ?_
 refine wp_for [5] (fun i vs S=>vs=[iv i]∧i≤t.length∧(∀ x∈t.take i,lineB b.words x.l=true)∧S=({ heap:=st.heap,lo:=st.heap.length }:St).push (.var [iv b.words,b.v])) (fun i=>t.length - i) ⟨(sR hl),Nat.zero_le _,by simp,rfl⟩ ?_
 rintro i tm1 S ⟨hv,hi,hall,rfl⟩ hS
 simp only [List.map_cons,List.map_nil,List.cons.injEq,and_true] at hv
 have hl1:tm1.length=27:=lN hS hl;have i1:tg tm1 1=T:=tQ hS (bw hl h1);have i2:tg tm1 2 = .ptr st.heap.length 0:=tQ hS (bw hl h1);clear hS
 refine go2 (bw4 hl1 hv i1 hTs) fnil ?_
 refine ⟨decide ((i:Int)<t.length),(sG hl1),fun hbi=>?_,fun hbi=>?_⟩
 ·have hlt:=of_decide_eq_false hbi
  have hin:i=t.length:=by omega
  rw [hin,List.take_length] at hall
  have hC0:=b.cs[0].h
  have hz:((0:Nat):Int)=0:=rfl
  have e:txtB b.bk (t.map SI.l)=((t.length:Int)==b.cs[0].ls.length):=by
   have h1:(t.map SI.l).all (lineB b.bk.words)=true:=List.all_eq_true.2 fun x hx=>by obtain ⟨y,hy,rfl⟩:=List.mem_map.1 hx;exact hall y hy
   rw [txtB,h1,Bool.and_true,hl1b,List.length_map,Bool.eq_iff_iff,decide_eq_true_iff,beq_iff_eq];omega
  rw [e]
  refine go2 (bw4 hl1 i1 i2 hTs) fnil ?_
  exact fQ hl1
 ·have hlt:i<t.length:=by have:=of_decide_eq_true hbi;omega
  have hw1:IntKind.wrap .i64 ((i:Int)+1)=((i+1:Nat):Int):=wrap_nat (n:=i+1) (by omega)
  refine ⟨by omega,?_⟩
  have k24:=fun st=>c24 b.words b.v b.cells b.isCell hw t[i].v t[i].l t[i].h (hNt _ (List.getElem_mem hlt)) st
  cases hx:lineB b.words t[i].l
  ·have e:txtB b.bk (t.map SI.l)=false:=by
    have h1:(t.map SI.l).all (lineB b.bk.words)=false:=List.all_eq_false.2 ⟨t[i].l,List.mem_map.2 ⟨_,List.getElem_mem hlt,rfl⟩,by rw [hx];simp⟩
    rw [txtB,h1,Bool.and_false]
   rw [e]
   rw [hx] at k24
   refine go2 (bw5 hl1 hv i1 i2 hx) (bw k24 fnil) ?_
   exact fQ hl1
  ·rw [hx] at k24
   refine go2 (bw6 hl1 hv i1 i2 hx hw1) (bw k24 fnil) ?_
   refine ⟨(sG hl1),by omega,fun x hm=>?_,rfl⟩
   rw [List.take_succ_eq_append_getElem hlt] at hm
   rcases List.mem_append.1 hm with hm|hm
   ·exact hall x hm
   ·rw [List.mem_singleton.1 hm];exact hx
theorem repl_succ (n:Nat):List.replicate (n+1) (-1:Int)=List.replicate n (-1)++[-1]:=List.replicate_succ'
theorem ints_lowC (l:List Int) (m:Nat) (c:PV) (hc:c∈l.flatMap encI):PV.low m c=true:=encI_low _ _ _ hc
set_option maxHeartbeats 1000000 in
theorem c69 (b:BP) (hN:b.cs.length≤1000) (st:St):ClR EE (.func 69 [] []) [b.pv] st (RetS st 1 b.cs.length ((List.replicate b.cs.length (-1:Int)).flatMap encI)):=by
 have hb:=b.h
 refine cG1 pr69 fn69 (fun tm hl h0=>?_)
 refine go2 (bw hl h0) fnil ?_
 refine wp_for [4,3] (fun i vs S=>∃ v,vs=[iv i,v]∧i≤b.cs.length∧OwnS st.heap.length S 1 v i ((List.replicate i (-1:Int)).flatMap encI)∧hp S st.heap.length=some (.var [iv b.words,b.v])∧st.heap.length≤S.lo∧S.lo≤S.heap.length) (fun i=>b.cs.length - i) ⟨_,(sR hl),Nat.zero_le _,.nil,(sG fnil),by simp only [lo_push];omega,by simp only [lo_push,len_push];omega⟩ ?_
 rintro i tm1 S ⟨v,hv,hi,hO,d0,hlo,hwf⟩ hS
 simp only [List.map_cons,List.map_nil,List.cons.injEq,and_true] at hv
 obtain ⟨hv,hv3⟩:=hv
 have hl1:tm1.length=16:=lN hS hl;have i1:tg tm1 1 = .ptr st.heap.length 0:=tQ hS hl;clear hS
 have ld0:=hp_lt d0
 refine go2 (bw5 hl1 hv i1 d0 (n4 ld0)) fnil ?_
 refine ⟨decide ((i:Int)<b.cs.length),(sG hl1),fun hbi=>?_,fun hbi=>?_⟩
 ·have hlt:=of_decide_eq_false hbi
  have hin:i=b.cs.length:=by omega
  subst hin
  refine go2 (bw hl1 hv3) fnil ?_
  refine fX (v) (bw hl1 hv3) ?_
  exact hO.finish hlo (fun m c hc=>ints_lowC _ m c hc)
 ·have hlt:i<b.cs.length:=by have:=of_decide_eq_true hbi;omega
  have hw1:IntKind.wrap .i64 ((i:Int)+1)=((i+1:Nat):Int):=wrap_nat (n:=i+1) (by omega)
  refine ⟨by omega,?_⟩
  refine go2 (bw hl1 hv3) fnil ?_
  refine aP (bw hl1 hv3) (hO.push) ?_
  intro v' s3 hO3 hF3 hk3
  have z1:=hF3.lo
  have z2:=hF3.up
  have z3:=hF3.len
  simp only [lo_push,len_push] at z1 z2 z3
  refine go2 (bw3 hl1 hv hw1) fnil ?_
  refine ⟨v',(sG hl1),by omega,?_,hk3 _ _ (sG (bw d0 (n4 ld0))) (by simp),by omega,by omega⟩
  rw [repl_succ,List.flatMap_append]
  simpa [share_int] using hO3
end Go.Den.Ve
end
section
namespace Go.Den.Ve
def growN (w:Nat) (l:List Int):List (List Int):=(List.range w).map fun (x:Nat)=>l++[(x:Int)]
theorem lists_grow (w:Nat):∀ k,listsL w (k+1)=(listsL w k).flatMap (growN w)
 | 0=>by
  simp only [listsL,growN,List.flatMap_cons,List.flatMap_nil,List.append_nil,List.nil_append,List.map_cons,List.map_nil]
  induction List.range w with
  | nil=>rfl
  | cons x l ih=>rw [List.flatMap_cons,ih];rfl
 | k+1=>by
  have ih:=lists_grow w k
  have e:listsL w (k+1+1)=(List.range w).flatMap fun (x:Nat)=>(listsL w (k+1)).map fun l=>(x:Int)::l:=rfl
  have e2:listsL w (k+1)=(List.range w).flatMap fun (x:Nat)=>(listsL w k).map fun l=>(x:Int)::l:=rfl
  rw [e]
  conv=>rhs;rw [e2]
  rw [List.flatMap_assoc]
  congr 1
  funext x
  rw [ih,List.map_flatMap,List.flatMap_map]
  congr 1
  funext l
  simp only [growN,List.map_map]
  rfl
def preL (w k:Nat):List (List Int):=(List.range k).flatMap (listsL w)
theorem preL_succ (w k:Nat):preL w (k+1)=preL w k++listsL w k:=by simp [preL,List.range_succ]
theorem preL_len {w:Nat} (hw:w≤3):∀ k,(preL w k).length≤3 ^ k
 | 0=>by simp [preL]
 | k+1=>by
  have h:=preL_len hw k
  rw [preL_succ,List.length_append,lists_pow]
  have h2:w ^ k≤3 ^ k:=Nat.pow_le_pow_left hw k
  have:3 ^ (k+1)=3*3 ^ k:=by rw [Nat.pow_succ];omega
  omega
def outA (w k m x:Nat):List (List Int):=preL w (k+1)++(((listsL w k).take m).flatMap (growN w)++(growN w ((listsL w k).getD m [])).take x)
def costsL (b:BK) (i:Nat) (w:Nat):List Int:=(linesL w).map (cost1 b i)
end Go.Den.Ve
end
section
namespace Go.Den
end Go.Den
namespace Go.Den.Ve
def LeastP (X:List (List Int)) (m:List Int→Int) (st:St) (v:PV) (st':St):Prop:=∃ u,v = .tuple [u,iv (minL m X)]∧RetW st (leastL m X).length ((leastL m X).flatMap encL) u st'
end Go.Den.Ve
end
section
namespace Go.Den.Ve
theorem cost_snoc (x:Sp):∀ s:List Sp,costL (s++[x])=costL s+if x.1=1 then 0 else 1
 | []=>by simp [costL]
 | y::s=>by rw [List.cons_append,costL,cost_snoc x s,costL];omega
theorem cost_le:∀ s:List Sp,costL s≤s.length
 | []=>Nat.le_refl _
 | x::s=>by have:=cost_le s;rw [costL,List.length_cons];split <;> omega
theorem soon_pre (s t:List Sp):∀ l:List Sp,soonL (l++s) (l++t)=soonL s t
 | []=>rfl
 | a::l=>by rw [List.cons_append,List.cons_append,soonL,if_pos rfl];exact soon_pre s t l
end Go.Den.Ve
end
section
namespace Go.Den.Ve
def WholeP (b:BK) (st:St) (v:PV) (st':St):Prop:=∃ u,v = .tuple [u,iv (wholeN b),iv (wholeC b)]∧RetW st (wholeT b).length ((wholeT b).flatMap encL) u st'
def tks (b:BK) (n i:Nat):List Int:=(leastB b i).map fun y=>takenI y (lnAt b n i)
def flK (b:BK) (n k:Nat):Int:=((farK b n k).map Prod.fst).sum
def fhK (b:BK) (n k:Nat):Int:=((farK b n k).map Prod.snd).sum
end Go.Den.Ve
end
section
namespace Go.Den.Ve
abbrev starT (n:Nat):List Int:=List.replicate n (-1)
def prodK (b:BK) (k:Nat):Int:=(List.range k).foldl (fun n i=>n*((leastB b i).length:Int)) 1
def inK (b:BK) (t:List (List Int)) (k:Nat):Bool:=(List.range k).all fun i=>decide (t.getD i []∈leastB b i)
def tookK (b:BK) (n:Nat) (t:List (List Int)) (k:Nat):Int:=((List.range k).map fun i=>takenI (t.getD i []) (lnAt b n i)).sum
def loK (b:BK) (n k:Nat):Int:=((farK b n k).map Prod.fst).sum
def hiK (b:BK) (n k:Nat):Int:=((farK b n k).map Prod.snd).sum
theorem prodK_succ (b:BK) (k:Nat):prodK b (k+1)=prodK b k*((leastB b k).length:Int):=by simp [prodK,List.range_succ]
theorem inK_succ (b:BK) (t:List (List Int)) (k:Nat):inK b t (k+1)=(inK b t k&&decide (t.getD k []∈leastB b k)):=by simp [inK,List.range_succ]
theorem tookK_succ (b:BK) (n:Nat) (t:List (List Int)) (k:Nat):tookK b n t (k+1)=tookK b n t k+takenI (t.getD k []) (lnAt b n k):=by
 simp [tookK,List.range_succ]
theorem loK_succ (b:BK) (n k:Nat):loK b n (k+1)=loK b n k+((far1 b n k).map Prod.fst).sum:=by rw [loK,farK_succ,List.map_append,List.sum_append];rfl
theorem hiK_succ (b:BK) (n k:Nat):hiK b n (k+1)=hiK b n k+((far1 b n k).map Prod.snd).sum:=by rw [hiK,farK_succ,List.map_append,List.sum_append];rfl
theorem fold_min4 {l:List Int} (h:l≠[]) (h4:∀ x∈l,x≤4):l.foldl min 4=minI l:=by
 cases l with
 | nil=>exact absurd rfl h
 | cons x l =>
  have:=h4 x (by simp)
  show l.foldl min (min 4 x)=l.foldl min x
  rw [show min 4 x=x by omega]
theorem fold_max0 {l:List Int} (h:l≠[]) (h0:∀ x∈l,0≤x):l.foldl max 0=maxI l:=by
 cases l with
 | nil=>exact absurd rfl h
 | cons x l =>
  have:=h0 x (by simp)
  show l.foldl max (max 0 x)=l.foldl max x
  rw [show max 0 x=x by omega]
theorem min_le {l:List Int}:∀ a:Int,l.foldl min a≤a∧∀ x∈l,l.foldl min a≤x:=by
 induction l with
 | nil=>exact fun a=>⟨Int.le_refl _,fun x hx=>by cases hx⟩
 | cons y l ih =>
  intro a
  have h:=ih (min a y)
  refine ⟨by rw [List.foldl_cons];omega,fun x hx=>?_⟩
  rw [List.foldl_cons]
  rcases List.mem_cons.1 hx with rfl|hx
  ·omega
  ·exact h.2 x hx
theorem le_max {l:List Int}:∀ a:Int,a≤l.foldl max a∧∀ x∈l,x≤l.foldl max a:=by
 induction l with
 | nil=>exact fun a=>⟨Int.le_refl _,fun x hx=>by cases hx⟩
 | cons y l ih =>
  intro a
  have h:=ih (max a y)
  refine ⟨by rw [List.foldl_cons];omega,fun x hx=>?_⟩
  rw [List.foldl_cons]
  rcases List.mem_cons.1 hx with rfl|hx
  ·omega
  ·exact h.2 x hx
theorem min_in {l:List Int} (h:∀ x∈l,0≤x):∀ a:Int,0≤a→0≤l.foldl min a:=by
 induction l with
 | nil=>exact fun a h=>h
 | cons y l ih =>
  intro a ha
  have:=h y (by simp)
  exact ih (fun x hx=>h x (by simp [hx])) (min a y) (by omega)
theorem max_in {l:List Int} (h:∀ x∈l,x≤4):∀ a:Int,a≤4→l.foldl max a≤4:=by
 induction l with
 | nil=>exact fun a h=>h
 | cons y l ih =>
  intro a ha
  have:=h y (by simp)
  exact ih (fun x hx=>h x (by simp [hx])) (max a y) (by omega)
end Go.Den.Ve
end
section
namespace Go.Den.Ve
theorem goodB_yes {b:BP} (h:goodB b=true):smallB b=true∧OkB b.bk:=by
 simp only [goodB,Bool.and_eq_true] at h
 exact ⟨h.1,bookB_iff.1 h.2⟩
def anyArg (b:BP) (l1 l2:List Int):Bool:=smallB b&&(decide ((l1.length:Int)≤6)&&decide ((l2.length:Int)≤6))
end Go.Den.Ve
end
section
namespace Go.Den.Ve
end Go.Den.Ve
end
section
namespace Go.Den.Ve
theorem any_mem {X:List (List Int)} {l:List Int}:(X.any fun x=>x==l)=decide (l∈X):=by
 rw [Bool.eq_iff_iff,List.any_eq_true,decide_eq_true_iff]
 constructor
 ·rintro ⟨x,hx,e⟩
  rw [← eq_of_beq e];exact hx
 ·exact fun h=>⟨l,h,by simp⟩
end Go.Den.Ve
end
section
namespace Go.Den.Ve
def allH (X:List (List Int)) (l:List Int):Bool:=X.all fun x=>holdL x l
def allHK (X:List (List Int)) (l:List Int) (k:Nat):Bool:=(X.take k).all fun x=>holdL x l
def ComR (X:List (List Int)) (w:Nat):List Int:=commonR (allH X) [] (linesL w)
theorem leastB_line {b:BP} (hB:OkB b.bk) {i:Nat} {x:List Int} (h:x∈leastB b.bk i):lineB b.words x=true:=(mem_linesB hB).1 (mem_least.1 h).1
theorem leastB_len {b:BP} (hB:OkB b.bk) (i:Nat):(leastB b.bk i).length≤121:=by
 have h3:=hB.w3
 refine Nat.le_trans (List.length_filter_le _ _) (lines_len _ (by omega))
theorem leastB_sorted (b:BP) (i:Nat):(leastB b.bk i).Pairwise (fun x y=>before x y=true):=(lines_sorted _).sublist List.filter_sublist
end Go.Den.Ve
end
section
namespace Go.Den.Ve
theorem mem_leastB {b:BP} (hB:OkB b.bk) {i:Nat} {x:List Int}:x∈leastB b.bk i↔lineB b.words x=true∧cost1 b.bk i x=manyB b.bk i:=by
 rw [leastB,mem_least,mem_linesB hB];rfl
theorem manyB_le {b:BP} (hB:OkB b.bk) (i:Nat) {x:List Int} (h:lineB b.words x=true):manyB b.bk i≤cost1 b.bk i x:=minL_le x ((mem_linesB hB).2 h)
end Go.Den.Ve
end
section
namespace Go.Den.Ve
theorem whole_line {b:BP} (hB:OkB b.bk):∀ x∈wholeT b.bk,lineB b.words x=true:=fun x hx=>by
 obtain ⟨i,hi,rfl⟩:=List.mem_map.1 hx
 have hne:=leastB_ne b.bk i
 cases h:leastB b.bk i with
 | nil=>exact absurd h hne
 | cons y l=>exact leastB_line hB (i:=i) (by rw [h];simp)
theorem whole_len (b:BK):(wholeT b).length=lines1 b:=by simp [wholeT]
end Go.Den.Ve
end
section
namespace Go.Den.Ve
theorem true_line {b:BP} {t:List SI} (h:txtB b.bk (t.map SI.l)=true) {k:Nat} (hk:k<t.length):(t.map SI.l).getD k []=t[k].l∧lineB b.words t[k].l=true:=by
 refine ⟨by rw [List.getD_eq_getElem?_getD,List.getElem?_map,List.getElem?_eq_getElem hk];rfl,?_⟩
 simp only [txtB,Bool.and_eq_true,List.all_eq_true] at h
 exact h.2 _ (List.mem_map.2 ⟨_,List.getElem_mem hk,rfl⟩)
theorem headD_get {l:List (List Int)} (h:0<l.length):l.headD []=l[0]:=by
 cases l with
 | nil=>simp at h
 | cons x l=>rfl
theorem whole_get {b:BK} {k:Nat} (h:k<(wholeT b).length) (h0:0<(leastB b k).length):(wholeT b)[k]=(leastB b k)[0]:=by
 simp only [wholeT,List.getElem_map,List.getElem_range]
 exact headD_get h0
theorem whole_total {b:BP} (hB:OkB b.bk):totalI b.bk (wholeT b.bk) (starT b.bk.copies.length)=wholeC b.bk:=by
 rw [star_total hB,wholeC]
 congr 1
 refine List.map_congr_left fun i hi=>?_
 have hi:=List.mem_range.1 hi
 have h0:0<(leastB b.bk i).length:=by
  have:=leastB_ne b.bk i
  cases h:leastB b.bk i with
  | nil=>exact absurd h this
  | cons x l=>simp
 have e:(wholeT b.bk).getD i []=(leastB b.bk i)[0]:=by
  rw [List.getD_eq_getElem?_getD,List.getElem?_eq_getElem (by rw [whole_len];exact hi),Option.getD_some,whole_get _ h0]
 rw [e]
 exact ((mem_leastB hB).1 (List.getElem_mem h0)).2
theorem true_total {b:BP} (hB:OkB b.bk) {t:List SI} (ht:txtB b.bk (t.map SI.l)=true):wholeC b.bk≤totalI b.bk (t.map SI.l) (starT b.bk.copies.length)∧(totalI b.bk (t.map SI.l) (starT b.bk.copies.length)=wholeC b.bk↔inK b.bk (t.map SI.l) (lines1 b.bk)=true):=by
 have hln:=(txt_in ht).1
 have hline:∀ i∈List.range (lines1 b.bk),lineB b.words ((t.map SI.l).getD i [])=true:=fun i hi=>by
  have hi:=List.mem_range.1 hi
  obtain ⟨e,h⟩:=true_line ht (show i<t.length by omega)
  rw [e];exact h
 have hle:∀ i∈List.range (lines1 b.bk),manyB b.bk i≤cost1 b.bk i ((t.map SI.l).getD i []):=fun i hi=>manyB_le hB i (hline i hi)
 rw [star_total hB]
 refine ⟨sum_le hle,fun h=>?_,fun h=>?_⟩
 ·have:=sum_eq hle h.symm
  rw [inK,List.all_eq_true]
  exact fun i hi=>decide_eq_true ((mem_leastB hB).2 ⟨hline i hi,(this i hi).symm⟩)
 ·rw [inK,List.all_eq_true] at h
  rw [wholeC]
  congr 1
  exact List.map_congr_left fun i hi=>((mem_leastB hB).1 (of_decide_eq_true (h i hi))).2
theorem took_inT {b:BP} (hB:OkB b.bk) {n:Nat} (hn:n<b.cs.length) {l:List Int} (hl:lineB b.words l=true) {k:Nat} (hk:k<lines1 b.bk):0≤takenI l (lnAt b.bk n k)∧takenI l (lnAt b.bk n k)≤4:=by
 refine ⟨taken_nn _ _,?_⟩
 have hc:=CP.okl hB (List.getElem_mem hn)
 have hkl:k<b.cs[n].ls.length:=by omega
 rw [lnAt_eq b hn hkl]
 unfold takenI
 split
 ·omega
 ·have h1:=(hc.2 _ (List.getElem_mem hkl)).1
  have:=lev4 (w:=b.words) hl h1
  show ((lev l b.cs[n].ls[k].l:Nat):Int)≤4
  omega
theorem far_in {b:BP} (hB:OkB b.bk) {n:Nat} (hn:n<b.cs.length) {k:Nat} (hk:k<lines1 b.bk) {x:Int} (hx:x∈dists b.bk n k) (hlo:(lnAt b.bk n k).lost=false):0≤x∧x≤4:=by
 obtain ⟨y,hy,rfl⟩:=List.mem_map.1 hx
 have:=took_inT hB hn ((mem_leastB hB).1 hy).1 hk
 unfold takenI at this
 rw [hlo] at this
 simpa using this
theorem dists_neT (b:BK) (n k:Nat):dists b n k≠[]:=fun e=>leastB_ne b k (List.map_eq_nil_iff.1 e)
theorem took_far {b:BP} (hB:OkB b.bk) {n:Nat} (hn:n<b.cs.length) {t:List (List Int)}:∀ {k:Nat},k≤lines1 b.bk→inK b.bk t k=true→loK b.bk n k≤tookK b.bk n t k∧tookK b.bk n t k≤hiK b.bk n k
 | 0,_,_=>⟨Int.le_refl _,Int.le_refl _⟩
 | k+1,hk,h=>by
  rw [inK_succ,Bool.and_eq_true] at h
  have ih:=took_far hB hn (k:=k) (by omega) h.1
  have hm:=of_decide_eq_true h.2
  rw [loK_succ,hiK_succ,tookK_succ]
  unfold far1
  cases hlo:(lnAt b.bk n k).lost
  ·have hx:((lev (t.getD k []) (lnAt b.bk n k).words:Nat):Int)∈dists b.bk n k:=List.mem_map.2 ⟨_,hm,rfl⟩
   have h1:=(min_le (l:=dists b.bk n k) 4).2 _ hx
   have h2:=(le_max (l:=dists b.bk n k) 0).2 _ hx
   rw [fold_min4 (dists_neT _ _ _) (fun x hx=>(far_in hB hn (by omega) hx hlo).2)] at h1
   rw [fold_max0 (dists_neT _ _ _) (fun x hx=>(far_in hB hn (by omega) hx hlo).1)] at h2
   have e:takenI (t.getD k []) (lnAt b.bk n k)=((lev (t.getD k []) (lnAt b.bk n k).words:Nat):Int):=by unfold takenI;simp [hlo]
   rw [e]
   simp only [Bool.false_eq_true,if_false,List.map_cons,List.map_nil,List.sum_cons,List.sum_nil]
   omega
  ·have e:takenI (t.getD k []) (lnAt b.bk n k)=0:=by unfold takenI;simp [hlo]
   rw [e]
   simp only [if_true,List.map_nil,List.sum_nil]
   omega
theorem prodK_in (b:BP) (h:OkB b.bk):∀ k,0≤prodK b.bk k∧prodK b.bk k≤121 ^ k
 | 0=>by simp [prodK]
 | k+1=>by
  have ih:=prodK_in b h k
  have hl:=least_len b h k
  have hp:(0:Int)≤121 ^ k:=Int.pow_nonneg (by omega)
  rw [prodK_succ,Int.pow_succ]
  exact ⟨Int.mul_nonneg ih.1 (by omega),Int.mul_le_mul ih.2 (by omega) (by omega) hp⟩
theorem tookK_in {b:BP} (hB:OkB b.bk) {n:Nat} (hn:n<b.cs.length) {t:List SI} (ht:txtB b.bk (t.map SI.l)=true):∀ {k:Nat},k≤lines1 b.bk→0≤tookK b.bk n (t.map SI.l) k∧tookK b.bk n (t.map SI.l) k≤4*k
 | 0,_=>⟨Int.le_refl _,Int.le_refl _⟩
 | k+1,hk=>by
  have ih:=tookK_in hB hn ht (k:=k) (by omega)
  obtain ⟨e,hl⟩:=true_line ht (show k<t.length by have:=(txt_in ht).1;omega)
  have:=took_inT hB hn hl (k:=k) (by omega)
  rw [tookK_succ,e]
  omega
theorem farT_in {b:BP} (hB:OkB b.bk) {n:Nat} (hn:n<b.cs.length):∀ {k:Nat},k≤lines1 b.bk→0≤loK b.bk n k∧loK b.bk n k≤4*k∧0≤hiK b.bk n k∧hiK b.bk n k≤4*k
 | 0,_=>⟨Int.le_refl _,Int.le_refl _,Int.le_refl _,Int.le_refl _⟩
 | k+1,hk=>by
  have ih:=farT_in hB hn (k:=k) (by omega)
  rw [loK_succ,hiK_succ]
  unfold far1
  cases hlo:(lnAt b.bk n k).lost
  ·have a1:=fold_min4 (dists_neT b.bk n k) (fun x hx=>(far_in hB hn (by omega) hx hlo).2)
   have a2:=fold_max0 (dists_neT b.bk n k) (fun x hx=>(far_in hB hn (by omega) hx hlo).1)
   have a3:=(min_le (l:=dists b.bk n k) 4).1
   have a4:=min_in (l:=dists b.bk n k) (fun x hx=>(far_in hB hn (by omega) hx hlo).1) 4 (by omega)
   have a5:=(le_max (l:=dists b.bk n k) 0).1
   have a6:=max_in (l:=dists b.bk n k) (fun x hx=>(far_in hB hn (by omega) hx hlo).2) 0 (by omega)
   simp only [Bool.false_eq_true,if_false,List.map_cons,List.map_nil,List.sum_cons,List.sum_nil]
   omega
  ·simp only [if_true,List.map_nil,List.sum_nil]
   omega
theorem far_step {b:BP} {n:Nat} (hn:n<b.cs.length) {k:Nat} (hk:k<b.cs[n].ls.length) (hlo:b.cs[n].ls[k].lost=true):loK b.bk n (k+1)=loK b.bk n k∧hiK b.bk n (k+1)=hiK b.bk n k:=by
 rw [loK_succ,hiK_succ]
 unfold far1
 rw [lnAt_eq b hn hk]
 simp [hlo]
theorem far_stepY {b:BP} (hB:OkB b.bk) {n:Nat} (hn:n<b.cs.length) {k:Nat} (hk:k<b.cs[n].ls.length) (hk2:k<lines1 b.bk) (hlo:b.cs[n].ls[k].lost=false):loK b.bk n (k+1)=loK b.bk n k+(dists b.bk n k).foldl min 4∧hiK b.bk n (k+1)=hiK b.bk n k+(dists b.bk n k).foldl max 0:=by
 have hl2:(lnAt b.bk n k).lost=false:=by rw [lnAt_eq b hn hk];exact hlo
 rw [fold_min4 (dists_neT b.bk n k) (fun x hx=>(far_in hB hn hk2 hx hl2).2),fold_max0 (dists_neT b.bk n k) (fun x hx=>(far_in hB hn hk2 hx hl2).1)]
 rw [loK_succ,hiK_succ]
 unfold far1
 rw [hl2]
 simp
end Go.Den.Ve
end

/- Part of the proofs of laws of the package version. Texts: VnRow, VnIn, VwA, VwE, VwF, VwG, VwB, VwI, VwJ, VxA, VxC, VxCb, VxD. -/
import Derived.Test.YtehdcjbdhkkipaaGreatDoorVIAn
import Derived.Test.YtehdcjbdhkkipaaGreatDoorRows
import Derived.ProofKit
import Derived.LaidMore
import Derived.OpenShut
import Derived.Stop.Joined
import Derived.HandedShaped
import Derived.Lay
import Derived.LaidHandle
import Derived.Carry
import Derived.Test.YtehdcjbdhkkipaaGreatDoorVIAm
set_option linter.unusedSimpArgs false
set_option linter.unusedVariables false
section
namespace Go.Proofs.YtehdcjbdhkkipaaGreatDoor
open Go.ChangeShapes Go.WideShapes Go.ChangeAt Go.WideMaps Go.WideElems Go.RowKit
set_option maxRecDepth 100000
theorem ownKnob0:ownKnob Tryz.prog.godebug=none:=by kernel_rfl
theorem laidOut0:laidOutB Tryz.prog=true:=by kernel_rfl
theorem maxLen_cell {W:World} (h:W.ShapedOpen Tryz.prog):∃ m,1<W.heap.size∧W.cell? ⟨1,0,none⟩=some (.int .i64 m):=by
 obtain ⟨m,hm⟩:=cell_of_shapedOpen_int (g:=1) (t:=3) (zero:=#[.int .i64 0]) (k := .i64) h (of_decide_eq_true (by kernel_rfl)) (by kernel_rfl) rfl (by kernel_rfl) (by kernel_rfl) Tryz.underlying3
 refine ⟨m,?_,hm⟩
 unfold World.cell? at hm
 split at hm
 ·rename_i hh
  exact (Array.getElem?_eq_some_iff.1 hh).1
 ·cases hm
theorem returns_law {H:Type} {enc:TypeId×Value→H} {a:Assume} {C:Checked} {os:Os} {f:FuncId} {fn:Func} {s:ChangeSpec} {conds:List PathCond} {apart fresh handsOn again:Bool} {X:World→Array Value→Prop}
  (hX:∀ (w w':World) (args:Array Value),w.heap=w'.heap→X w args→X w' args)
  (own:ownKnob C.prog.godebug=none) (started:os.Started) (noInit:C.prog.inits.idxOf? f=none) (hfn:C.prog.funcs[f]? = some fn)
  (witness:∃ (w:World) (tape:Tape) (i:Input),w.os=os∧(w.forCall tape i).Shaped C.prog∧i.vars=[]∧Input.okWide C.prog (w.forCall tape i) .any w.heap.size f i ∧
   ((s.pre enc C.prog fn conds apart (w.forCall tape i).memory i.args∧X (w.forCall tape i).memory i.args)∧sizedMet enc C.prog fn (OpenSpec.ofChange s) apart (w.forCall tape i).memory i.args)∧a.holds C.prog (lone (Frame.enter C.prog f i.args .normal) [] (w.forCall tape i)))
  (contract:∀ (W:World) (base:Nat) (args:Array Value) (ds gs:List (DataW H)) (before:List MemPlace),
   (∀ (j:Nat) t v,fn.params[j]? = some t→args[j]? = some v→Value.okWide C.prog W .any base t v) →
   DataW.Whole enc C.prog fn.params.toList s.vars apart W args.toList ds gs before →
   W.ShapedOpen C.prog →
   Calls C.prog f args W fun e W'=>∃ v,e = .returned v∧s.post enc C.prog fn apart fresh handsOn again W args v W') :
  ReturnsInHanded a C os f .any (fun w args=>(s.pre enc C.prog fn conds apart w args∧X w args)∧sizedMet enc C.prog fn (OpenSpec.ofChange s) apart w args) (s.post enc C.prog fn apart fresh handsOn again):=by
 refine returnsInHanded_of_calls own started noInit witness ?_
 intro w tape i _ hsh _ hok hpre _
 obtain ⟨_,_,_,fn',hfn',_,_,_,_,hval⟩:=hok
 have e:fn'=fn:=Option.some.inj (hfn'.symm.trans hfn)
 subst e
 obtain ⟨⟨⟨ds,gs,before,hw,_⟩,_⟩,_⟩:=hpre
 have hw':=DataW.Whole.of_heap (w':=w.forCall tape i) (by rfl) hw
 refine (contract (w.forCall tape i) w.heap.size i.args ds gs before hval hw' hsh).mono fun e W' ⟨v,he,hp⟩=>?_
 subst he
 exact ChangeSpec.post_blind hp
theorem trodAll_grown {H:Type} {enc:TypeId×Value→H} {W W':World} (hb:Below W.heap.size W W'):∀ {ts:List TypeId} {vs:List Value} {ds:List (DataW H)} {ps:List MemPlace},(∀ t∈ts,Tryz.prog.readableRec t=true∧t<Tryz.prog.types.size)→DataW.TrodAll enc Tryz.prog W 0 (fun _=>true) true ts vs ds ps→(∀ x∈ps,x.block<W.heap.size)→DataW.TrodAll enc Tryz.prog W' 0 (fun b=>decide (b<W.heap.size)) true ts vs ds ps
 | [],vs,ds,ps,_,h,_=>by
  obtain ⟨rfl,rfl,rfl⟩:=trodAll_nil h
  rfl
 | t::ts,vs,ds,ps,hr,h,hl=>by
  obtain ⟨v,vs',d,ds',p,q,rfl,rfl,rfl,h1,h2⟩:=trodAll_cons h
  have h0:=hr t (by simp)
  exact ⟨p,q,Below.trod laidOut0 h0.1 h0.2 h1 hb (fun x hx=>hl x (by simp [hx])),trodAll_grown hb (fun t ht=>hr t (by simp [ht])) h2 (fun x hx=>hl x (by simp [hx])),rfl⟩
theorem keptBut_grown {W W':World} {may:MemPlace→Prop} (h:∀ b,b<W.heap.size→W'.heap[b]? = W.heap[b]?) (ho:W'.os=W.os∧W'.output=W.output):W.keptBut W' may:=by
 refine ⟨ho.1,ho.2,fun i hi=>?_⟩
 rw [h i hi]
 split
 ·rename_i h1 h2
  rw [h1] at h2
  cases h2
  exact ⟨rfl,rfl,rfl,fun _ _=>rfl⟩
 ·rename_i h1 h2
  rw [h1] at h2
  cases h2
  exact .inr ⟨rfl,rfl⟩
 ·rfl
theorem post_true {H:Type} {enc:TypeId×Value→H} {fn:Func} {s:ChangeSpec} {W W':World} {args:Array Value} {ds:List (DataW H)} {before:List MemPlace}
  (hvars:s.vars=[]) (hW:DataW.Whole enc Tryz.prog fn.params.toList s.vars false W args.toList ds [] before) (hres:fn.resultTypes=#[4]) (hfn:s.fn H (ds++[])={ results:=[.lit (.bool true)],args:=ds })
  (hr:∀ t∈fn.params.toList,Tryz.prog.readableRec t=true∧t<Tryz.prog.types.size)
  (hs:W.heap.size≤W'.heap.size) (hb:∀ b,b<W.heap.size→W'.heap[b]? = W.heap[b]?) (ho:W'.os=W.os∧W'.output=W.output) :
  s.post enc Tryz.prog fn false true false false W args (.bool true) W':=by
 have hW0:=hW
 obtain ⟨p,q,hA,hV,rfl,_,_⟩:=hW
 rw [hvars] at hV
 obtain ⟨_,rfl⟩:([]:List (DataW H))=[]∧q=[]:=by
  cases q with
  | nil=>exact ⟨rfl,rfl⟩
  | cons x q=>simp [DataW.TrodVars] at hV
 have hlt:∀ x∈p,x.block<W.heap.size:=fun x hx=>by simpa using hW0.lt x (by simp [hx])
 have ha:({ W' with tape:=W.tape }:World).Alike W':=⟨rfl,rfl,rfl⟩
 have hbl:Below W.heap.size W { W' with tape:=W.tape }:=⟨ho.1,rfl,ho.2,hs,hb⟩
 have hT:=trodAll_grown hbl hr hA hlt
 have hT':DataW.TrodAll enc Tryz.prog W' 0 (fun b=>decide (b<W.heap.size)) true fn.params.toList args.toList ds p:=DataW.TrodAll.of_heap (show ({ W' with tape:=W.tape }:World).heap=W'.heap from rfl) hT
 refine ⟨ds,[],p++[],[],p,[],hW0,?_,?_,?_,keptBut_grown hb ho,fun h=>by cases h⟩
 ·rw [hfn,hres]
  exact trodAll_mk1 (shut_bool Tryz.underlying4 _)
 ·rw [hfn];exact hT'
 ·rw [hfn,hvars];rfl
end Go.Proofs.YtehdcjbdhkkipaaGreatDoor
end
section
namespace Go.Den.Ve
set_option maxRecDepth 100000
open Go.Proofs Go.ChangeShapes Go.WideShapes
section
variable {H:Type} {enc:TypeId×Value→H} {W:World} {base fuel:Nat} {d:DataW H} {ps:List MemPlace}
theorem cells_get {a:Addr} {k:Nat} {cs:List Value} (h:W.cells? 0 a k=some cs):cs.length=k∧∀ (j:Nat) (v:Value),cs[j]? = some v→W.cell? (a.add j)=some v:=by
 unfold World.cells? at h
 simp only [Nat.zero_le,if_true] at h
 have hl:=mapM_some_length h
 rw [List.length_range] at hl
 refine ⟨hl,fun j v hj=>?_⟩
 have hjl:=(List.getElem?_eq_some_iff.1 hj).1
 have:=mapM_some_get h j j (by rw [List.getElem?_range (by omega)])
 rw [this,hj]
theorem add_spot {a:Addr} {v:Value} (h:W.cell? ((a.add 0).add 0)=some v):a.spot=none:=by
 have:=World.cell?_spot h
 simpa [Addr.add] using this
theorem in_slice {α:Type} {en:α→List PV} {t e:TypeId} {k:Nat} (hu:Tryz.prog.underlying t=some (.slice e)) (hk:Tryz.prog.cellsOf e=k) (hk1:0<k) (hen:∀ a,(en a).length=k)
  (hel:∀ (n:Nat) (cs:List Value) (y:DataW H×List MemPlace),DataW.trod enc Tryz.prog W 0 (fun _=>true) true n e cs=some y→∃ a:α,VRL (gh0 W) W (en a) cs)
  {v:Value} {x:DataW H×List MemPlace} (h:DataW.trod enc Tryz.prog W 0 (fun _=>true) true fuel t [v]=some x):∃ F l,VR (gh0 W) W F v∧SlOf k en F l:=by
 rcases DataW.trod_slice hu h with ⟨hv,_⟩|⟨a,len,cap,elems,rest,n,_,hv,_,_,hl,_,hlen,hel',hrest,_⟩
 ·simp at hv
  subst hv
  exact ⟨.nilslice,[],by simp only [VR],rfl,fun _ h=>by cases h⟩
 ·simp at hv
  subst hv
  rw [hk] at hel' hrest
  by_cases hcap:cap=0
  ·subst hcap
   have hl0:len=0:=by omega
   subst hl0
   refine ⟨.slice .shared 0 [],[],?_,rfl,fun _ h=>by cases h⟩
   simp only [VR]
   exact .inr ⟨by trivial,by trivial,by trivial,a,rfl⟩
  ·have hsp:a.spot=none:=by
    have key:∀ (o:Option (DataW H×List MemPlace)) (i:Nat),i=0→o.isSome=true→(W.cells? 0 (a.add (i*k)) k).bind (DataW.trod enc Tryz.prog W 0 (fun _=>true) true n e)=o→a.spot=none:=fun o i hi ho h1=>by
     obtain ⟨y,rfl⟩:=Option.isSome_iff_exists.1 ho
     obtain ⟨cs,h2,h3⟩:=Option.bind_eq_some_iff.1 h1
     obtain ⟨h4,h5⟩:=cells_get h2
     have hc0:0<cs.length:=by omega
     have h6:=h5 0 cs[0] (List.getElem?_eq_getElem hc0)
     rw [hi,Nat.zero_mul] at h6
     exact add_spot h6
    by_cases hlen0:0<len
    ·refine key elems[0]? 0 rfl (by rw [List.getElem?_eq_getElem (by omega)];rfl) (hel' 0 hlen0)
    ·obtain ⟨h1,h2⟩:=hrest rfl
     exact key rest[0]? (len+0) (by omega) (by rw [List.getElem?_eq_getElem (by omega)];rfl) (h2 0 (by omega))
   obtain ⟨b,off,sp⟩:=a
   simp only at hsp
   subst hsp
   have hadd:∀ o j,((⟨b,o,none⟩:Addr).add j)=⟨b,o+j,none⟩:=fun o j=>by
    unfold Addr.add
    by_cases h0:j=0
    ·rw [if_pos h0,h0];rfl
    ·rw [if_neg h0]
   obtain ⟨l,hll,hlq⟩:=list_of (α:=α) (Q:=fun i a=>∀ (j:Nat) (p:PV),(en a)[j]? = some p→∃ v,W.cell? ⟨b,off+i*k+j,none⟩=some v∧VR (gh0 W) W p v) len (fun i hi=>by
    have h1:=hel' i hi
    rw [hadd,List.getElem?_eq_getElem (by omega:i<elems.length)] at h1
    obtain ⟨cs,h2,h3⟩:=Option.bind_eq_some_iff.1 h1
    obtain ⟨h4,h5⟩:=cells_get h2
    obtain ⟨x,hx⟩:=hel n cs _ h3
    refine ⟨x,fun j p hj=>?_⟩
    obtain ⟨v,g1,g2⟩:=hx.get hj
    have:=h5 j v g1
    rw [hadd] at this
    exact ⟨v,this,g2⟩)
   refine ⟨.slice .shared len (l.flatMap en),l,vr_slice0 hl fun j p hj=>?_,by simp only [PV.sl,hll],fun a _=>hen a⟩
   have hjl:=(List.getElem?_eq_some_iff.1 hj).1
   have hfl:(l.flatMap en).length=l.length*k:=flatMap_len (fun a _=>hen a)
   have hi:j / k<l.length:=by
    rw [hfl] at hjl
    exact (Nat.div_lt_iff_lt_mul hk1).2 hjl
   have hdr:(l.flatMap en).drop (j / k*k)=(l.drop (j / k)).flatMap en:=flatMap_drop (j / k) (fun a _=>hen a)
   have hdm:j / k*k+j % k=j:=by rw [Nat.mul_comm];exact Nat.div_add_mod j k
   have hj2:((l.flatMap en).drop (j / k*k))[j % k]? = some p:=by
    rw [List.getElem?_drop,← hj,hdm]
   rw [hdr,List.drop_eq_getElem_cons hi,List.flatMap_cons,List.getElem?_append_left (by rw [hen];exact Nat.mod_lt _ hk1)] at hj2
   obtain ⟨v,g1,g2⟩:=hlq (j / k) _ (List.getElem?_eq_getElem hi) (j % k) p hj2
   refine ⟨v,?_,g2⟩
   rw [← g1]
   congr 2
   omega
theorem e3':Tryz.prog.cellsOf 3=1:=by kernel_rfl
theorem e4':Tryz.prog.cellsOf 4=1:=by kernel_rfl
theorem e22':Tryz.prog.cellsOf 22=1:=by kernel_rfl
theorem e24':Tryz.prog.cellsOf 24=2:=by kernel_rfl
theorem e25':Tryz.prog.cellsOf 25=1:=by kernel_rfl
theorem e76':Tryz.prog.cellsOf 76=2:=by kernel_rfl
theorem e77':Tryz.prog.cellsOf 77=1:=by kernel_rfl
theorem trod_one {t n:Nat} {cs:List Value} {y:DataW H×List MemPlace} (h:DataW.trod enc Tryz.prog W 0 (fun _=>true) true n t cs=some y) (hs:(∃ e,Tryz.prog.underlying t=some (.slice e))):∃ v,cs=[v]:=by
 obtain ⟨e,hu⟩:=hs
 rcases DataW.trod_slice hu h with ⟨hv,_⟩|⟨a,len,cap,elems,rest,n,_,hv,_⟩
 ·exact ⟨_,hv⟩
 ·exact ⟨_,hv⟩
theorem in_ints1 {v:Value} {x:DataW H×List MemPlace} (h:DataW.trod enc Tryz.prog W 0 (fun _=>true) true fuel 25 [v]=some x):∃ F l,VR (gh0 W) W F v∧SlOf 1 encI F l :=
 in_slice Tryz.underlying25 e3' (by decide) (fun _=>rfl) (fun n cs y h=>by
  obtain ⟨k,rfl,_,_⟩:=DataW.trod_int Tryz.underlying3 h
  exact ⟨k,VRL.cons (by simp only [VR]) (VRL.nil_iff.2 rfl)⟩) h
theorem in_si {n:Nat} {cs:List Value} {y:DataW H×List MemPlace} (h:DataW.trod enc Tryz.prog W 0 (fun _=>true) true n 25 cs=some y):∃ a:SI,VRL (gh0 W) W (encSI a) cs:=by
 obtain ⟨v,rfl⟩:=trod_one h ⟨_,Tryz.underlying25⟩
 obtain ⟨F,l,h1,h2⟩:=in_ints1 h
 exact ⟨⟨F,l,h2⟩,VRL.cons h1 (VRL.nil_iff.2 rfl)⟩
theorem in_line {n:Nat} {cs:List Value} {y:DataW H×List MemPlace} (h:DataW.trod enc Tryz.prog W 0 (fun _=>true) true n 76 cs=some y):∃ a:LP,VRL (gh0 W) W (encLP a) cs:=by
 obtain ⟨xs,n,_,_,hl,hxl,hf⟩:=DataW.trod_struct Tryz.underlying76 h
 rw [e76'] at hl
 match cs,hl with
 | [a,b],_ =>
  have f0:DataW.trod enc Tryz.prog W 0 (fun _=>true) true n 4 (List.take (Tryz.prog.cellsOf 4) [a,b])=xs[0]? := hf 0 _ rfl
  have f1:DataW.trod enc Tryz.prog W 0 (fun _=>true) true n 25 (List.take (Tryz.prog.cellsOf 25) [b])=xs[1]? := hf 1 _ rfl
  rw [e4'] at f0
  rw [e25'] at f1
  have hx:xs.length=2:=hxl
  match xs,hx with
  | [x0,x1],_ =>
   obtain ⟨k,k0,_⟩:=DataW.trod_bool Tryz.underlying4 f0
   simp at k0
   subst k0
   obtain ⟨F,l,h1,h2⟩:=in_ints1 (x:=x1) f1
   exact ⟨⟨k,F,l,h2⟩,VRL.cons (by simp only [VR]) (VRL.cons h1 (VRL.nil_iff.2 rfl))⟩
theorem in_copy {n:Nat} {cs:List Value} {y:DataW H×List MemPlace} (h:DataW.trod enc Tryz.prog W 0 (fun _=>true) true n 77 cs=some y):∃ a:CP,VRL (gh0 W) W (encCP a) cs:=by
 obtain ⟨v,rfl⟩:=trod_one h ⟨_,Tryz.underlying77⟩
 obtain ⟨F,l,h1,h2⟩:=in_slice (en:=encLP) Tryz.underlying77 e76' (by decide) (fun _=>rfl) (fun n cs y h=>in_line h) h
 exact ⟨⟨F,l,h2⟩,VRL.cons h1 (VRL.nil_iff.2 rfl)⟩
theorem in_book {v:Value} (hok:Value.okWide Tryz.prog W .any base 24 v) (h:DataW.Trod enc Tryz.prog W 0 (fun _=>true) true 24 v d ps):∃ b:BP,VR (gh0 W) W b.pv v:=by
 obtain ⟨fuel,h⟩:=h
 unfold Value.okWide at hok
 rw [Tryz.underlying24] at hok
 obtain ⟨cs,rfl,_⟩:=hok
 obtain ⟨xs,n,_,_,hl,hxl,hf⟩:=DataW.trod_struct Tryz.underlying24 h
 rw [e24'] at hl
 have hcs:(Value.agg cs).cells.toList=cs.toList:=rfl
 rw [hcs] at hl hf
 obtain ⟨l⟩:=cs
 match l,hl with
 | [a,b],_ =>
  have f0:DataW.trod enc Tryz.prog W 0 (fun _=>true) true n 3 (List.take (Tryz.prog.cellsOf 3) [a,b])=xs[0]? := hf 0 _ rfl
  have f1:DataW.trod enc Tryz.prog W 0 (fun _=>true) true n 22 (List.take (Tryz.prog.cellsOf 22) [b])=xs[1]? := hf 1 _ rfl
  rw [e3'] at f0
  rw [e22'] at f1
  have hx:xs.length=2:=hxl
  match xs,hx with
  | [x0,x1],_ =>
   obtain ⟨k,k0,_,_⟩:=DataW.trod_int Tryz.underlying3 f0
   simp at k0
   subst k0
   obtain ⟨F,l,h1,h2⟩:=in_slice (en:=encCP) (x:=x1) Tryz.underlying22 e77' (by decide) (fun _=>rfl) (fun n cs y h=>in_copy h) f1
   refine ⟨⟨k,F,l,h2⟩,?_⟩
   simp only [VR]
   exact ⟨_,rfl,VRL.cons (by simp only [VR]) (VRL.cons h1 (VRL.nil_iff.2 rfl))⟩
theorem slice_cells {t e:TypeId} {v:Value} (hu:Tryz.prog.underlying t=some (.slice e)) (h:DataW.Trod enc Tryz.prog W 0 (fun _=>true) true t v d ps) (hok:Value.okWide Tryz.prog W .any base t v):∃ n x,DataW.trod enc Tryz.prog W 0 (fun _=>true) true n t [v]=some x:=by
 obtain ⟨fuel,h⟩:=h
 have hc:v.cells.toList=[v]:=by
  cases v with
  | agg cs=>exfalso;unfold Value.okWide at hok;rw [hu] at hok;unfold Cell.okWide Cell.ok at hok;rw [hu] at hok;exact hok
  | _=>rfl
 rw [hc] at h
 exact ⟨fuel,_,h⟩
theorem in_text {v:Value} (hok:Value.okWide Tryz.prog W .any base 45 v) (h:DataW.Trod enc Tryz.prog W 0 (fun _=>true) true 45 v d ps):∃ F l,VR (gh0 W) W F v∧SlOf 1 encSI F l:=by
 obtain ⟨n,x,h⟩:=slice_cells Tryz.underlying45 h hok
 exact in_slice Tryz.underlying45 e25' (by decide) (fun _=>rfl) (fun n cs y h=>in_si h) h
end
end Go.Den.Ve
end
section
namespace Go.Den.Ve
theorem c53 (b:BP) (h:b.cs.length<1000000) (n:Int) (st:St):Cl EE (.func 53 [] []) [b.pv,iv n] st (.ret (.bool (inN n 0 (b.cs.length - 1)))) st:=by
 have hw:IntKind.wrap .i64 ((b.cs.length:Int) - 1)=b.cs.length - 1:=wrap_in (by unfold inI;omega)
 refine cF2 pr53 fn53 (fun tm hl h0 h1=>?_)
 refine go2 (bw4 hl h0 h1 hw) (bw c79 fnil) ?_
 exact fQ hl
theorem bef_end {l m:List Int} {i:Nat} (ht:l.take i=m.take i) (h1:i≤l.length) (h2:i≤m.length) (h:i=l.length∨i=m.length):bef l m=decide ((l.length:Int)<m.length):=by
 have hbd:bef l m=bef (l.drop i) (m.drop i):=by
  conv=>lhs;rw [← List.take_append_drop i l,← List.take_append_drop i m,ht]
  exact bef_pre _ _ _
 have e1:(l.drop i).length=l.length - i:=List.length_drop
 have e2:(m.drop i).length=m.length - i:=List.length_drop
 rw [hbd]
 cases hl:l.drop i with
 | nil =>
  rw [hl] at e1
  cases hm:m.drop i with
  | nil=>rw [hm] at e2;simp at e1 e2;simp [bef];omega
  | cons y m'=>rw [hm] at e2;simp at e1 e2;simp [bef];omega
 | cons x l' =>
  rw [hl] at e1
  cases hm:m.drop i with
  | nil=>rw [hm] at e2;simp at e1 e2;simp [bef];omega
  | cons y m'=>rw [hm] at e2;simp at e1 e2;omega
theorem bef_at {l m:List Int} {i:Nat} (ht:l.take i=m.take i) (h1:i<l.length) (h2:i<m.length) (h:l[i]≠m[i]):bef l m=decide (l[i]<m[i]):=by
 have hbd:bef l m=bef (l.drop i) (m.drop i):=by
  conv=>lhs;rw [← List.take_append_drop i l,← List.take_append_drop i m,ht]
  exact bef_pre _ _ _
 rw [hbd,List.drop_eq_getElem_cons h1,List.drop_eq_getElem_cons h2,bef,if_neg h]
set_option maxHeartbeats 1000000 in
theorem c49 (F G:PV) (l m:List Int) (hF:SlOf 1 encI F l) (hG:SlOf 1 encI G m) (hN:l.length<1000000) (st:St):Cl EE (.func 49 [] []) [F,G] st (.ret (.bool (bef l m))) st:=by
 have hFs:=hF.slen
 have hGs:=hG.slen
 refine cF2 pr49 fn49 (fun tm hl h0 h1=>?_)
 refine go2 (bw3 hl h0 h1) fnil ?_
 refine wp_for [5] (fun i vs st1=>vs=[iv i]∧i≤l.length∧i≤m.length∧l.take i=m.take i∧st1={ heap:=st.heap,lo:=st.heap.length }) (fun i=>l.length - i) ⟨(sR hl),Nat.zero_le _,Nat.zero_le _,rfl,rfl⟩ ?_
 rintro i tm1 st1 ⟨hv,hi,hi2,ht,rfl⟩ hS
 simp only [List.map_cons,List.map_nil,List.cons.injEq,and_true] at hv
 have hl1:tm1.length=41:=lN hS hl;have i0:tg tm1 0=F:=tQ hS (bw3 hl h0 h1);have i1:tg tm1 1=G:=tQ hS (bw3 hl h0 h1);clear hS
 cases d1:decide ((i:Int)<l.length)
 ·have:=of_decide_eq_false d1
  refine go2 (bw5 hl1 hv i0 hFs d1) fnil ?_
  refine ⟨false,(sG hl1),fun _=>?_,fun hb=>by cases hb⟩
  rw [bef_end ht hi hi2 (by omega)]
  refine go2 (bw5 hl1 i0 i1 hFs hGs) fnil ?_
  exact fQ hl1
 have hlt:i<l.length:=by have:=of_decide_eq_true d1;omega
 cases d2:decide ((i:Int)<m.length)
 ·have:=of_decide_eq_false d2
  refine go2 (bw8 hl1 hv i0 i1 hFs hGs d1 d2) fnil ?_
  refine ⟨false,(sG hl1),fun _=>?_,fun hb=>by cases hb⟩
  rw [bef_end ht hi hi2 (by omega)]
  refine go2 (bw5 hl1 i0 i1 hFs hGs) fnil ?_
  exact fQ hl1
 have hlt2:i<m.length:=by have:=of_decide_eq_true d2;omega
 have hw1:IntKind.wrap .i64 ((i:Int)+1)=((i+1:Nat):Int):=wrap_nat (n:=i+1) (by omega)
 refine go2 (bw8 hl1 hv i0 i1 hFs hGs d1 d2) fnil ?_
 refine ⟨true,(sG hl1),(fun hb=>by cases hb),fun _=>⟨by omega,?_⟩⟩
 cases hx:(l[i] != m[i])
 ·refine go2 (bw6 hl1 hv i0 i1 hw1 hx) fnil ?_
  exact ⟨(sG hl1),by omega,by omega,take_snoc_eq hlt hlt2 ht (bne_eq_false_iff_eq.1 hx),rfl⟩
 ·rw [bef_at ht hlt hlt2 (bne_iff_ne.1 hx)]
  refine go2 (bw5 hl1 hv i0 i1 hx) fnil ?_
  exact fQ hl1
end Go.Den.Ve
end
section
namespace Go.Den.Ve
theorem CP.okl {b:BP} (h:OkB b.bk) {c:CP} (hc:c∈b.cs):c.ls.length=lines1 b.bk∧∀ x∈c.ls,lineB b.words x.l=true∧(x.lost=true→x.l=[]):=by
 obtain ⟨h1,h2⟩:=h.all c.c (List.mem_map.2 ⟨c,hc,rfl⟩)
 exact ⟨by simpa using h1,fun x hx=>h2 x.ln (List.mem_map.2 ⟨x,hx,rfl⟩)⟩
theorem line4 {w:Int} {l:List Int} (h:lineB w l=true):l.length≤4:=(lineB_iff.1 h).1
theorem c26y (b:BP) (hB:OkB b.bk) (L1 L2:PV) (l1 l2:List Int) (hL1:SlOf 1 encI L1 l1) (hL2:SlOf 1 encI L2 l2) (h1:lineB b.words l1=true) (h2:lineB b.words l2=true) (st:St):Cl EE (.func 26 [] []) [b.pv,L1,L2] st (.ret (.tuple [iv (lev l1 l2:Nat),iv 0])) st:=by
 have:=c26 b hB.sm L1 L2 l1 l2 hL1 hL2 st
 rw [if_pos (by rw [bookB_iff.2 hB,h1,h2];rfl)] at this
 exact this
theorem lev4 {w:Int} {l m:List Int} (h1:lineB w l=true) (h2:lineB w m=true):lev l m≤4:=by
 have:=lev_max l m
 have:=line4 h1
 have:=line4 h2
 omega
def costK (b:BK) (i:Nat) (l:List Int) (k:Nat):Int:=((b.copies.take k).map fun c=>takenI l (c.getD i ⟨true,[]⟩)).sum
theorem costK_succ (b:BP) (i:Nat) (l:List Int) {k:Nat} (hk:k<b.cs.length) (hi:i<b.cs[k].ls.length):costK b.bk i l (k+1)=costK b.bk i l k+takenI l b.cs[k].ls[i].ln:=by
 unfold costK
 have hk':k<b.bk.copies.length:=by simpa using hk
 rw [List.take_succ_eq_append_getElem hk',List.map_append,List.sum_append_int,List.map_singleton,List.sum_singleton]
 congr 2
 have:b.bk.copies[k]=b.cs[k].c:=by simp
 rw [this,List.getD_eq_getElem?_getD,List.getElem?_map,List.getElem?_eq_getElem hi];rfl
theorem taken4 {w:Int} {l:List Int} {x:LP} (h1:lineB w l=true) (h2:lineB w x.l=true):0≤takenI l x.ln∧takenI l x.ln≤4:=by
 refine ⟨taken_nn _ _,?_⟩
 unfold takenI
 have:=lev4 h1 h2
 split
 ·omega
 ·show ((lev l x.l:Nat):Int)≤4
  omega
theorem costK_in (b:BP) (hB:OkB b.bk) {i:Nat} (hi:i<lines1 b.bk) {l:List Int} (hl:lineB b.words l=true):∀ {k:Nat},k≤b.cs.length→0≤costK b.bk i l k∧costK b.bk i l k≤4*k
 | 0,_=>by simp [costK]
 | k+1,hk=>by
  have h1:=costK_in b hB hi hl (k:=k) (by omega)
  have hc:=CP.okl hB (List.getElem_mem (h:=show k<b.cs.length by omega))
  have hik:i<b.cs[k].ls.length:=by omega
  have h2:=taken4 (x:=b.cs[k].ls[i]) hl (hc.2 _ (List.getElem_mem hik)).1
  rw [costK_succ b i l (by omega) hik]
  omega
def briefS (X:List SI):Bool:=decide (X.length≤6)&&X.all fun x=>decide (x.l.length≤6)
set_option maxHeartbeats 1000000 in
theorem c66 (F:PV) (X:List SI) (hF:SlOf 1 encSI F X) (st:St):Cl EE (.func 66 [] []) [F] st (.ret (.bool (briefS X))) st:=by
 have hFs:=hF.slen
 refine cF1 pr66 fn66 (fun tm hl h0=>?_)
 refine go2 (bw hl h0) fnil ?_
 refine wp_for [3] (fun i vs S=>vs=[iv i]∧i≤6∧i≤X.length∧(∀ x∈X.take i,x.l.length≤6)∧S={ heap:=st.heap,lo:=st.heap.length }) (fun i=>X.length - i) ⟨(sR hl),by omega,Nat.zero_le _,by simp,rfl⟩ ?_
 rintro i tm1 S ⟨hv,hi6,hi,hall,rfl⟩ hS
 simp only [List.map_cons,List.map_nil,List.cons.injEq,and_true] at hv
 have hl1:tm1.length=23:=lN hS hl;have i0:tg tm1 0=F:=tQ hS (bw hl h0);clear hS
 have e6:decide (X.length≤6)=decide ((X.length:Int)≤6):=by rw [decide_eq_decide];omega
 cases d1:decide ((i:Int)<X.length)
 ·have hlt:=of_decide_eq_false d1
  have hin:i=X.length:=by omega
  rw [hin,List.take_length] at hall
  have e:briefS X=decide ((X.length:Int)≤6):=by
   rw [briefS,List.all_eq_true.2 (fun x hx=>decide_eq_true (hall x hx)),Bool.and_true,e6]
  refine go2 (bw5 hl1 hv i0 hFs d1) fnil ?_
  refine ⟨false,(sG hl1),fun _=>?_,fun hb=>by cases hb⟩
  rw [e]
  refine go2 (bw3 hl1 i0 hFs) fnil ?_
  exact fQ hl1
 have hlt:i<X.length:=by have:=of_decide_eq_true d1;omega
 cases d2:decide ((i:Int)<6)
 ·have hlt2:=of_decide_eq_false d2
  have e:briefS X=decide ((X.length:Int)≤6):=by
   have h1:decide (X.length≤6)=false:=decide_eq_false (by omega)
   rw [briefS,h1,Bool.false_and,← e6,h1]
  refine go2 (bw6 hl1 hv i0 hFs d1 d2) fnil ?_
  refine ⟨false,(sG hl1),fun _=>?_,fun hb=>by cases hb⟩
  rw [e]
  refine go2 (bw3 hl1 i0 hFs) fnil ?_
  exact fQ hl1
 have hlt2:i<6:=by have:=of_decide_eq_true d2;omega
 have hw1:IntKind.wrap .i64 ((i:Int)+1)=((i+1:Nat):Int):=wrap_nat (n:=i+1) (by omega)
 refine go2 (bw6 hl1 hv i0 hFs d1 d2) fnil ?_
 refine ⟨true,(sG hl1),(fun hb=>by cases hb),fun _=>⟨by omega,?_⟩⟩
 have hX:=X[i].h
 cases hx:decide ((X[i].l.length:Int)>6)
 ·have hx6:=of_decide_eq_false hx
  refine go2 (bw5 hl1 hv i0 hx hw1) fnil ?_
  refine ⟨(sG hl1),by omega,by omega,fun x hm=>?_,rfl⟩
  rw [List.take_succ_eq_append_getElem hlt] at hm
  rcases List.mem_append.1 hm with hm|hm
  ·exact hall x hm
  ·rw [List.mem_singleton.1 hm];omega
 ·have hx6:=of_decide_eq_true hx
  have e:briefS X=false:=by
   have h1:(X.all fun x=>decide (x.l.length≤6))=false:=List.all_eq_false.2 ⟨X[i],List.getElem_mem hlt,by simp;omega⟩
   rw [briefS,h1,Bool.and_false]
  rw [e]
  refine go2 (bw4 hl1 hv i0 hx) fnil ?_
  exact fQ hl1
set_option maxHeartbeats 1000000 in
theorem c67 (b:BP) (hB:OkB b.bk) (T:PV) (t:List SI) (hT:SlOf 1 encSI T t) (hN:t.length<1000000) (hNt:∀ x∈t,x.l.length<1000000) (st:St):Cl EE (.func 67 [] []) [b.pv,T] st (.ret (.bool (txtB b.bk (t.map SI.l)))) st:=by
 have hTs:=hT.slen
 have hb:=b.h
 have hw:=hB.okW
 have hp0:=hB.pos
 have hl1b:=lines1_bk b hp0
 refine cF2 pr67 fn67 (fun tm hl h0 h1=>?_)
 refine go2 (bw hl h0) fnil ?_
 refine wp_for [5] (fun i vs S=>vs=[iv i]∧i≤t.length∧(∀ x∈t.take i,lineB b.words x.l=true)∧S=({ heap:=st.heap,lo:=st.heap.length }:St).push (.var [iv b.words,b.v])) (fun i=>t.length - i) ⟨(sR hl),Nat.zero_le _,by simp,rfl⟩ ?_
 rintro i tm1 S ⟨hv,hi,hall,rfl⟩ hS
 simp only [List.map_cons,List.map_nil,List.cons.injEq,and_true] at hv
 have hl1:tm1.length=27:=lN hS hl;have i1:tg tm1 1=T:=tQ hS (bw hl h1);have i2:tg tm1 2 = .ptr st.heap.length 0:=tQ hS (bw hl h1);clear hS
 refine go2 (bw4 hl1 hv i1 hTs) fnil ?_
 refine ⟨decide ((i:Int)<t.length),(sG hl1),fun hbi=>?_,fun hbi=>?_⟩
 ·have hlt:=of_decide_eq_false hbi
  have hin:i=t.length:=by omega
  rw [hin,List.take_length] at hall
  have hC0:=b.cs[0].h
  have hz:((0:Nat):Int)=0:=rfl
  have e:txtB b.bk (t.map SI.l)=((t.length:Int)==b.cs[0].ls.length):=by
   have h1:(t.map SI.l).all (lineB b.bk.words)=true:=List.all_eq_true.2 fun x hx=>by obtain ⟨y,hy,rfl⟩:=List.mem_map.1 hx;exact hall y hy
   rw [txtB,h1,Bool.and_true,hl1b,List.length_map,Bool.eq_iff_iff,decide_eq_true_iff,beq_iff_eq];omega
  rw [e]
  refine go2 (bw4 hl1 i1 i2 hTs) fnil ?_
  exact fQ hl1
 ·have hlt:i<t.length:=by have:=of_decide_eq_true hbi;omega
  have hw1:IntKind.wrap .i64 ((i:Int)+1)=((i+1:Nat):Int):=wrap_nat (n:=i+1) (by omega)
  refine ⟨by omega,?_⟩
  have k24:=fun st=>c24 b.words b.v b.cells b.isCell hw t[i].v t[i].l t[i].h (hNt _ (List.getElem_mem hlt)) st
  cases hx:lineB b.words t[i].l
  ·have e:txtB b.bk (t.map SI.l)=false:=by
    have h1:(t.map SI.l).all (lineB b.bk.words)=false:=List.all_eq_false.2 ⟨t[i].l,List.mem_map.2 ⟨_,List.getElem_mem hlt,rfl⟩,by rw [hx];simp⟩
    rw [txtB,h1,Bool.and_false]
   rw [e]
   rw [hx] at k24
   refine go2 (bw5 hl1 hv i1 i2 hx) (bw k24 fnil) ?_
   exact fQ hl1
  ·rw [hx] at k24
   refine go2 (bw6 hl1 hv i1 i2 hx hw1) (bw k24 fnil) ?_
   refine ⟨(sG hl1),by omega,fun x hm=>?_,rfl⟩
   rw [List.take_succ_eq_append_getElem hlt] at hm
   rcases List.mem_append.1 hm with hm|hm
   ·exact hall x hm
   ·rw [List.mem_singleton.1 hm];exact hx
end Go.Den.Ve
end
section
namespace Go.Den.Ve
def growN (w:Nat) (l:List Int):List (List Int):=(List.range w).map fun (x:Nat)=>l++[(x:Int)]
theorem lists_grow (w:Nat):∀ k,listsL w (k+1)=(listsL w k).flatMap (growN w)
 | 0=>by
  simp only [listsL,growN,List.flatMap_cons,List.flatMap_nil,List.append_nil,List.nil_append,List.map_cons,List.map_nil]
  induction List.range w with
  | nil=>rfl
  | cons x l ih=>rw [List.flatMap_cons,ih];rfl
 | k+1=>by
  have ih:=lists_grow w k
  have e:listsL w (k+1+1)=(List.range w).flatMap fun (x:Nat)=>(listsL w (k+1)).map fun l=>(x:Int)::l:=rfl
  have e2:listsL w (k+1)=(List.range w).flatMap fun (x:Nat)=>(listsL w k).map fun l=>(x:Int)::l:=rfl
  rw [e]
  conv=>rhs;rw [e2]
  rw [List.flatMap_assoc]
  congr 1
  funext x
  rw [ih,List.map_flatMap,List.flatMap_map]
  congr 1
  funext l
  simp only [growN,List.map_map]
  rfl
def preL (w k:Nat):List (List Int):=(List.range k).flatMap (listsL w)
theorem preL_succ (w k:Nat):preL w (k+1)=preL w k++listsL w k:=by simp [preL,List.range_succ]
theorem preL_len {w:Nat} (hw:w≤3):∀ k,(preL w k).length≤3 ^ k
 | 0=>by simp [preL]
 | k+1=>by
  have h:=preL_len hw k
  rw [preL_succ,List.length_append,lists_pow]
  have h2:w ^ k≤3 ^ k:=Nat.pow_le_pow_left hw k
  have:3 ^ (k+1)=3*3 ^ k:=by rw [Nat.pow_succ];omega
  omega
def outA (w k m x:Nat):List (List Int):=preL w (k+1)++(((listsL w k).take m).flatMap (growN w)++(growN w ((listsL w k).getD m [])).take x)
def costsL (b:BK) (i:Nat) (w:Nat):List Int:=(linesL w).map (cost1 b i)
end Go.Den.Ve
end
section
namespace Go.Den
end Go.Den
namespace Go.Den.Ve
def LeastP (X:List (List Int)) (m:List Int→Int) (st:St) (v:PV) (st':St):Prop:=∃ u,v = .tuple [u,iv (minL m X)]∧RetW st (leastL m X).length ((leastL m X).flatMap encL) u st'
end Go.Den.Ve
end
section
namespace Go.Den.Ve
theorem cost_snoc (x:Sp):∀ s:List Sp,costL (s++[x])=costL s+if x.1=1 then 0 else 1
 | []=>by simp [costL]
 | y::s=>by rw [List.cons_append,costL,cost_snoc x s,costL];omega
theorem cost_le:∀ s:List Sp,costL s≤s.length
 | []=>Nat.le_refl _
 | x::s=>by have:=cost_le s;rw [costL,List.length_cons];split <;> omega
theorem soon_pre (s t:List Sp):∀ l:List Sp,soonL (l++s) (l++t)=soonL s t
 | []=>rfl
 | a::l=>by rw [List.cons_append,List.cons_append,soonL,if_pos rfl];exact soon_pre s t l
end Go.Den.Ve
end
section
namespace Go.Den.Ve
def mixOk (b:BK) (n:Int) (x:T4):Bool:=inN x.1 0 (b.copies.length - 1)&&(inN x.2.1 0 (b.copies.length - 1)&&((x.1 != x.2.1)&&((x.1 != n)&&((x.2.1 != n)&&inN x.2.2.1 1 (lines1 b - 1)))))
structure MixI (b:BP) (n:Nat) (i j c:Nat):Prop where
 hi:i<b.cs.length
 hj:j<b.cs.length
 ij:i≠j
 ni:i≠n
 nj:j≠n
 c1:1≤c
 c2:c<lines1 b.bk
def copiedK (F:List (List Int)) (c:List LN) (k:Nat):Int:=((List.range k).map fun i=>takenI (F.getD i []) (c.getD i ⟨true,[]⟩)).sum
theorem copiedK_all (F:List (List Int)) (c:List LN):copiedK F c c.length=copiedI F c:=rfl
theorem copiedK_succ (F:List (List Int)) (c:List LN) (k:Nat):copiedK F c (k+1)=copiedK F c k+takenI (F.getD k []) (c.getD k ⟨true,[]⟩):=by
 simp [copiedK,List.range_succ,List.sum_append_int]
def mixL (b:BP) (i j c k:Nat) (hi:i<b.cs.length) (hj:j<b.cs.length) (hik:k<b.cs[i].ls.length) (hjk:k<b.cs[j].ls.length):LP:=if k<c then b.cs[i].ls[k] else b.cs[j].ls[k]
theorem lines_at (b:BP) {i:Nat} (hi:i<b.cs.length):linesW (b.bk.copies.getD i [])=b.cs[i].ls.map LP.l:=by
 have:b.bk.copies.getD i []=b.cs[i].c:=by rw [List.getD_eq_getElem?_getD];simp [hi]
 rw [this]
 simp [linesW,Function.comp_def]
theorem mixW_lo (b:BP) {i j c k:Nat} (hi:i<b.cs.length) (hk:k<b.cs[i].ls.length) (hkc:k<c):(mixW b.bk i j c).getD k []=b.cs[i].ls[k].l:=by
 rw [mixW,lines_at b hi,List.getD_eq_getElem?_getD,List.getElem?_append_left (by simp;omega),List.getElem?_take,if_pos hkc]
 simp [hk]
theorem mixW_hi (b:BP) {i j c k:Nat} (hi:i<b.cs.length) (hj:j<b.cs.length) (hl:b.cs[i].ls.length=b.cs[j].ls.length) (hc:c≤b.cs[i].ls.length) (hk:k<b.cs[j].ls.length) (hkc:¬ k<c):(mixW b.bk i j c).getD k []=b.cs[j].ls[k].l:=by
 have e1:((b.cs[i].ls.map LP.l).take c).length=c:=by rw [List.length_take,List.length_map];omega
 rw [mixW,lines_at b hi,lines_at b hj,List.getD_eq_getElem?_getD,List.getElem?_append_right (by omega),e1,List.getElem?_drop]
 have:c+(k - c)=k:=by omega
 rw [this]
 simp [hk]
theorem copy_ln (b:BP) {n k:Nat} (hn:n<b.cs.length) (hk:k<b.cs[n].ls.length):(b.bk.copies.getD n []).getD k ⟨true,[]⟩=b.cs[n].ls[k].ln:=by
 have e1:b.bk.copies.getD n []=b.cs[n].c:=by rw [List.getD_eq_getElem?_getD];simp [hn]
 rw [e1,List.getD_eq_getElem?_getD]
 simp [hk]
theorem copy_len (b:BP) (hB:OkB b.bk) {n:Nat} (hn:n<b.cs.length):(b.bk.copies.getD n []).length=lines1 b.bk:=by
 have e1:b.bk.copies.getD n []=b.cs[n].c:=by rw [List.getD_eq_getElem?_getD];simp [hn]
 rw [e1]
 have:=(CP.okl hB (List.getElem_mem hn)).1
 simpa using this
theorem mix_line (b:BP) (hB:OkB b.bk) {n i j c:Nat} (hx:MixI b n i j c) {k:Nat} (hk:k<lines1 b.bk):lineB b.words ((mixW b.bk i j c).getD k [])=true:=by
 have oi:=CP.okl hB (List.getElem_mem hx.hi)
 have oj:=CP.okl hB (List.getElem_mem hx.hj)
 by_cases h:k<c
 ·rw [mixW_lo b hx.hi (by omega) h]
  exact (oi.2 _ (List.getElem_mem _)).1
 ·rw [mixW_hi b hx.hi hx.hj (by omega) (by have:=hx.c2;omega) (by omega) h]
  exact (oj.2 _ (List.getElem_mem _)).1
theorem mixK_in (b:BP) (hB:OkB b.bk) {n i j c:Nat} (hn:n<b.cs.length) (hx:MixI b n i j c):∀ {k:Nat},k≤lines1 b.bk→0≤copiedK (mixW b.bk i j c) (b.bk.copies.getD n []) k∧copiedK (mixW b.bk i j c) (b.bk.copies.getD n []) k≤4*k
 | 0,_=>by simp [copiedK]
 | k+1,hk=>by
  have h1:=mixK_in b hB hn hx (k:=k) (by omega)
  have on:=CP.okl hB (List.getElem_mem hn)
  have h2:=taken4 (x:=b.cs[n].ls[k]'(by omega)) (mix_line b hB hx (k:=k) (by omega)) (on.2 _ (List.getElem_mem _)).1
  rw [copiedK_succ,copy_ln b hn (by omega)]
  omega
abbrev ltM (x y:T4):Bool:=decide (x.2.2.2<y.2.2.2)
def outM (L:List T4):List PV:=match bestF ltM L with
 | some x=>enc4 x
 | none=>[iv 0,iv 0,iv 0,iv 0]
def mixC' (b:BK) (n i j m:Nat):List T4:=if i=j∨i=n∨j=n then [] else mixC b n i j m
end Go.Den.Ve
end
section
namespace Go.Den.Ve
theorem txt_lines {b:BP} {t:List SI} (h:txtB b.bk (t.map SI.l)=true):∀ (k:Nat) (hk:k<t.length),lineB b.words t[k].l=true:=fun k hk=>by
 simp only [txtB,Bool.and_eq_true,List.all_eq_true] at h
 exact h.2 _ (List.mem_map.2 ⟨t[k],List.getElem_mem hk,rfl⟩)
def fromL (b:BP) (t:List SI) (p:Int):List (List Int):=if p<0 then t.map SI.l else linesW (b.bk.copies.getD p.toNat [])
theorem takes_from (b:BP) (t:List SI) (n:Nat) (p:Int):takesI b.bk (t.map SI.l) n p=copiedI (fromL b t p) (b.bk.copies.getD n []):=rfl
theorem from_t (b:BP) (t:List SI) {k:Nat} (hk:k<t.length) {p:Int} (hp:p<0):(fromL b t p).getD k []=t[k].l:=by
 unfold fromL
 rw [if_pos hp,List.getD_eq_getElem?_getD,List.getElem?_map,List.getElem?_eq_getElem hk];rfl
theorem from_c (b:BP) (t:List SI) {k q:Nat} (hq:q<b.cs.length) (hk:k<b.cs[q].ls.length):(fromL b t q).getD k []=b.cs[q].ls[k].l:=by
 unfold fromL
 rw [if_neg (by omega),Int.toNat_natCast,lines_at b hq,List.getD_eq_getElem?_getD,List.getElem?_map,List.getElem?_eq_getElem hk];rfl
theorem from_line (b:BP) (hB:OkB b.bk) (t:List SI) (ht:txtB b.bk (t.map SI.l)=true) {p:Int} (hp1 : -1≤p) (hp2:p<b.cs.length) {k:Nat} (hk:k<lines1 b.bk):lineB b.words ((fromL b t p).getD k [])=true:=by
 have htl:=(txt_in ht).1
 by_cases h:p<0
 ·rw [from_t b t (by omega) h];exact txt_lines ht k (by omega)
 ·obtain ⟨q,rfl⟩:∃ q:Nat,p=q:=⟨p.toNat,by omega⟩
  have o:=CP.okl hB (List.getElem_mem (h:=show q<b.cs.length by omega))
  rw [from_c b t (by omega) (by omega)]
  exact (o.2 _ (List.getElem_mem _)).1
theorem fromK_in (b:BP) (hB:OkB b.bk) (t:List SI) (ht:txtB b.bk (t.map SI.l)=true) {p:Int} (hp1 : -1≤p) (hp2:p<b.cs.length) {n:Nat} (hn:n<b.cs.length):∀ {k:Nat},k≤lines1 b.bk→0≤copiedK (fromL b t p) (b.bk.copies.getD n []) k∧copiedK (fromL b t p) (b.bk.copies.getD n []) k≤4*k
 | 0,_=>by simp [copiedK]
 | k+1,hk=>by
  have h1:=fromK_in b hB t ht hp1 hp2 hn (k:=k) (by omega)
  have on:=CP.okl hB (List.getElem_mem hn)
  have h2:=taken4 (x:=b.cs[n].ls[k]'(by omega)) (from_line b hB t ht hp1 hp2 (k:=k) (by omega)) (on.2 _ (List.getElem_mem _)).1
  rw [copiedK_succ,copy_ln b hn (by omega)]
  omega
theorem tree_in {n:Nat} {tr:List Int} (h:treeB n tr=true):tr.length=n∧(∀ x∈tr,-1≤x∧x<n)∧∀ i,i<n→climbL tr n i<0:=by
 simp only [treeB,Bool.and_eq_true,decide_eq_true_eq,List.all_eq_true,List.mem_range] at h
 exact ⟨h.1,fun x hx=>h.2.1 x hx,fun i hi=>h.2.2 i hi⟩
def totalK (b:BP) (t:List SI) (tr:List Int) (k:Nat):Int:=((List.range k).map fun n=>takesI b.bk (t.map SI.l) n (tr.getD n 0)).sum
theorem totalK_all (b:BP) (t:List SI) (tr:List Int):totalK b t tr tr.length=totalI b.bk (t.map SI.l) tr:=rfl
theorem totalK_succ (b:BP) (t:List SI) (tr:List Int) (k:Nat):totalK b t tr (k+1)=totalK b t tr k+takesI b.bk (t.map SI.l) k (tr.getD k 0):=by
 simp [totalK,List.range_succ,List.sum_append_int]
theorem takes_in (b:BP) (hB:OkB b.bk) (t:List SI) (ht:txtB b.bk (t.map SI.l)=true) {p:Int} (hp1 : -1≤p) (hp2:p<b.cs.length) {n:Nat} (hn:n<b.cs.length):0≤takesI b.bk (t.map SI.l) n p∧takesI b.bk (t.map SI.l) n p≤16:=by
 have:=fromK_in b hB t ht hp1 hp2 hn (k:=lines1 b.bk) (Nat.le_refl _)
 have h4:=hB.l4
 rw [takes_from,← copiedK_all,copy_len b hB hn]
 omega
theorem totalK_in (b:BP) (hB:OkB b.bk) (t:List SI) (ht:txtB b.bk (t.map SI.l)=true) {tr:List Int} (hl:tr.length=b.cs.length) (htr:∀ x∈tr,-1≤x∧x<b.cs.length):∀ {k:Nat},k≤tr.length→0≤totalK b t tr k∧totalK b t tr k≤16*k
 | 0,_=>by simp [totalK]
 | k+1,hk=>by
  have h1:=totalK_in b hB t ht hl htr (k:=k) (by omega)
  have hg:tr.getD k 0=tr[k]'(by omega):=getD_in (by omega)
  have h3:=htr _ (List.getElem_mem (h:=show k<tr.length by omega))
  have h2:=takes_in b hB t ht (p:=tr[k]'(by omega)) h3.1 h3.2 (n:=k) (by omega)
  rw [totalK_succ,hg]
  omega
theorem climb_stay {tr:List Int} {x:Int} {q:Nat} (h:climbL tr q x<0):∀ m,q≤m→climbL tr m x=climbL tr q x
 | 0,hm=>by rw [show q=0 by omega]
 | m+1,hm=>by
  by_cases e:q=m+1
  ·rw [e]
  ·have ih:=climb_stay h m (by omega)
   rw [climb_snoc,ih,if_neg (by omega)]
theorem tree_no1 {n:Nat} {tr:List Int} {k:Nat} (hk:k<tr.length) (h:(tr[k] != -1&&!inN tr[k] 0 (n - 1))=true):treeB n tr=false:=by
 rw [Bool.eq_false_iff]
 intro ht
 have:=(tree_in ht).2.1 _ (List.getElem_mem hk)
 simp only [inN,Bool.and_eq_true,bne_iff_ne,Bool.not_eq_true',Bool.and_eq_false_iff,decide_eq_false_iff_not] at h
 omega
set_option maxHeartbeats 8000000 in
theorem c72 (b:BP) (hN:b.cs.length<1000000) (P:PV) (tr:List Int) (hP:SlOf 1 encI P tr) (hNt:tr.length<1000000) (st:St):Cl EE (.func 72 [] []) [b.pv,P] st (.ret (.bool (treeB b.cs.length tr))) st:=by
 have hPs:=hP.slen
 have hb:=b.h
 refine cF2 pr72 fn72 (fun tm hl h0 h1=>?_)
 cases hd:((tr.length:Int) != b.cs.length)
 case true =>
  have e:treeB b.cs.length tr=false:=by
   rw [Bool.eq_false_iff]
   intro ht
   have:=(tree_in ht).1
   rw [this] at hd
   simp at hd
  rw [e]
  refine go2 (bw5 hl h0 h1 hPs hd) fnil ?_
  exact fQ hl
 have hlen:tr.length=b.cs.length:=by have:=bne_eq_false_iff_eq.1 hd;omega
 refine go2 (bw5 hl h0 h1 hPs hd) fnil ?_
 refine wp_for [5] (fun k vs S=>vs=[iv k]∧k≤tr.length∧(∀ x∈tr.take k,-1≤x∧x<b.cs.length)∧S=({ heap:=st.heap,lo:=st.heap.length }:St).push (.var [iv b.words,b.v])) (fun k=>tr.length - k) ⟨(sR hl),Nat.zero_le _,by simp,rfl⟩ ?_
 rintro k tm1 S ⟨hv,hk,hall,rfl⟩ hS
 simp only [List.map_cons,List.map_nil,List.cons.injEq,and_true] at hv
 have hl1:tm1.length=58:=lN hS hl;have i1:tg tm1 1=P:=tQ hS (bw hl h1);have i2:tg tm1 2 = .ptr st.heap.length 0:=tQ hS (bw hl h1);clear hS
 refine go2 (bw4 hl1 hv i1 hPs) fnil ?_
 refine ⟨decide ((k:Int)<tr.length),(sG hl1),fun hbk=>?_,fun hbk=>?_⟩
 rotate_left
 ·have hlt:k<tr.length:=by have:=of_decide_eq_true hbk;omega
  have hw1:IntKind.wrap .i64 ((k:Int)+1)=((k+1:Nat):Int):=wrap_nat (n:=k+1) (by omega)
  refine ⟨by omega,?_⟩
  have k53:=fun st=>c53 b hN tr[k] st
  cases e1:(tr[k] != -1)
  ·have e1':=bne_eq_false_iff_eq.1 e1
   refine go2 (bw6 hl1 hv i1 i2 e1 hw1) fnil ?_
   refine ⟨(sG hl1),by omega,fun x hx=>?_,rfl⟩
   rw [List.take_succ_eq_append_getElem hlt] at hx
   rcases List.mem_append.1 hx with hx|hx
   ·exact hall x hx
   ·rw [List.mem_singleton.1 hx,e1'];omega
  ·cases e2:inN tr[k] 0 (b.cs.length - 1)
   ·rw [e2] at k53
    rw [tree_no1 hlt (by rw [e1,e2];rfl)]
    refine go2 (bw5 hl1 hv i1 i2 e1) (bw k53 fnil) ?_
    exact fQ hl1
   ·rw [e2] at k53
    refine go2 (bw6 hl1 hv i1 i2 e1 hw1) (bw k53 fnil) ?_
    refine ⟨(sG hl1),by omega,fun x hx=>?_,rfl⟩
    rw [List.take_succ_eq_append_getElem hlt] at hx
    rcases List.mem_append.1 hx with hx|hx
    ·exact hall x hx
    ·rw [List.mem_singleton.1 hx]
     simp only [inN,Bool.and_eq_true,decide_eq_true_eq] at e2
     omega
 have hlt:=of_decide_eq_false hbk
 have hkn:k=tr.length:=by omega
 rw [hkn,List.take_length] at hall
 have hall':∀ x∈tr,-1≤x∧x<(tr.length:Int):=fun x hx=>by have:=hall x hx;omega
 refine go2 hl1 fnil ?_
 refine wp_for [6] (fun k vs S=>vs=[iv k]∧k≤tr.length∧(∀ i,i<k→climbL tr tr.length i<0)∧S=({ heap:=st.heap,lo:=st.heap.length }:St).push (.var [iv b.words,b.v])) (fun k=>tr.length - k) ⟨(sR hl1),Nat.zero_le _,fun i hi=>absurd hi (by omega),rfl⟩ ?_
 clear hv hk hbk hkn hlt
 rintro k tm2 S ⟨hv,hk,hcl,rfl⟩ hS2
 simp only [List.map_cons,List.map_nil,List.cons.injEq,and_true] at hv
 have hl2:tm2.length=58:=lN hS2 hl1;have j1:tg tm2 1=P:=tQ hS2 (bw hl1 i1);clear hS2
 refine go2 (bw4 hl2 hv j1 hPs) fnil ?_
 refine ⟨decide ((k:Int)<tr.length),(sG hl2),fun hbk=>?_,fun hbk=>?_⟩
 ·have hlt:=of_decide_eq_false hbk
  have hkn:k=tr.length:=by omega
  have e:treeB b.cs.length tr=true:=by
   simp only [treeB,Bool.and_eq_true,decide_eq_true_eq,List.all_eq_true,List.mem_range]
   exact ⟨hlen,fun x hx=>hall x hx,fun i hi=>by rw [← hlen];exact hcl i (by omega)⟩
  rw [e]
  refine go2 hl2 fnil ?_
  exact fQ hl2
 have hlt:k<tr.length:=by have:=of_decide_eq_true hbk;omega
 have hwk:IntKind.wrap .i64 ((k:Int)+1)=((k+1:Nat):Int):=wrap_nat (n:=k+1) (by omega)
 refine ⟨by omega,?_⟩
 refine go2 (bw hl2 hv) fnil ?_
 refine wp_for [8,7] (fun q vs S=>vs=[iv q,iv (climbL tr q k)]∧q≤tr.length∧S=({ heap:=st.heap,lo:=st.heap.length }:St).push (.var [iv b.words,b.v])) (fun q=>tr.length - q) ⟨(sR hl2),Nat.zero_le _,rfl⟩ ?_
 rintro q tm3 S ⟨hv3,hq,rfl⟩ hS3
 simp only [List.map_cons,List.map_nil,List.cons.injEq,and_true] at hv3
 obtain ⟨hv8,hv7⟩:=hv3
 have hl3:tm3.length=58:=lN hS3 hl2;have k1:tg tm3 1=P:=tQ hS3 (bw3 hl2 j1 hv);have k6:tg tm3 6=iv k:=tQ hS3 (bw3 hl2 j1 hv);clear hS3
 have hin:=climb_in rfl hall' q k (by omega) (by omega)
 have after:∀ (x:Int),x=climbL tr tr.length k→(decide (x≥0)=true→treeB b.cs.length tr=false)∧(decide (x≥0)=false→∀ i,i<k+1→climbL tr tr.length i<0):=fun x hx=>by
  refine ⟨fun h=>?_,fun h i hi=>?_⟩
  ·rw [Bool.eq_false_iff]
   intro ht
   have:=(tree_in ht).2.2 k (by omega)
   rw [← hlen,← hx] at this
   have:=of_decide_eq_true h
   omega
  ·by_cases e:i=k
   ·rw [e,← hx]
    have:=of_decide_eq_false h
    omega
   ·exact hcl i (by omega)
 cases d1:decide ((q:Int)<tr.length)
 ·have hlt1:=of_decide_eq_false d1
  have hqn:q=tr.length:=by omega
  obtain ⟨a1,a2⟩:=after (climbL tr q k) (by rw [hqn])
  refine go2 (bw5 hl3 hv8 k1 hPs d1) fnil ?_
  refine ⟨false,(sG hl3),fun _=>?_,fun hb=>by cases hb⟩
  cases d3:decide (climbL tr q k≥0)
  ·refine go2 (bw5 hl3 hv7 k6 d3 hwk) fnil ?_
   exact ⟨(sG hl3),by omega,a2 d3,rfl⟩
  ·rw [a1 d3]
   refine go2 (bw3 hl3 hv7 d3) fnil ?_
   exact fQ hl3
 have hlt1:q<tr.length:=by have:=of_decide_eq_true d1;omega
 cases d2:decide (climbL tr q k≥0)
 ·have hneg:=of_decide_eq_false d2
  obtain ⟨a1,a2⟩:=after (climbL tr q k) (climb_stay (by omega) _ (by omega)).symm
  refine go2 (bw7 hl3 hv8 hv7 k1 hPs d1 d2) fnil ?_
  refine ⟨false,(sG hl3),fun _=>?_,fun hb=>by cases hb⟩
  refine go2 (bw5 hl3 hv7 k6 d2 hwk) fnil ?_
  exact ⟨(sG hl3),by omega,a2 d2,rfl⟩
 have hpos:=of_decide_eq_true d2
 obtain ⟨m,hm⟩:∃ m:Nat,climbL tr q k=m:=⟨(climbL tr q k).toNat,by omega⟩
 have hmt:m<tr.length:=by omega
 have hwq:IntKind.wrap .i64 ((q:Int)+1)=((q+1:Nat):Int):=wrap_nat (n:=q+1) (by omega)
 have hsn:=climb_snoc tr q k
 rw [hm,if_pos (by omega),Int.toNat_natCast,getD_in hmt] at hsn
 rw [hm] at hv7 d2
 refine go2 (bw7 hl3 hv8 hv7 k1 hPs d1 d2) fnil ?_
 refine ⟨true,(sG hl3),(fun hb=>by cases hb),fun _=>⟨by omega,?_⟩⟩
 refine go2 (bw5 hl3 hv8 hv7 k1 hwq) fnil ?_
 exact ⟨(sG (bw hl3 hsn)),by omega,rfl⟩
end Go.Den.Ve
end
section
namespace Go.Den.Ve
theorem goodB_yes {b:BP} (h:goodB b=true):smallB b=true∧OkB b.bk:=by
 simp only [goodB,Bool.and_eq_true] at h
 exact ⟨h.1,bookB_iff.1 h.2⟩
def anyArg (b:BP) (l1 l2:List Int):Bool:=smallB b&&(decide ((l1.length:Int)≤6)&&decide ((l2.length:Int)≤6))
end Go.Den.Ve
end
section
namespace Go.Den.Ve
end Go.Den.Ve
end
section
namespace Go.Den.Ve
end Go.Den.Ve
end
section
namespace Go.Den.Ve
def allH (X:List (List Int)) (l:List Int):Bool:=X.all fun x=>holdL x l
def allHK (X:List (List Int)) (l:List Int) (k:Nat):Bool:=(X.take k).all fun x=>holdL x l
def ComR (X:List (List Int)) (w:Nat):List Int:=commonR (allH X) [] (linesL w)
end Go.Den.Ve
end

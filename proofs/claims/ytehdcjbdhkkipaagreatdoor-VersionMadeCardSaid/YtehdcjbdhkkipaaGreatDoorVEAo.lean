/- Part of the proofs of laws of the package version. Texts: VnRow, VnIn, VwA, VwE, VwF, VwG, VwB. -/
import Derived.Test.YtehdcjbdhkkipaaGreatDoorVEAn
import Derived.Test.YtehdcjbdhkkipaaGreatDoorRows
import Derived.ProofKit
import Derived.LaidMore
import Derived.OpenShut
import Derived.Stop.Joined
import Derived.HandedShaped
import Derived.Lay
import Derived.LaidHandle
import Derived.Carry
import Derived.Test.YtehdcjbdhkkipaaGreatDoorVEAm
set_option linter.unusedSimpArgs false
set_option linter.unusedVariables false
section
namespace Go.Proofs.YtehdcjbdhkkipaaGreatDoor
open Go.ChangeShapes Go.WideShapes Go.ChangeAt Go.WideMaps Go.WideElems Go.RowKit
set_option maxRecDepth 100000
theorem ownKnob0:ownKnob Tryz.prog.godebug=none:=by kernel_rfl
theorem laidOut0:laidOutB Tryz.prog=true:=by kernel_rfl
theorem maxLen_cell {W:World} (h:W.ShapedOpen Tryz.prog):∃ m,1<W.heap.size∧W.cell? ⟨1,0,none⟩=some (.int .i64 m):=by
 obtain ⟨m,hm⟩:=cell_of_shapedOpen_int (g:=1) (t:=3) (zero:=#[.int .i64 0]) (k := .i64) h (of_decide_eq_true (by kernel_rfl)) (by kernel_rfl) rfl (by kernel_rfl) (by kernel_rfl) Tryz.underlying3
 refine ⟨m,?_,hm⟩
 unfold World.cell? at hm
 split at hm
 ·rename_i hh
  exact (Array.getElem?_eq_some_iff.1 hh).1
 ·cases hm
theorem returns_law {H:Type} {enc:TypeId×Value→H} {a:Assume} {C:Checked} {os:Os} {f:FuncId} {fn:Func} {s:ChangeSpec} {conds:List PathCond} {apart fresh handsOn again:Bool} {X:World→Array Value→Prop}
  (hX:∀ (w w':World) (args:Array Value),w.heap=w'.heap→X w args→X w' args)
  (own:ownKnob C.prog.godebug=none) (started:os.Started) (noInit:C.prog.inits.idxOf? f=none) (hfn:C.prog.funcs[f]? = some fn)
  (witness:∃ (w:World) (tape:Tape) (i:Input),w.os=os∧(w.forCall tape i).Shaped C.prog∧i.vars=[]∧Input.okWide C.prog (w.forCall tape i) .any w.heap.size f i ∧
   ((s.pre enc C.prog fn conds apart (w.forCall tape i).memory i.args∧X (w.forCall tape i).memory i.args)∧sizedMet enc C.prog fn (OpenSpec.ofChange s) apart (w.forCall tape i).memory i.args)∧a.holds C.prog (lone (Frame.enter C.prog f i.args .normal) [] (w.forCall tape i)))
  (contract:∀ (W:World) (base:Nat) (args:Array Value) (ds gs:List (DataW H)) (before:List MemPlace),
   (∀ (j:Nat) t v,fn.params[j]? = some t→args[j]? = some v→Value.okWide C.prog W .any base t v) →
   DataW.Whole enc C.prog fn.params.toList s.vars apart W args.toList ds gs before →
   W.ShapedOpen C.prog →
   Calls C.prog f args W fun e W'=>∃ v,e = .returned v∧s.post enc C.prog fn apart fresh handsOn again W args v W') :
  ReturnsInHanded a C os f .any (fun w args=>(s.pre enc C.prog fn conds apart w args∧X w args)∧sizedMet enc C.prog fn (OpenSpec.ofChange s) apart w args) (s.post enc C.prog fn apart fresh handsOn again):=by
 refine returnsInHanded_of_calls own started noInit witness ?_
 intro w tape i _ hsh _ hok hpre _
 obtain ⟨_,_,_,fn',hfn',_,_,_,_,hval⟩:=hok
 have e:fn'=fn:=Option.some.inj (hfn'.symm.trans hfn)
 subst e
 obtain ⟨⟨⟨ds,gs,before,hw,_⟩,_⟩,_⟩:=hpre
 have hw':=DataW.Whole.of_heap (w':=w.forCall tape i) (by rfl) hw
 refine (contract (w.forCall tape i) w.heap.size i.args ds gs before hval hw' hsh).mono fun e W' ⟨v,he,hp⟩=>?_
 subst he
 exact ChangeSpec.post_blind hp
theorem trodAll_grown {H:Type} {enc:TypeId×Value→H} {W W':World} (hb:Below W.heap.size W W'):∀ {ts:List TypeId} {vs:List Value} {ds:List (DataW H)} {ps:List MemPlace},(∀ t∈ts,Tryz.prog.readableRec t=true∧t<Tryz.prog.types.size)→DataW.TrodAll enc Tryz.prog W 0 (fun _=>true) true ts vs ds ps→(∀ x∈ps,x.block<W.heap.size)→DataW.TrodAll enc Tryz.prog W' 0 (fun b=>decide (b<W.heap.size)) true ts vs ds ps
 | [],vs,ds,ps,_,h,_=>by
  obtain ⟨rfl,rfl,rfl⟩:=trodAll_nil h
  rfl
 | t::ts,vs,ds,ps,hr,h,hl=>by
  obtain ⟨v,vs',d,ds',p,q,rfl,rfl,rfl,h1,h2⟩:=trodAll_cons h
  have h0:=hr t (by simp)
  exact ⟨p,q,Below.trod laidOut0 h0.1 h0.2 h1 hb (fun x hx=>hl x (by simp [hx])),trodAll_grown hb (fun t ht=>hr t (by simp [ht])) h2 (fun x hx=>hl x (by simp [hx])),rfl⟩
theorem keptBut_grown {W W':World} {may:MemPlace→Prop} (h:∀ b,b<W.heap.size→W'.heap[b]? = W.heap[b]?) (ho:W'.os=W.os∧W'.output=W.output):W.keptBut W' may:=by
 refine ⟨ho.1,ho.2,fun i hi=>?_⟩
 rw [h i hi]
 split
 ·rename_i h1 h2
  rw [h1] at h2
  cases h2
  exact ⟨rfl,rfl,rfl,fun _ _=>rfl⟩
 ·rename_i h1 h2
  rw [h1] at h2
  cases h2
  exact .inr ⟨rfl,rfl⟩
 ·rfl
theorem post_true {H:Type} {enc:TypeId×Value→H} {fn:Func} {s:ChangeSpec} {W W':World} {args:Array Value} {ds:List (DataW H)} {before:List MemPlace}
  (hvars:s.vars=[]) (hW:DataW.Whole enc Tryz.prog fn.params.toList s.vars false W args.toList ds [] before) (hres:fn.resultTypes=#[4]) (hfn:s.fn H (ds++[])={ results:=[.lit (.bool true)],args:=ds })
  (hr:∀ t∈fn.params.toList,Tryz.prog.readableRec t=true∧t<Tryz.prog.types.size)
  (hs:W.heap.size≤W'.heap.size) (hb:∀ b,b<W.heap.size→W'.heap[b]? = W.heap[b]?) (ho:W'.os=W.os∧W'.output=W.output) :
  s.post enc Tryz.prog fn false true false false W args (.bool true) W':=by
 have hW0:=hW
 obtain ⟨p,q,hA,hV,rfl,_,_⟩:=hW
 rw [hvars] at hV
 obtain ⟨_,rfl⟩:([]:List (DataW H))=[]∧q=[]:=by
  cases q with
  | nil=>exact ⟨rfl,rfl⟩
  | cons x q=>simp [DataW.TrodVars] at hV
 have hlt:∀ x∈p,x.block<W.heap.size:=fun x hx=>by simpa using hW0.lt x (by simp [hx])
 have ha:({ W' with tape:=W.tape }:World).Alike W':=⟨rfl,rfl,rfl⟩
 have hbl:Below W.heap.size W { W' with tape:=W.tape }:=⟨ho.1,rfl,ho.2,hs,hb⟩
 have hT:=trodAll_grown hbl hr hA hlt
 have hT':DataW.TrodAll enc Tryz.prog W' 0 (fun b=>decide (b<W.heap.size)) true fn.params.toList args.toList ds p:=DataW.TrodAll.of_heap (show ({ W' with tape:=W.tape }:World).heap=W'.heap from rfl) hT
 refine ⟨ds,[],p++[],[],p,[],hW0,?_,?_,?_,keptBut_grown hb ho,fun h=>by cases h⟩
 ·rw [hfn,hres]
  exact trodAll_mk1 (shut_bool Tryz.underlying4 _)
 ·rw [hfn];exact hT'
 ·rw [hfn,hvars];rfl
end Go.Proofs.YtehdcjbdhkkipaaGreatDoor
end
section
namespace Go.Den.Ve
set_option maxRecDepth 100000
open Go.Proofs Go.ChangeShapes Go.WideShapes
section
variable {H:Type} {enc:TypeId×Value→H} {W:World} {base fuel:Nat} {d:DataW H} {ps:List MemPlace}
theorem cells_get {a:Addr} {k:Nat} {cs:List Value} (h:W.cells? 0 a k=some cs):cs.length=k∧∀ (j:Nat) (v:Value),cs[j]? = some v→W.cell? (a.add j)=some v:=by
 unfold World.cells? at h
 simp only [Nat.zero_le,if_true] at h
 have hl:=mapM_some_length h
 rw [List.length_range] at hl
 refine ⟨hl,fun j v hj=>?_⟩
 have hjl:=(List.getElem?_eq_some_iff.1 hj).1
 have:=mapM_some_get h j j (by rw [List.getElem?_range (by omega)])
 rw [this,hj]
theorem add_spot {a:Addr} {v:Value} (h:W.cell? ((a.add 0).add 0)=some v):a.spot=none:=by
 have:=World.cell?_spot h
 simpa [Addr.add] using this
theorem in_slice {α:Type} {en:α→List PV} {t e:TypeId} {k:Nat} (hu:Tryz.prog.underlying t=some (.slice e)) (hk:Tryz.prog.cellsOf e=k) (hk1:0<k) (hen:∀ a,(en a).length=k)
  (hel:∀ (n:Nat) (cs:List Value) (y:DataW H×List MemPlace),DataW.trod enc Tryz.prog W 0 (fun _=>true) true n e cs=some y→∃ a:α,VRL (gh0 W) W (en a) cs)
  {v:Value} {x:DataW H×List MemPlace} (h:DataW.trod enc Tryz.prog W 0 (fun _=>true) true fuel t [v]=some x):∃ F l,VR (gh0 W) W F v∧SlOf k en F l:=by
 rcases DataW.trod_slice hu h with ⟨hv,_⟩|⟨a,len,cap,elems,rest,n,_,hv,_,_,hl,_,hlen,hel',hrest,_⟩
 ·simp at hv
  subst hv
  exact ⟨.nilslice,[],by simp only [VR],rfl,fun _ h=>by cases h⟩
 ·simp at hv
  subst hv
  rw [hk] at hel' hrest
  by_cases hcap:cap=0
  ·subst hcap
   have hl0:len=0:=by omega
   subst hl0
   refine ⟨.slice .shared 0 [],[],?_,rfl,fun _ h=>by cases h⟩
   simp only [VR]
   exact .inr ⟨by trivial,by trivial,by trivial,a,rfl⟩
  ·have hsp:a.spot=none:=by
    have key:∀ (o:Option (DataW H×List MemPlace)) (i:Nat),i=0→o.isSome=true→(W.cells? 0 (a.add (i*k)) k).bind (DataW.trod enc Tryz.prog W 0 (fun _=>true) true n e)=o→a.spot=none:=fun o i hi ho h1=>by
     obtain ⟨y,rfl⟩:=Option.isSome_iff_exists.1 ho
     obtain ⟨cs,h2,h3⟩:=Option.bind_eq_some_iff.1 h1
     obtain ⟨h4,h5⟩:=cells_get h2
     have hc0:0<cs.length:=by omega
     have h6:=h5 0 cs[0] (List.getElem?_eq_getElem hc0)
     rw [hi,Nat.zero_mul] at h6
     exact add_spot h6
    by_cases hlen0:0<len
    ·refine key elems[0]? 0 rfl (by rw [List.getElem?_eq_getElem (by omega)];rfl) (hel' 0 hlen0)
    ·obtain ⟨h1,h2⟩:=hrest rfl
     exact key rest[0]? (len+0) (by omega) (by rw [List.getElem?_eq_getElem (by omega)];rfl) (h2 0 (by omega))
   obtain ⟨b,off,sp⟩:=a
   simp only at hsp
   subst hsp
   have hadd:∀ o j,((⟨b,o,none⟩:Addr).add j)=⟨b,o+j,none⟩:=fun o j=>by
    unfold Addr.add
    by_cases h0:j=0
    ·rw [if_pos h0,h0];rfl
    ·rw [if_neg h0]
   obtain ⟨l,hll,hlq⟩:=list_of (α:=α) (Q:=fun i a=>∀ (j:Nat) (p:PV),(en a)[j]? = some p→∃ v,W.cell? ⟨b,off+i*k+j,none⟩=some v∧VR (gh0 W) W p v) len (fun i hi=>by
    have h1:=hel' i hi
    rw [hadd,List.getElem?_eq_getElem (by omega:i<elems.length)] at h1
    obtain ⟨cs,h2,h3⟩:=Option.bind_eq_some_iff.1 h1
    obtain ⟨h4,h5⟩:=cells_get h2
    obtain ⟨x,hx⟩:=hel n cs _ h3
    refine ⟨x,fun j p hj=>?_⟩
    obtain ⟨v,g1,g2⟩:=hx.get hj
    have:=h5 j v g1
    rw [hadd] at this
    exact ⟨v,this,g2⟩)
   refine ⟨.slice .shared len (l.flatMap en),l,vr_slice0 hl fun j p hj=>?_,by simp only [PV.sl,hll],fun a _=>hen a⟩
   have hjl:=(List.getElem?_eq_some_iff.1 hj).1
   have hfl:(l.flatMap en).length=l.length*k:=flatMap_len (fun a _=>hen a)
   have hi:j / k<l.length:=by
    rw [hfl] at hjl
    exact (Nat.div_lt_iff_lt_mul hk1).2 hjl
   have hdr:(l.flatMap en).drop (j / k*k)=(l.drop (j / k)).flatMap en:=flatMap_drop (j / k) (fun a _=>hen a)
   have hdm:j / k*k+j % k=j:=by rw [Nat.mul_comm];exact Nat.div_add_mod j k
   have hj2:((l.flatMap en).drop (j / k*k))[j % k]? = some p:=by
    rw [List.getElem?_drop,← hj,hdm]
   rw [hdr,List.drop_eq_getElem_cons hi,List.flatMap_cons,List.getElem?_append_left (by rw [hen];exact Nat.mod_lt _ hk1)] at hj2
   obtain ⟨v,g1,g2⟩:=hlq (j / k) _ (List.getElem?_eq_getElem hi) (j % k) p hj2
   refine ⟨v,?_,g2⟩
   rw [← g1]
   congr 2
   omega
theorem e3':Tryz.prog.cellsOf 3=1:=by kernel_rfl
theorem e4':Tryz.prog.cellsOf 4=1:=by kernel_rfl
theorem e22':Tryz.prog.cellsOf 22=1:=by kernel_rfl
theorem e24':Tryz.prog.cellsOf 24=2:=by kernel_rfl
theorem e25':Tryz.prog.cellsOf 25=1:=by kernel_rfl
theorem e76':Tryz.prog.cellsOf 76=2:=by kernel_rfl
theorem e77':Tryz.prog.cellsOf 77=1:=by kernel_rfl
theorem e82':Tryz.prog.cellsOf 82=4:=by kernel_rfl
theorem trod_one {t n:Nat} {cs:List Value} {y:DataW H×List MemPlace} (h:DataW.trod enc Tryz.prog W 0 (fun _=>true) true n t cs=some y) (hs:(∃ e,Tryz.prog.underlying t=some (.slice e))):∃ v,cs=[v]:=by
 obtain ⟨e,hu⟩:=hs
 rcases DataW.trod_slice hu h with ⟨hv,_⟩|⟨a,len,cap,elems,rest,n,_,hv,_⟩
 ·exact ⟨_,hv⟩
 ·exact ⟨_,hv⟩
theorem in_ints1 {v:Value} {x:DataW H×List MemPlace} (h:DataW.trod enc Tryz.prog W 0 (fun _=>true) true fuel 25 [v]=some x):∃ F l,VR (gh0 W) W F v∧SlOf 1 encI F l :=
 in_slice Tryz.underlying25 e3' (by decide) (fun _=>rfl) (fun n cs y h=>by
  obtain ⟨k,rfl,_,_⟩:=DataW.trod_int Tryz.underlying3 h
  exact ⟨k,VRL.cons (by simp only [VR]) (VRL.nil_iff.2 rfl)⟩) h
theorem in_line {n:Nat} {cs:List Value} {y:DataW H×List MemPlace} (h:DataW.trod enc Tryz.prog W 0 (fun _=>true) true n 76 cs=some y):∃ a:LP,VRL (gh0 W) W (encLP a) cs:=by
 obtain ⟨xs,n,_,_,hl,hxl,hf⟩:=DataW.trod_struct Tryz.underlying76 h
 rw [e76'] at hl
 match cs,hl with
 | [a,b],_ =>
  have f0:DataW.trod enc Tryz.prog W 0 (fun _=>true) true n 4 (List.take (Tryz.prog.cellsOf 4) [a,b])=xs[0]? := hf 0 _ rfl
  have f1:DataW.trod enc Tryz.prog W 0 (fun _=>true) true n 25 (List.take (Tryz.prog.cellsOf 25) [b])=xs[1]? := hf 1 _ rfl
  rw [e4'] at f0
  rw [e25'] at f1
  have hx:xs.length=2:=hxl
  match xs,hx with
  | [x0,x1],_ =>
   obtain ⟨k,k0,_⟩:=DataW.trod_bool Tryz.underlying4 f0
   simp at k0
   subst k0
   obtain ⟨F,l,h1,h2⟩:=in_ints1 (x:=x1) f1
   exact ⟨⟨k,F,l,h2⟩,VRL.cons (by simp only [VR]) (VRL.cons h1 (VRL.nil_iff.2 rfl))⟩
theorem in_copy {n:Nat} {cs:List Value} {y:DataW H×List MemPlace} (h:DataW.trod enc Tryz.prog W 0 (fun _=>true) true n 77 cs=some y):∃ a:CP,VRL (gh0 W) W (encCP a) cs:=by
 obtain ⟨v,rfl⟩:=trod_one h ⟨_,Tryz.underlying77⟩
 obtain ⟨F,l,h1,h2⟩:=in_slice (en:=encLP) Tryz.underlying77 e76' (by decide) (fun _=>rfl) (fun n cs y h=>in_line h) h
 exact ⟨⟨F,l,h2⟩,VRL.cons h1 (VRL.nil_iff.2 rfl)⟩
theorem in_book {v:Value} (hok:Value.okWide Tryz.prog W .any base 24 v) (h:DataW.Trod enc Tryz.prog W 0 (fun _=>true) true 24 v d ps):∃ b:BP,VR (gh0 W) W b.pv v:=by
 obtain ⟨fuel,h⟩:=h
 unfold Value.okWide at hok
 rw [Tryz.underlying24] at hok
 obtain ⟨cs,rfl,_⟩:=hok
 obtain ⟨xs,n,_,_,hl,hxl,hf⟩:=DataW.trod_struct Tryz.underlying24 h
 rw [e24'] at hl
 have hcs:(Value.agg cs).cells.toList=cs.toList:=rfl
 rw [hcs] at hl hf
 obtain ⟨l⟩:=cs
 match l,hl with
 | [a,b],_ =>
  have f0:DataW.trod enc Tryz.prog W 0 (fun _=>true) true n 3 (List.take (Tryz.prog.cellsOf 3) [a,b])=xs[0]? := hf 0 _ rfl
  have f1:DataW.trod enc Tryz.prog W 0 (fun _=>true) true n 22 (List.take (Tryz.prog.cellsOf 22) [b])=xs[1]? := hf 1 _ rfl
  rw [e3'] at f0
  rw [e22'] at f1
  have hx:xs.length=2:=hxl
  match xs,hx with
  | [x0,x1],_ =>
   obtain ⟨k,k0,_,_⟩:=DataW.trod_int Tryz.underlying3 f0
   simp at k0
   subst k0
   obtain ⟨F,l,h1,h2⟩:=in_slice (en:=encCP) (x:=x1) Tryz.underlying22 e77' (by decide) (fun _=>rfl) (fun n cs y h=>in_copy h) f1
   refine ⟨⟨k,F,l,h2⟩,?_⟩
   simp only [VR]
   exact ⟨_,rfl,VRL.cons (by simp only [VR]) (VRL.cons h1 (VRL.nil_iff.2 rfl))⟩
theorem in_mix {v:Value} (hok:Value.okWide Tryz.prog W .any base 82 v) (h:DataW.Trod enc Tryz.prog W 0 (fun _=>true) true 82 v d ps):∃ x:T4,VR (gh0 W) W (.agg (enc4 x)) v:=by
 obtain ⟨fuel,h⟩:=h
 unfold Value.okWide at hok
 rw [Tryz.underlying82] at hok
 obtain ⟨cs,rfl,_⟩:=hok
 obtain ⟨xs,n,_,_,hl,hxl,hf⟩:=DataW.trod_struct Tryz.underlying82 h
 rw [e82'] at hl
 have hcs:(Value.agg cs).cells.toList=cs.toList:=rfl
 rw [hcs] at hl hf
 obtain ⟨l⟩:=cs
 match l,hl with
 | [a,b,c,e],_ =>
  have f0:DataW.trod enc Tryz.prog W 0 (fun _=>true) true n 3 (List.take (Tryz.prog.cellsOf 3) [a,b,c,e])=xs[0]? := hf 0 _ rfl
  have f1:DataW.trod enc Tryz.prog W 0 (fun _=>true) true n 3 (List.take (Tryz.prog.cellsOf 3) [b,c,e])=xs[1]? := hf 1 _ rfl
  have f2:DataW.trod enc Tryz.prog W 0 (fun _=>true) true n 3 (List.take (Tryz.prog.cellsOf 3) [c,e])=xs[2]? := hf 2 _ rfl
  have f3:DataW.trod enc Tryz.prog W 0 (fun _=>true) true n 3 (List.take (Tryz.prog.cellsOf 3) [e])=xs[3]? := hf 3 _ rfl
  rw [e3'] at f0 f1 f2 f3
  have hx:xs.length=4:=hxl
  match xs,hx with
  | [x0,x1,x2,x3],_ =>
   obtain ⟨n0,k0,_,_⟩:=DataW.trod_int Tryz.underlying3 f0
   obtain ⟨n1,k1,_,_⟩:=DataW.trod_int Tryz.underlying3 f1
   obtain ⟨n2,k2,_,_⟩:=DataW.trod_int Tryz.underlying3 f2
   obtain ⟨n3,k3,_,_⟩:=DataW.trod_int Tryz.underlying3 f3
   simp at k0 k1 k2 k3
   subst k0 k1 k2 k3
   refine ⟨(n0,n1,n2,n3),?_⟩
   simp only [VR]
   exact ⟨_,rfl,VRL.cons (by simp only [VR]) (VRL.cons (by simp only [VR]) (VRL.cons (by simp only [VR]) (VRL.cons (by simp only [VR]) (VRL.nil_iff.2 rfl))))⟩
end
end Go.Den.Ve
end
section
namespace Go.Den.Ve
theorem c53 (b:BP) (h:b.cs.length<1000000) (n:Int) (st:St):Cl EE (.func 53 [] []) [b.pv,iv n] st (.ret (.bool (inN n 0 (b.cs.length - 1)))) st:=by
 have hw:IntKind.wrap .i64 ((b.cs.length:Int) - 1)=b.cs.length - 1:=wrap_in (by unfold inI;omega)
 refine cF2 pr53 fn53 (fun tm hl h0 h1=>?_)
 refine go2 (bw4 hl h0 h1 hw) (bw c79 fnil) ?_
 exact fQ hl
theorem levC (a b:Int) (l m:List Int):lev (a::l) (b::m)=if a=b then lev l m else 1+min (lev l m) (min (lev l (b::m)) (lev (a::l) m)):=by
 by_cases e:a=b
 ·subst e;rw [if_pos rfl,lev_keep]
 ·rw [if_neg e,lev_other e]
set_option maxHeartbeats 4000000 in
theorem c32n:∀ (n:Nat) (L M:PV) (l m:List Int),SlOf 1 encI L l→SlOf 1 encI M m→l.length+m.length≤n→n≤1000→∀ st,Cl EE (.func 32 [] []) [L,M] st (.ret (iv (lev l m:Nat))) st:=by
 intro n
 induction n with
 | zero =>
  intro L M l m hL hM hn _ st
  have hLs:=hL.slen
  have hMs:=hM.slen
  have z1:((l.length:Int)==0)=true:=by simp;cases l <;> simp at hn ⊢
  have hl0:l=[]:=by cases l <;> simp at hn ⊢
  rw [hl0,lev_nil]
  refine cF2 pr32 fn32 (fun tm hl h0 h1=>?_)
  refine go2 (bw6 hl h0 h1 hLs hMs z1) fnil ?_
  exact fQ hl
 | succ n ih =>
  intro L M l m hL hM hn hn2 st
  have hLs:=hL.slen
  have hMs:=hM.slen
  refine cF2 pr32 fn32 (fun tm hl h0 h1=>?_)
  cases hz:((l.length:Int)==0)
  case true =>
   have hl0:l=[]:=by have:=eq_of_beq hz;cases l with
    | nil=>rfl
    | cons a l=>simp at this;omega
   rw [hl0,lev_nil]
   refine go2 (bw6 hl h0 h1 hLs hMs hz) fnil ?_
   exact fQ hl
  cases hy:((m.length:Int)==0)
  case true =>
   have hm0:m=[]:=by have:=eq_of_beq hy;cases m with
    | nil=>rfl
    | cons a l=>simp at this;omega
   rw [hm0,lev_len]
   refine go2 (bw7 hl h0 h1 hLs hMs hz hy) fnil ?_
   exact fQ hl
  have hl0:0<l.length:=by have:=beq_eq_false_iff_ne.1 hz;omega
  have hm0:0<m.length:=by have:=beq_eq_false_iff_ne.1 hy;omega
  have el:l=l[0]::l.tail:=by cases l with
   | nil=>simp at hl0
   | cons a l=>rfl
  have em:m=m[0]::m.tail:=by cases m with
   | nil=>simp at hm0
   | cons a l=>rfl
  have etl:(l.drop 1).take (l.length - 1)=l.tail:=by rw [List.drop_one,List.take_of_length_le (by simp)]
  have etm:(m.drop 1).take (m.length - 1)=m.tail:=by rw [List.drop_one,List.take_of_length_le (by simp)]
  have hlev:=levC l[0] m[0] l.tail m.tail
  rw [← el,← em] at hlev
  have hltl:l.tail.length=l.length - 1:=by simp
  have hmtl:m.tail.length=m.length - 1:=by simp
  have hz0:((0:Nat):Int)=0:=rfl
  refine go2 (bw7 hl h0 h1 hLs hMs hz hy) fnil ?_
  refine wopsD_slice (n:=1) (m:=l.length) (by simp only [];omega) rfl rfl (sR hl) hL (by rfl) (by simp only [↓reduceIte,go_sem,hl,bound];first|done|rfl) (by omega) (by omega) ?_
  intro T1 hT1
  rw [etl] at hT1
  refine go2 (bw3 hl h0 h1) fnil ?_
  refine wopsD_slice (n:=1) (m:=m.length) (by simp only [];omega) rfl rfl (sR hl) hM (by rfl) (by simp only [↓reduceIte,go_sem,hl,bound];first|done|rfl) (by omega) (by omega) ?_
  intro T2 hT2
  rw [etm] at hT2
  have k1:=fun st=>ih T1 T2 l.tail m.tail hT1 hT2 (by omega) (by omega) st
  cases hx:(l[0]==m[0])
  ·have hne:=beq_eq_false_iff_ne.1 hx
   rw [if_neg hne] at hlev
   have b1:=lev_max l.tail m.tail
   have b2:=lev_max l.tail m
   have b3:=lev_max l m.tail
   refine go2 (bw4 hl h0 h1 hx) (bw k1 fnil) ?_
   refine wopsD_slice (n:=1) (m:=l.length) (by simp only [];omega) rfl rfl (sR hl) hL (by rfl) (by simp only [↓reduceIte,go_sem,hl,bound];first|done|rfl) (by omega) (by omega) ?_
   intro T3 hT3
   rw [etl] at hT3
   have k2:=fun st=>ih T3 M l.tail m hT3 hM (by omega) (by omega) st
   refine go2 (bw3 hl h0 h1) (bw k2 fnil) ?_
   refine wopsD_slice (n:=1) (m:=m.length) (by simp only [];omega) rfl rfl (sR hl) hM (by rfl) (by simp only [↓reduceIte,go_sem,hl,bound];first|done|rfl) (by omega) (by omega) ?_
   intro T4 hT4
   rw [etm] at hT4
   have k3:=fun st=>ih L T4 l m.tail hL hT4 (by omega) (by omega) st
   have hw:IntKind.wrap .i64 (1+((min (lev l.tail m.tail) (min (lev l.tail m) (lev l m.tail)):Nat):Int))=((lev l m:Nat):Int):=by
    rw [hlev]
    exact wrap1 (by omega)
   refine go2 (bw5 hl h0 h1 hw mm3N) (bw k3 fnil) ?_
   exact fQ hl
  ·rw [if_pos (eq_of_beq hx)] at hlev
   rw [hlev]
   refine go2 (bw4 hl h0 h1 hx) (bw k1 fnil) ?_
   exact fQ hl
theorem c32 (L M:PV) (l m:List Int) (hL:SlOf 1 encI L l) (hM:SlOf 1 encI M m) (hl:l.length≤100) (hm:m.length≤100) (st:St):Cl EE (.func 32 [] []) [L,M] st (.ret (iv (lev l m:Nat))) st:=c32n 200 L M l m hL hM (by omega) (by omega) st
end Go.Den.Ve
end
section
namespace Go.Den.Ve
theorem CP.okl {b:BP} (h:OkB b.bk) {c:CP} (hc:c∈b.cs):c.ls.length=lines1 b.bk∧∀ x∈c.ls,lineB b.words x.l=true∧(x.lost=true→x.l=[]):=by
 obtain ⟨h1,h2⟩:=h.all c.c (List.mem_map.2 ⟨c,hc,rfl⟩)
 exact ⟨by simpa using h1,fun x hx=>h2 x.ln (List.mem_map.2 ⟨x,hx,rfl⟩)⟩
theorem line4 {w:Int} {l:List Int} (h:lineB w l=true):l.length≤4:=(lineB_iff.1 h).1
theorem c26y (b:BP) (hB:OkB b.bk) (L1 L2:PV) (l1 l2:List Int) (hL1:SlOf 1 encI L1 l1) (hL2:SlOf 1 encI L2 l2) (h1:lineB b.words l1=true) (h2:lineB b.words l2=true) (st:St):Cl EE (.func 26 [] []) [b.pv,L1,L2] st (.ret (.tuple [iv (lev l1 l2:Nat),iv 0])) st:=by
 have:=c26 b hB.sm L1 L2 l1 l2 hL1 hL2 st
 rw [if_pos (by rw [bookB_iff.2 hB,h1,h2];rfl)] at this
 exact this
theorem lev4 {w:Int} {l m:List Int} (h1:lineB w l=true) (h2:lineB w m=true):lev l m≤4:=by
 have:=lev_max l m
 have:=line4 h1
 have:=line4 h2
 omega
def costK (b:BK) (i:Nat) (l:List Int) (k:Nat):Int:=((b.copies.take k).map fun c=>takenI l (c.getD i ⟨true,[]⟩)).sum
theorem costK_succ (b:BP) (i:Nat) (l:List Int) {k:Nat} (hk:k<b.cs.length) (hi:i<b.cs[k].ls.length):costK b.bk i l (k+1)=costK b.bk i l k+takenI l b.cs[k].ls[i].ln:=by
 unfold costK
 have hk':k<b.bk.copies.length:=by simpa using hk
 rw [List.take_succ_eq_append_getElem hk',List.map_append,List.sum_append_int,List.map_singleton,List.sum_singleton]
 congr 2
 have:b.bk.copies[k]=b.cs[k].c:=by simp
 rw [this,List.getD_eq_getElem?_getD,List.getElem?_map,List.getElem?_eq_getElem hi];rfl
theorem taken4 {w:Int} {l:List Int} {x:LP} (h1:lineB w l=true) (h2:lineB w x.l=true):0≤takenI l x.ln∧takenI l x.ln≤4:=by
 refine ⟨taken_nn _ _,?_⟩
 unfold takenI
 have:=lev4 h1 h2
 split
 ·omega
 ·show ((lev l x.l:Nat):Int)≤4
  omega
theorem costK_in (b:BP) (hB:OkB b.bk) {i:Nat} (hi:i<lines1 b.bk) {l:List Int} (hl:lineB b.words l=true):∀ {k:Nat},k≤b.cs.length→0≤costK b.bk i l k∧costK b.bk i l k≤4*k
 | 0,_=>by simp [costK]
 | k+1,hk=>by
  have h1:=costK_in b hB hi hl (k:=k) (by omega)
  have hc:=CP.okl hB (List.getElem_mem (h:=show k<b.cs.length by omega))
  have hik:i<b.cs[k].ls.length:=by omega
  have h2:=taken4 (x:=b.cs[k].ls[i]) hl (hc.2 _ (List.getElem_mem hik)).1
  rw [costK_succ b i l (by omega) hik]
  omega
def briefS (X:List SI):Bool:=decide (X.length≤6)&&X.all fun x=>decide (x.l.length≤6)
theorem ints_lowC (l:List Int) (m:Nat) (c:PV) (hc:c∈l.flatMap encI):PV.low m c=true:=encI_low _ _ _ hc
theorem c101 (w:Int) (L:PV) (l:List Int) (hL:SlOf 1 encI L l) (x:LP) (q1:lineB w l=true) (q2:lineB w x.l=true) (st:St):Cl EE (.func 101 [] []) [L,.agg (encLP x)] st (.ret (iv (takenI l x.ln))) st:=by
 have hX:=x.h
 refine cF2 pr101 fn101 (fun tm hl h0 h1=>?_)
 cases hlo:x.lost
 ·have ht:takenI l x.ln=(lev l x.l:Nat):=by unfold takenI;simp [hlo]
  rw [ht]
  have k32:=fun st=>c32 L x.w l x.l hL x.h (by have:=line4 q1;omega) (by have:=line4 q2;omega) st
  refine go2 (bw4 hl h0 h1 hlo) (bw k32 fnil) ?_
  exact fQ hl
 ·have ht:takenI l x.ln=0:=by unfold takenI;simp [hlo]
  rw [ht]
  refine go2 (bw4 hl h0 h1 hlo) fnil ?_
  exact fQ hl
theorem c146 (b:BP) (n i:Nat) (hn:n<b.cs.length) (hi:i<b.cs[n].ls.length) (st:St):ClR EE (.func 146 [] []) [b.pv,iv n,iv i] st (RetW st b.cs[n].ls[i].l.length (b.cs[n].ls[i].l.flatMap encI)):=by
 have hb:=b.h
 have hC:=b.cs[n].h
 have hX:=b.cs[n].ls[i].h
 refine cG3 pr146 fn146 (fun tm hl h0 h1 h2=>?_)
 refine go2 (bw4 hl h0 h1 h2) fnil ?_
 refine fX (b.cs[n].ls[i].w) hl ?_
 exact finish_sl hX.sl (by simp only [lo_push];omega) (fun m=>lowL_of fun c hc=>ints_lowC _ m c hc)
end Go.Den.Ve
end
section
namespace Go.Den.Ve
def growN (w:Nat) (l:List Int):List (List Int):=(List.range w).map fun (x:Nat)=>l++[(x:Int)]
theorem lists_grow (w:Nat):∀ k,listsL w (k+1)=(listsL w k).flatMap (growN w)
 | 0=>by
  simp only [listsL,growN,List.flatMap_cons,List.flatMap_nil,List.append_nil,List.nil_append,List.map_cons,List.map_nil]
  induction List.range w with
  | nil=>rfl
  | cons x l ih=>rw [List.flatMap_cons,ih];rfl
 | k+1=>by
  have ih:=lists_grow w k
  have e:listsL w (k+1+1)=(List.range w).flatMap fun (x:Nat)=>(listsL w (k+1)).map fun l=>(x:Int)::l:=rfl
  have e2:listsL w (k+1)=(List.range w).flatMap fun (x:Nat)=>(listsL w k).map fun l=>(x:Int)::l:=rfl
  rw [e]
  conv=>rhs;rw [e2]
  rw [List.flatMap_assoc]
  congr 1
  funext x
  rw [ih,List.map_flatMap,List.flatMap_map]
  congr 1
  funext l
  simp only [growN,List.map_map]
  rfl
def preL (w k:Nat):List (List Int):=(List.range k).flatMap (listsL w)
theorem preL_succ (w k:Nat):preL w (k+1)=preL w k++listsL w k:=by simp [preL,List.range_succ]
theorem preL_len {w:Nat} (hw:w≤3):∀ k,(preL w k).length≤3 ^ k
 | 0=>by simp [preL]
 | k+1=>by
  have h:=preL_len hw k
  rw [preL_succ,List.length_append,lists_pow]
  have h2:w ^ k≤3 ^ k:=Nat.pow_le_pow_left hw k
  have:3 ^ (k+1)=3*3 ^ k:=by rw [Nat.pow_succ];omega
  omega
def outA (w k m x:Nat):List (List Int):=preL w (k+1)++(((listsL w k).take m).flatMap (growN w)++(growN w ((listsL w k).getD m [])).take x)
def costsL (b:BK) (i:Nat) (w:Nat):List Int:=(linesL w).map (cost1 b i)
end Go.Den.Ve
end
section
namespace Go.Den
theorem wopsD_callQ {E:Env} {QD:Ex→List PV→St→List Foot→Prop} {tm:List PV} {st:St} {f:Opd} {args:List Opd} {dst:Option Nat} {g:Option (Nat×Bool)} {os:List DOper} {b:Bool} {fv:PV} {P:PV→St→Prop} (hw:wants tm g=b) (hb:b=true) (hf:f.ev tm=fv) (hc:ClR E fv (evs tm args) { st with lo:=st.heap.length } P) (hq:∀ v st1,P v st1→st.heap.length≤st1.lo)
  (h:∀ v st1,P v st1→WOpsD E os (fun e tm' st' fs=>QD e tm' st' (.quiet::fs)) (put tm dst v) { st1 with lo:=min st.lo st1.lo }):WOpsD E (⟨.call f args,dst,g⟩::os) QD tm st:=by
 obtain ⟨v,st1,⟨N,hN⟩,hP⟩:=hc
 refine wopsD_cons (v:=v) (st1:=st1) (hw.trans hb) N (fun n hn=>by simp only [stepOp,hf,hN n hn]) ?_
 have hf:footOf tm (.call f args) st.heap.length st1.lo = .quiet:=by
  simp only [footOf]
  rw [if_pos (hq v st1 hP)]
 rw [hf]
 exact h v st1 hP
end Go.Den
namespace Go.Den.Ve
def LeastP (X:List (List Int)) (m:List Int→Int) (st:St) (v:PV) (st':St):Prop:=∃ u,v = .tuple [u,iv (minL m X)]∧RetW st (leastL m X).length ((leastL m X).flatMap encL) u st'
end Go.Den.Ve
end
section
namespace Go.Den.Ve
theorem cost_snoc (x:Sp):∀ s:List Sp,costL (s++[x])=costL s+if x.1=1 then 0 else 1
 | []=>by simp [costL]
 | y::s=>by rw [List.cons_append,costL,cost_snoc x s,costL];omega
theorem cost_le:∀ s:List Sp,costL s≤s.length
 | []=>Nat.le_refl _
 | x::s=>by have:=cost_le s;rw [costL,List.length_cons];split <;> omega
theorem soon_pre (s t:List Sp):∀ l:List Sp,soonL (l++s) (l++t)=soonL s t
 | []=>rfl
 | a::l=>by rw [List.cons_append,List.cons_append,soonL,if_pos rfl];exact soon_pre s t l
end Go.Den.Ve
end

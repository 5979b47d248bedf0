/- Part of the proofs of laws of the package version. Texts: VnIn, VwA, VwB, VwC, VwD. -/
import Derived.Test.YtehdcjbdhkkipaaGreatDoorVCAn
import Derived.Test.YtehdcjbdhkkipaaGreatDoorVCAl
set_option linter.unusedSimpArgs false
set_option linter.unusedVariables false
section
namespace Go.Den.Ve
set_option maxRecDepth 100000
open Go.Proofs Go.ChangeShapes Go.WideShapes
section
variable {H:Type} {enc:TypeId×Value→H} {W:World} {base fuel:Nat} {d:DataW H} {ps:List MemPlace}
theorem cells_get {a:Addr} {k:Nat} {cs:List Value} (h:W.cells? 0 a k=some cs):cs.length=k∧∀ (j:Nat) (v:Value),cs[j]? = some v→W.cell? (a.add j)=some v:=by
 unfold World.cells? at h
 simp only [Nat.zero_le,if_true] at h
 have hl:=mapM_some_length h
 rw [List.length_range] at hl
 refine ⟨hl,fun j v hj=>?_⟩
 have hjl:=(List.getElem?_eq_some_iff.1 hj).1
 have:=mapM_some_get h j j (by rw [List.getElem?_range (by omega)])
 rw [this,hj]
theorem add_spot {a:Addr} {v:Value} (h:W.cell? ((a.add 0).add 0)=some v):a.spot=none:=by
 have:=World.cell?_spot h
 simpa [Addr.add] using this
theorem in_slice {α:Type} {en:α→List PV} {t e:TypeId} {k:Nat} (hu:Tryz.prog.underlying t=some (.slice e)) (hk:Tryz.prog.cellsOf e=k) (hk1:0<k) (hen:∀ a,(en a).length=k)
  (hel:∀ (n:Nat) (cs:List Value) (y:DataW H×List MemPlace),DataW.trod enc Tryz.prog W 0 (fun _=>true) true n e cs=some y→∃ a:α,VRL (gh0 W) W (en a) cs)
  {v:Value} {x:DataW H×List MemPlace} (h:DataW.trod enc Tryz.prog W 0 (fun _=>true) true fuel t [v]=some x):∃ F l,VR (gh0 W) W F v∧SlOf k en F l:=by
 rcases DataW.trod_slice hu h with ⟨hv,_⟩|⟨a,len,cap,elems,rest,n,_,hv,_,_,hl,_,hlen,hel',hrest,_⟩
 ·simp at hv
  subst hv
  exact ⟨.nilslice,[],by simp only [VR],rfl,fun _ h=>by cases h⟩
 ·simp at hv
  subst hv
  rw [hk] at hel' hrest
  by_cases hcap:cap=0
  ·subst hcap
   have hl0:len=0:=by omega
   subst hl0
   refine ⟨.slice .shared 0 [],[],?_,rfl,fun _ h=>by cases h⟩
   simp only [VR]
   exact .inr ⟨by trivial,by trivial,by trivial,a,rfl⟩
  ·have hsp:a.spot=none:=by
    have key:∀ (o:Option (DataW H×List MemPlace)) (i:Nat),i=0→o.isSome=true→(W.cells? 0 (a.add (i*k)) k).bind (DataW.trod enc Tryz.prog W 0 (fun _=>true) true n e)=o→a.spot=none:=fun o i hi ho h1=>by
     obtain ⟨y,rfl⟩:=Option.isSome_iff_exists.1 ho
     obtain ⟨cs,h2,h3⟩:=Option.bind_eq_some_iff.1 h1
     obtain ⟨h4,h5⟩:=cells_get h2
     have hc0:0<cs.length:=by omega
     have h6:=h5 0 cs[0] (List.getElem?_eq_getElem hc0)
     rw [hi,Nat.zero_mul] at h6
     exact add_spot h6
    by_cases hlen0:0<len
    ·refine key elems[0]? 0 rfl (by rw [List.getElem?_eq_getElem (by omega)];rfl) (hel' 0 hlen0)
    ·obtain ⟨h1,h2⟩:=hrest rfl
     exact key rest[0]? (len+0) (by omega) (by rw [List.getElem?_eq_getElem (by omega)];rfl) (h2 0 (by omega))
   obtain ⟨b,off,sp⟩:=a
   simp only at hsp
   subst hsp
   have hadd:∀ o j,((⟨b,o,none⟩:Addr).add j)=⟨b,o+j,none⟩:=fun o j=>by
    unfold Addr.add
    by_cases h0:j=0
    ·rw [if_pos h0,h0];rfl
    ·rw [if_neg h0]
   obtain ⟨l,hll,hlq⟩:=list_of (α:=α) (Q:=fun i a=>∀ (j:Nat) (p:PV),(en a)[j]? = some p→∃ v,W.cell? ⟨b,off+i*k+j,none⟩=some v∧VR (gh0 W) W p v) len (fun i hi=>by
    have h1:=hel' i hi
    rw [hadd,List.getElem?_eq_getElem (by omega:i<elems.length)] at h1
    obtain ⟨cs,h2,h3⟩:=Option.bind_eq_some_iff.1 h1
    obtain ⟨h4,h5⟩:=cells_get h2
    obtain ⟨x,hx⟩:=hel n cs _ h3
    refine ⟨x,fun j p hj=>?_⟩
    obtain ⟨v,g1,g2⟩:=hx.get hj
    have:=h5 j v g1
    rw [hadd] at this
    exact ⟨v,this,g2⟩)
   refine ⟨.slice .shared len (l.flatMap en),l,vr_slice0 hl fun j p hj=>?_,by simp only [PV.sl,hll],fun a _=>hen a⟩
   have hjl:=(List.getElem?_eq_some_iff.1 hj).1
   have hfl:(l.flatMap en).length=l.length*k:=flatMap_len (fun a _=>hen a)
   have hi:j / k<l.length:=by
    rw [hfl] at hjl
    exact (Nat.div_lt_iff_lt_mul hk1).2 hjl
   have hdr:(l.flatMap en).drop (j / k*k)=(l.drop (j / k)).flatMap en:=flatMap_drop (j / k) (fun a _=>hen a)
   have hdm:j / k*k+j % k=j:=by rw [Nat.mul_comm];exact Nat.div_add_mod j k
   have hj2:((l.flatMap en).drop (j / k*k))[j % k]? = some p:=by
    rw [List.getElem?_drop,← hj,hdm]
   rw [hdr,List.drop_eq_getElem_cons hi,List.flatMap_cons,List.getElem?_append_left (by rw [hen];exact Nat.mod_lt _ hk1)] at hj2
   obtain ⟨v,g1,g2⟩:=hlq (j / k) _ (List.getElem?_eq_getElem hi) (j % k) p hj2
   refine ⟨v,?_,g2⟩
   rw [← g1]
   congr 2
   omega
theorem e3':Tryz.prog.cellsOf 3=1:=by kernel_rfl
theorem e4':Tryz.prog.cellsOf 4=1:=by kernel_rfl
theorem e22':Tryz.prog.cellsOf 22=1:=by kernel_rfl
theorem e24':Tryz.prog.cellsOf 24=2:=by kernel_rfl
theorem e25':Tryz.prog.cellsOf 25=1:=by kernel_rfl
theorem e76':Tryz.prog.cellsOf 76=2:=by kernel_rfl
theorem e77':Tryz.prog.cellsOf 77=1:=by kernel_rfl
theorem e115':Tryz.prog.cellsOf 115=1:=by kernel_rfl
theorem e117':Tryz.prog.cellsOf 117=2:=by kernel_rfl
theorem u115':Tryz.prog.underlying 115=some (.int .i64):=by kernel_rfl
theorem trod_one {t n:Nat} {cs:List Value} {y:DataW H×List MemPlace} (h:DataW.trod enc Tryz.prog W 0 (fun _=>true) true n t cs=some y) (hs:(∃ e,Tryz.prog.underlying t=some (.slice e))):∃ v,cs=[v]:=by
 obtain ⟨e,hu⟩:=hs
 rcases DataW.trod_slice hu h with ⟨hv,_⟩|⟨a,len,cap,elems,rest,n,_,hv,_⟩
 ·exact ⟨_,hv⟩
 ·exact ⟨_,hv⟩
theorem in_ints1 {v:Value} {x:DataW H×List MemPlace} (h:DataW.trod enc Tryz.prog W 0 (fun _=>true) true fuel 25 [v]=some x):∃ F l,VR (gh0 W) W F v∧SlOf 1 encI F l :=
 in_slice Tryz.underlying25 e3' (by decide) (fun _=>rfl) (fun n cs y h=>by
  obtain ⟨k,rfl,_,_⟩:=DataW.trod_int Tryz.underlying3 h
  exact ⟨k,VRL.cons (by simp only [VR]) (VRL.nil_iff.2 rfl)⟩) h
theorem in_line {n:Nat} {cs:List Value} {y:DataW H×List MemPlace} (h:DataW.trod enc Tryz.prog W 0 (fun _=>true) true n 76 cs=some y):∃ a:LP,VRL (gh0 W) W (encLP a) cs:=by
 obtain ⟨xs,n,_,_,hl,hxl,hf⟩:=DataW.trod_struct Tryz.underlying76 h
 rw [e76'] at hl
 match cs,hl with
 | [a,b],_ =>
  have f0:DataW.trod enc Tryz.prog W 0 (fun _=>true) true n 4 (List.take (Tryz.prog.cellsOf 4) [a,b])=xs[0]? := hf 0 _ rfl
  have f1:DataW.trod enc Tryz.prog W 0 (fun _=>true) true n 25 (List.take (Tryz.prog.cellsOf 25) [b])=xs[1]? := hf 1 _ rfl
  rw [e4'] at f0
  rw [e25'] at f1
  have hx:xs.length=2:=hxl
  match xs,hx with
  | [x0,x1],_ =>
   obtain ⟨k,k0,_⟩:=DataW.trod_bool Tryz.underlying4 f0
   simp at k0
   subst k0
   obtain ⟨F,l,h1,h2⟩:=in_ints1 (x:=x1) f1
   exact ⟨⟨k,F,l,h2⟩,VRL.cons (by simp only [VR]) (VRL.cons h1 (VRL.nil_iff.2 rfl))⟩
theorem in_copy {n:Nat} {cs:List Value} {y:DataW H×List MemPlace} (h:DataW.trod enc Tryz.prog W 0 (fun _=>true) true n 77 cs=some y):∃ a:CP,VRL (gh0 W) W (encCP a) cs:=by
 obtain ⟨v,rfl⟩:=trod_one h ⟨_,Tryz.underlying77⟩
 obtain ⟨F,l,h1,h2⟩:=in_slice (en:=encLP) Tryz.underlying77 e76' (by decide) (fun _=>rfl) (fun n cs y h=>in_line h) h
 exact ⟨⟨F,l,h2⟩,VRL.cons h1 (VRL.nil_iff.2 rfl)⟩
theorem in_book {v:Value} (hok:Value.okWide Tryz.prog W .any base 24 v) (h:DataW.Trod enc Tryz.prog W 0 (fun _=>true) true 24 v d ps):∃ b:BP,VR (gh0 W) W b.pv v:=by
 obtain ⟨fuel,h⟩:=h
 unfold Value.okWide at hok
 rw [Tryz.underlying24] at hok
 obtain ⟨cs,rfl,_⟩:=hok
 obtain ⟨xs,n,_,_,hl,hxl,hf⟩:=DataW.trod_struct Tryz.underlying24 h
 rw [e24'] at hl
 have hcs:(Value.agg cs).cells.toList=cs.toList:=rfl
 rw [hcs] at hl hf
 obtain ⟨l⟩:=cs
 match l,hl with
 | [a,b],_ =>
  have f0:DataW.trod enc Tryz.prog W 0 (fun _=>true) true n 3 (List.take (Tryz.prog.cellsOf 3) [a,b])=xs[0]? := hf 0 _ rfl
  have f1:DataW.trod enc Tryz.prog W 0 (fun _=>true) true n 22 (List.take (Tryz.prog.cellsOf 22) [b])=xs[1]? := hf 1 _ rfl
  rw [e3'] at f0
  rw [e22'] at f1
  have hx:xs.length=2:=hxl
  match xs,hx with
  | [x0,x1],_ =>
   obtain ⟨k,k0,_,_⟩:=DataW.trod_int Tryz.underlying3 f0
   simp at k0
   subst k0
   obtain ⟨F,l,h1,h2⟩:=in_slice (en:=encCP) (x:=x1) Tryz.underlying22 e77' (by decide) (fun _=>rfl) (fun n cs y h=>in_copy h) f1
   refine ⟨⟨k,F,l,h2⟩,?_⟩
   simp only [VR]
   exact ⟨_,rfl,VRL.cons (by simp only [VR]) (VRL.cons h1 (VRL.nil_iff.2 rfl))⟩
theorem slice_cells {t e:TypeId} {v:Value} (hu:Tryz.prog.underlying t=some (.slice e)) (h:DataW.Trod enc Tryz.prog W 0 (fun _=>true) true t v d ps) (hok:Value.okWide Tryz.prog W .any base t v):∃ n x,DataW.trod enc Tryz.prog W 0 (fun _=>true) true n t [v]=some x:=by
 obtain ⟨fuel,h⟩:=h
 have hc:v.cells.toList=[v]:=by
  cases v with
  | agg cs=>exfalso;unfold Value.okWide at hok;rw [hu] at hok;unfold Cell.okWide Cell.ok at hok;rw [hu] at hok;exact hok
  | _=>rfl
 rw [hc] at h
 exact ⟨fuel,_,h⟩
theorem in_step {n:Nat} {cs:List Value} {y:DataW H×List MemPlace} (h:DataW.trod enc Tryz.prog W 0 (fun _=>true) true n 117 cs=some y):∃ a:Sp,VRL (gh0 W) W (enc2 a) cs:=by
 obtain ⟨xs,n,_,_,hl,hxl,hf⟩:=DataW.trod_struct Tryz.underlying117 h
 rw [e117'] at hl
 match cs,hl with
 | [a,b],_ =>
  have f0:DataW.trod enc Tryz.prog W 0 (fun _=>true) true n 115 (List.take (Tryz.prog.cellsOf 115) [a,b])=xs[0]? := hf 0 _ rfl
  have f1:DataW.trod enc Tryz.prog W 0 (fun _=>true) true n 3 (List.take (Tryz.prog.cellsOf 3) [b])=xs[1]? := hf 1 _ rfl
  rw [e115'] at f0
  rw [e3'] at f1
  have hx:xs.length=2:=hxl
  match xs,hx with
  | [x0,x1],_ =>
   obtain ⟨k,k0,_,_⟩:=DataW.trod_int u115' f0
   obtain ⟨m,m0,_,_⟩:=DataW.trod_int Tryz.underlying3 f1
   simp at k0 m0
   subst k0 m0
   exact ⟨(k,m),VRL.cons (by simp only [VR]) (VRL.cons (by simp only [VR]) (VRL.nil_iff.2 rfl))⟩
theorem in_steps {v:Value} (hok:Value.okWide Tryz.prog W .any base 34 v) (h:DataW.Trod enc Tryz.prog W 0 (fun _=>true) true 34 v d ps):∃ F l,VR (gh0 W) W F v∧SlOf 2 enc2 F l:=by
 obtain ⟨n,x,h⟩:=slice_cells Tryz.underlying34 h hok
 exact in_slice Tryz.underlying34 e117' (by decide) (fun _=>rfl) (fun n cs y h=>in_step h) h
end
end Go.Den.Ve
end
section
namespace Go.Den.Ve
theorem levC (a b:Int) (l m:List Int):lev (a::l) (b::m)=if a=b then lev l m else 1+min (lev l m) (min (lev l (b::m)) (lev (a::l) m)):=by
 by_cases e:a=b
 ·subst e;rw [if_pos rfl,lev_keep]
 ·rw [if_neg e,lev_other e]
set_option maxHeartbeats 4000000 in
theorem c32n:∀ (n:Nat) (L M:PV) (l m:List Int),SlOf 1 encI L l→SlOf 1 encI M m→l.length+m.length≤n→n≤1000→∀ st,Cl EE (.func 32 [] []) [L,M] st (.ret (iv (lev l m:Nat))) st:=by
 intro n
 induction n with
 | zero =>
  intro L M l m hL hM hn _ st
  have hLs:=hL.slen
  have hMs:=hM.slen
  have z1:((l.length:Int)==0)=true:=by simp;cases l <;> simp at hn ⊢
  have hl0:l=[]:=by cases l <;> simp at hn ⊢
  rw [hl0,lev_nil]
  refine cF2 pr32 fn32 (fun tm hl h0 h1=>?_)
  refine go2 (bw6 hl h0 h1 hLs hMs z1) fnil ?_
  exact fQ hl
 | succ n ih =>
  intro L M l m hL hM hn hn2 st
  have hLs:=hL.slen
  have hMs:=hM.slen
  refine cF2 pr32 fn32 (fun tm hl h0 h1=>?_)
  cases hz:((l.length:Int)==0)
  case true =>
   have hl0:l=[]:=by have:=eq_of_beq hz;cases l with
    | nil=>rfl
    | cons a l=>simp at this;omega
   rw [hl0,lev_nil]
   refine go2 (bw6 hl h0 h1 hLs hMs hz) fnil ?_
   exact fQ hl
  cases hy:((m.length:Int)==0)
  case true =>
   have hm0:m=[]:=by have:=eq_of_beq hy;cases m with
    | nil=>rfl
    | cons a l=>simp at this;omega
   rw [hm0,lev_len]
   refine go2 (bw7 hl h0 h1 hLs hMs hz hy) fnil ?_
   exact fQ hl
  have hl0:0<l.length:=by have:=beq_eq_false_iff_ne.1 hz;omega
  have hm0:0<m.length:=by have:=beq_eq_false_iff_ne.1 hy;omega
  have el:l=l[0]::l.tail:=by cases l with
   | nil=>simp at hl0
   | cons a l=>rfl
  have em:m=m[0]::m.tail:=by cases m with
   | nil=>simp at hm0
   | cons a l=>rfl
  have etl:(l.drop 1).take (l.length - 1)=l.tail:=by rw [List.drop_one,List.take_of_length_le (by simp)]
  have etm:(m.drop 1).take (m.length - 1)=m.tail:=by rw [List.drop_one,List.take_of_length_le (by simp)]
  have hlev:=levC l[0] m[0] l.tail m.tail
  rw [← el,← em] at hlev
  have hltl:l.tail.length=l.length - 1:=by simp
  have hmtl:m.tail.length=m.length - 1:=by simp
  have hz0:((0:Nat):Int)=0:=rfl
  refine go2 (bw7 hl h0 h1 hLs hMs hz hy) fnil ?_
  refine wopsD_slice (n:=1) (m:=l.length) (by simp only [];omega) rfl rfl (sR hl) hL (by rfl) (by simp only [↓reduceIte,go_sem,hl,bound];first|done|rfl) (by omega) (by omega) ?_
  intro T1 hT1
  rw [etl] at hT1
  refine go2 (bw3 hl h0 h1) fnil ?_
  refine wopsD_slice (n:=1) (m:=m.length) (by simp only [];omega) rfl rfl (sR hl) hM (by rfl) (by simp only [↓reduceIte,go_sem,hl,bound];first|done|rfl) (by omega) (by omega) ?_
  intro T2 hT2
  rw [etm] at hT2
  have k1:=fun st=>ih T1 T2 l.tail m.tail hT1 hT2 (by omega) (by omega) st
  cases hx:(l[0]==m[0])
  ·have hne:=beq_eq_false_iff_ne.1 hx
   rw [if_neg hne] at hlev
   have b1:=lev_max l.tail m.tail
   have b2:=lev_max l.tail m
   have b3:=lev_max l m.tail
   refine go2 (bw4 hl h0 h1 hx) (bw k1 fnil) ?_
   refine wopsD_slice (n:=1) (m:=l.length) (by simp only [];omega) rfl rfl (sR hl) hL (by rfl) (by simp only [↓reduceIte,go_sem,hl,bound];first|done|rfl) (by omega) (by omega) ?_
   intro T3 hT3
   rw [etl] at hT3
   have k2:=fun st=>ih T3 M l.tail m hT3 hM (by omega) (by omega) st
   refine go2 (bw3 hl h0 h1) (bw k2 fnil) ?_
   refine wopsD_slice (n:=1) (m:=m.length) (by simp only [];omega) rfl rfl (sR hl) hM (by rfl) (by simp only [↓reduceIte,go_sem,hl,bound];first|done|rfl) (by omega) (by omega) ?_
   intro T4 hT4
   rw [etm] at hT4
   have k3:=fun st=>ih L T4 l m.tail hL hT4 (by omega) (by omega) st
   have hw:IntKind.wrap .i64 (1+((min (lev l.tail m.tail) (min (lev l.tail m) (lev l m.tail)):Nat):Int))=((lev l m:Nat):Int):=by
    rw [hlev]
    exact wrap1 (by omega)
   refine go2 (bw5 hl h0 h1 hw mm3N) (bw k3 fnil) ?_
   exact fQ hl
  ·rw [if_pos (eq_of_beq hx)] at hlev
   rw [hlev]
   refine go2 (bw4 hl h0 h1 hx) (bw k1 fnil) ?_
   exact fQ hl
theorem c32 (L M:PV) (l m:List Int) (hL:SlOf 1 encI L l) (hM:SlOf 1 encI M m) (hl:l.length≤100) (hm:m.length≤100) (st:St):Cl EE (.func 32 [] []) [L,M] st (.ret (iv (lev l m:Nat))) st:=c32n 200 L M l m hL hM (by omega) (by omega) st
end Go.Den.Ve
end
section
namespace Go.Den.Ve
theorem cost_snoc (x:Sp):∀ s:List Sp,costL (s++[x])=costL s+if x.1=1 then 0 else 1
 | []=>by simp [costL]
 | y::s=>by rw [List.cons_append,costL,cost_snoc x s,costL];omega
theorem cost_le:∀ s:List Sp,costL s≤s.length
 | []=>Nat.le_refl _
 | x::s=>by have:=cost_le s;rw [costL,List.length_cons];split <;> omega
theorem c35 (F:PV) (l:List Sp) (hF:SlOf 2 enc2 F l) (hN:l.length<1000000) (st:St):Cl EE (.func 35 [] []) [F] st (.ret (iv (costL l:Nat))) st:=by
 have hFs:=hF.slen
 refine cF1 pr35 fn35 (fun tm hl h0=>?_)
 refine go2 (bw hl h0) fnil ?_
 refine wp_for [4,3] (fun i vs st1=>vs=[iv i,iv (costL (l.take i):Nat)]∧i≤l.length∧st1={ heap:=st.heap,lo:=st.heap.length }) (fun i=>l.length - i) ⟨(sR hl),Nat.zero_le _,rfl⟩ ?_
 rintro i tm1 st1 ⟨hv,hi,rfl⟩ hS
 simp only [List.map_cons,List.map_nil,List.cons.injEq,and_true] at hv
 obtain ⟨hv,hv3⟩:=hv
 have hl1:tm1.length=20:=lN hS hl;have i0:tg tm1 0=F:=tQ hS (bw hl h0);clear hS
 refine go2 (bw4 hl1 hv i0 hFs) fnil ?_
 refine ⟨decide ((i:Int)<l.length),(sG hl1),fun hb=>?_,fun hb=>?_⟩
 ·have hlt:=of_decide_eq_false hb
  have hin:i=l.length:=by omega
  rw [hin,List.take_length] at hv3
  refine go2 (bw hl1 hv3) fnil ?_
  exact fQ hl1
 ·have hlt:i<l.length:=by have:=of_decide_eq_true hb;omega
  have hw1:IntKind.wrap .i64 ((i:Int)+1)=((i+1:Nat):Int):=wrap_nat (n:=i+1) (by omega)
  have hc:=cost_snoc l[i] (l.take i)
  rw [← List.take_succ_eq_append_getElem hlt] at hc
  have hcl:=cost_le (l.take i)
  rw [List.length_take] at hcl
  refine ⟨by omega,?_⟩
  cases hx:(l[i].1 != 1)
  ·have e1:l[i].1=1:=bne_eq_false_iff_eq.1 hx
   rw [if_pos e1] at hc
   refine go2 (bw6 hl1 hv hv3 i0 hw1 hx) fnil ?_
   exact ⟨(sG (bw3 hl1 hv3 hc)),by omega,rfl⟩
  ·have e1:l[i].1≠1:=bne_iff_ne.1 hx
   rw [if_neg e1] at hc
   have hw2:IntKind.wrap .i64 (((costL (l.take i):Nat):Int)+1)=((costL (l.take (i+1)):Nat):Int):=by rw [wrap_in (by unfold inI;omega),hc];omega
   refine go2 (bw7 hl1 hv hv3 i0 hw1 hw2 hx) fnil ?_
   exact ⟨(sG hl1),by omega,rfl⟩
theorem soon_pre (s t:List Sp):∀ l:List Sp,soonL (l++s) (l++t)=soonL s t
 | []=>rfl
 | a::l=>by rw [List.cons_append,List.cons_append,soonL,if_pos rfl];exact soon_pre s t l
theorem soon_end {l m:List Sp} {i:Nat} (ht:l.take i=m.take i) (h1:i≤l.length) (h2:i≤m.length) (h:i=l.length∨i=m.length):soonL l m=decide ((l.length:Int)<m.length):=by
 have hbd:soonL l m=soonL (l.drop i) (m.drop i):=by
  conv=>lhs;rw [← List.take_append_drop i l,← List.take_append_drop i m,ht]
  exact soon_pre _ _ _
 have e1:(l.drop i).length=l.length - i:=List.length_drop
 have e2:(m.drop i).length=m.length - i:=List.length_drop
 rw [hbd]
 cases hl:l.drop i with
 | nil =>
  rw [hl] at e1
  cases hm:m.drop i with
  | nil=>rw [hm] at e2;simp at e1 e2;simp [soonL];omega
  | cons y m'=>rw [hm] at e2;simp at e1 e2;simp [soonL];omega
 | cons x l' =>
  rw [hl] at e1
  cases hm:m.drop i with
  | nil=>rw [hm] at e2;simp at e1 e2;simp [soonL];omega
  | cons y m'=>rw [hm] at e2;simp at e1 e2;omega
theorem soon_at {l m:List Sp} {i:Nat} (ht:l.take i=m.take i) (h1:i<l.length) (h2:i<m.length) (h:l[i]≠m[i]):soonL l m=(decide (l[i].1<m[i].1) || (decide (l[i].1=m[i].1)&&decide (l[i].2<m[i].2))):=by
 have hbd:soonL l m=soonL (l.drop i) (m.drop i):=by
  conv=>lhs;rw [← List.take_append_drop i l,← List.take_append_drop i m,ht]
  exact soon_pre _ _ _
 rw [hbd,List.drop_eq_getElem_cons h1,List.drop_eq_getElem_cons h2,soonL,if_neg h]
set_option maxHeartbeats 2000000 in
theorem c36 (F G:PV) (l m:List Sp) (hF:SlOf 2 enc2 F l) (hG:SlOf 2 enc2 G m) (hN:l.length<1000000) (st:St):Cl EE (.func 36 [] []) [F,G] st (.ret (.bool (soonL l m))) st:=by
 have hFs:=hF.slen
 have hGs:=hG.slen
 refine cF2 pr36 fn36 (fun tm hl h0 h1=>?_)
 refine go2 (bw3 hl h0 h1) fnil ?_
 refine wp_for [5] (fun i vs st1=>vs=[iv i]∧i≤l.length∧i≤m.length∧l.take i=m.take i∧st1={ heap:=st.heap,lo:=st.heap.length }) (fun i=>l.length - i) ⟨(sR hl),Nat.zero_le _,Nat.zero_le _,rfl,rfl⟩ ?_
 rintro i tm1 st1 ⟨hv,hi,hi2,ht,rfl⟩ hS
 simp only [List.map_cons,List.map_nil,List.cons.injEq,and_true] at hv
 have hl1:tm1.length=69:=lN hS hl;have i0:tg tm1 0=F:=tQ hS (bw3 hl h0 h1);have i1:tg tm1 1=G:=tQ hS (bw3 hl h0 h1);clear hS
 cases d1:decide ((i:Int)<l.length)
 ·have:=of_decide_eq_false d1
  refine go2 (bw5 hl1 hv i0 hFs d1) fnil ?_
  refine ⟨false,(sG hl1),fun _=>?_,fun hb=>by cases hb⟩
  rw [soon_end ht hi hi2 (by omega)]
  refine go2 (bw5 hl1 i0 i1 hFs hGs) fnil ?_
  exact fQ hl1
 have hlt:i<l.length:=by have:=of_decide_eq_true d1;omega
 cases d2:decide ((i:Int)<m.length)
 ·have:=of_decide_eq_false d2
  refine go2 (bw8 hl1 hv i0 i1 hFs hGs d1 d2) fnil ?_
  refine ⟨false,(sG hl1),fun _=>?_,fun hb=>by cases hb⟩
  rw [soon_end ht hi hi2 (by omega)]
  refine go2 (bw5 hl1 i0 i1 hFs hGs) fnil ?_
  exact fQ hl1
 have hlt2:i<m.length:=by have:=of_decide_eq_true d2;omega
 have hw1:IntKind.wrap .i64 ((i:Int)+1)=((i+1:Nat):Int):=wrap_nat (n:=i+1) (by omega)
 refine go2 (bw8 hl1 hv i0 i1 hFs hGs d1 d2) fnil ?_
 refine ⟨true,(sG hl1),(fun hb=>by cases hb),fun _=>⟨by omega,?_⟩⟩
 cases hx:(!([l[i].1,l[i].2]==[m[i].1,m[i].2]))
 ·have hx':([l[i].1,l[i].2]==[m[i].1,m[i].2])=true:=by simpa using hx
  have hpe:l[i]=m[i]:=by
   have:=eq_of_beq hx'
   simp only [List.cons.injEq,and_true] at this
   exact Prod.ext this.1 this.2
  refine go2 (bw6 hl1 hv i0 i1 hw1 hx') fnil ?_
  exact ⟨(sG hl1),by omega,by omega,take_snoc_eq hlt hlt2 ht hpe,rfl⟩
 ·have hx':([l[i].1,l[i].2]==[m[i].1,m[i].2])=false:=by rw [Bool.not_eq_true'] at hx;exact hx
  have hne:l[i]≠m[i]:=fun e=>by rw [e] at hx';simp at hx'
  rw [soon_at ht hlt hlt2 hne]
  cases y1:decide (l[i].1<m[i].1)
  ·cases y2:(l[i].1==m[i].1)
   ·have y3:decide (l[i].1=m[i].1)=false:=by simpa using y2
    rw [y3]
    refine go2 (bw7 hl1 hv i0 i1 hx' y1 y2) fnil ?_
    exact fQ hl1
   ·have y3:decide (l[i].1=m[i].1)=true:=by simpa using y2
    rw [y3]
    refine go2 (bw7 hl1 hv i0 i1 hx' y1 y2) fnil ?_
    exact fQ hl1
  ·refine go2 (bw6 hl1 hv i0 i1 hx' y1) fnil ?_
   exact fQ hl1
end Go.Den.Ve
end
section
namespace Go.Den.Ve
theorem led1_bad {x:Sp} (h:x.1<1∨4<x.1) (o1 o2:List Int):led1 x o1 o2=none:=by
 cases o1 <;> cases o2 <;> simp only [led1]
 ·rw [if_neg (by omega)]
 ·rw [if_neg (by omega)]
 ·rw [if_neg (by omega),if_neg (by omega),if_neg (by omega),if_neg (by omega)]
theorem led1_12l {x:Sp} (h:x.1=1∨x.1=2) (o2:List Int):led1 x [] o2=none:=by
 cases o2 <;> simp only [led1]
 rw [if_neg (by omega)]
theorem led1_12r {x:Sp} (h:x.1=1∨x.1=2) (o1:List Int):led1 x o1 []=none:=by
 cases o1 <;> simp only [led1]
 rw [if_neg (by omega)]
theorem led1_1 {x:Sp} (h:x.1=1) (a b:Int) (l m:List Int):led1 x (a::l) (b::m)=if x.2=b∧a=b then some (l,m) else none:=by
 simp only [led1];rw [if_pos h]
theorem led1_2 {x:Sp} (h:x.1=2) (a b:Int) (l m:List Int):led1 x (a::l) (b::m)=if x.2=b∧a≠b then some (l,m) else none:=by
 simp only [led1];rw [if_neg (by omega),if_pos h]
theorem led1_3 {x:Sp} (h:x.1=3) (b:Int) (l m:List Int):led1 x l (b::m)=if x.2=b then some (l,m) else none:=by
 cases l with
 | nil=>simp only [led1];simp only [h,true_and]
 | cons a l=>simp only [led1];rw [if_neg (by omega),if_neg (by omega),if_pos h]
theorem led1_3n {x:Sp} (h:x.1=3) (l:List Int):led1 x l []=none:=by
 cases l <;> simp only [led1]
 rw [if_neg (by omega)]
theorem led1_4 {x:Sp} (h:x.1=4) (a:Int) (l m:List Int):led1 x (a::l) m=if x.2=a then some (l,m) else none:=by
 cases m with
 | nil=>simp only [led1];simp only [h,true_and]
 | cons b m=>simp only [led1];rw [if_neg (by omega),if_neg (by omega),if_neg (by omega),if_pos h]
theorem led1_4n {x:Sp} (h:x.1=4) (m:List Int):led1 x [] m=none:=by
 cases m <;> simp only [led1]
 rw [if_neg (by omega)]
theorem ledL_none {x:Sp} {s:List Sp} {l m:List Int} (h:led1 x l m=none):ledL (x::s) l m=false:=by
 rw [ledL,h]
theorem ledL_some {x:Sp} {s:List Sp} {l m:List Int} {p:List Int×List Int} (h:led1 x l m=some p):ledL (x::s) l m=ledL s p.1 p.2:=by
 rw [ledL,h]
set_option maxHeartbeats 8000000 in
theorem c34 (F L M:PV) (s:List Sp) (l m:List Int) (hF:SlOf 2 enc2 F s) (hL:SlOf 1 encI L l) (hM:SlOf 1 encI M m) (hN:s.length<1000000) (hNl:l.length<1000000) (hNm:m.length<1000000) (st:St):Cl EE (.func 34 [] []) [F,L,M] st (.ret (.bool (ledL s l m))) st:=by
 have hFs:=hF.slen
 have hLs:=hL.slen
 have hMs:=hM.slen
 refine cF3 pr34 fn34 (fun tm hl h0 h1 h2=>?_)
 refine go2 (bw4 hl h0 h1 h2) fnil ?_
 refine wp_for [9,7,8] (fun n vs S=>∃ i k:Nat,vs=[iv n,iv i,iv k]∧n≤s.length∧i≤l.length∧k≤m.length∧ledL s l m=ledL (s.drop n) (l.drop i) (m.drop k)∧st.heap.length≤S.lo∧S.lo≤S.heap.length) (fun n=>s.length - n) ⟨0,0,(sR hl),Nat.zero_le _,Nat.zero_le _,Nat.zero_le _,rfl,by show st.heap.length≤st.heap.length;omega,Nat.le_refl _⟩ ?_
 rintro n tm1 S ⟨i,k,hv,hn,hi,hk,hh,hlo,hwf⟩ hS
 simp only [List.map_cons,List.map_nil,List.cons.injEq,and_true] at hv
 obtain ⟨hv,hv7,hv8⟩:=hv
 have hl1:tm1.length=115:=lN hS hl;have i0:tg tm1 0=F:=tQ hS (bw4 hl h0 h1 h2);have i1:tg tm1 1=L:=tQ hS (bw4 hl h0 h1 h2);have i2:tg tm1 2=M:=tQ hS (bw4 hl h0 h1 h2);clear hS
 refine go2 (bw4 hl1 hv i0 hFs) fnil ?_
 refine ⟨decide ((n:Int)<s.length),(sG hl1),fun hb=>?_,fun hb=>?_⟩
 ·have hlt:=of_decide_eq_false hb
  have hnl:n=s.length:=by omega
  rw [hnl,List.drop_length] at hh
  have e:ledL s l m=(((i:Int)==l.length)&&((k:Int)==m.length)):=by
   have e1:(l.drop i).isEmpty=((i:Int)==l.length):=by
    rw [Bool.eq_iff_iff,List.isEmpty_iff,List.drop_eq_nil_iff,beq_iff_eq];omega
   have e2:(m.drop k).isEmpty=((k:Int)==m.length):=by
    rw [Bool.eq_iff_iff,List.isEmpty_iff,List.drop_eq_nil_iff,beq_iff_eq];omega
   rw [hh,ledL,e1,e2]
  rw [e]
  cases hx:((i:Int)==l.length)
  ·refine go2 (bw8 hl1 hv7 hv8 i1 i2 hLs hMs hx) fnil ?_
   exact fQ hl1
  ·refine go2 (bw8 hl1 hv7 hv8 i1 i2 hLs hMs hx) fnil ?_
   exact fQ hl1
 have hlt:n<s.length:=by have:=of_decide_eq_true hb;omega
 refine ⟨by omega,?_⟩
 have hw1:IntKind.wrap .i64 ((n:Int)+1)=((n+1:Nat):Int):=wrap_nat (n:=n+1) (by omega)
 have hw2:IntKind.wrap .i64 ((i:Int)+1)=((i+1:Nat):Int):=wrap_nat (n:=i+1) (by omega)
 have hw3:IntKind.wrap .i64 ((k:Int)+1)=((k+1:Nat):Int):=wrap_nat (n:=k+1) (by omega)
 rw [List.drop_eq_getElem_cons hlt] at hh
 cases d1:decide (s[n].1<1)
 case true =>
  have hd:=of_decide_eq_true d1
  rw [ledL_none (led1_bad (.inl hd) _ _)] at hh
  rw [hh]
  refine go2 (bw10 hl1 hv hv7 hv8 i0 i1 i2 hLs hMs d1) fnil ?_
  exact fQ hl1
 have hd1:=of_decide_eq_false d1
 cases d2:decide (s[n].1>4)
 case true =>
  have hd:=of_decide_eq_true d2
  rw [ledL_none (led1_bad (.inr hd) _ _)] at hh
  rw [hh]
  refine go2 (bw11 hl1 hv hv7 hv8 i0 i1 i2 hLs hMs d1 d2) fnil ?_
  exact fQ hl1
 have hd2:=of_decide_eq_false d2
 have hcases:s[n].1=1∨s[n].1=2∨s[n].1=3∨s[n].1=4:=by omega
 cases e3:(s[n].1 != 3)
 · -- add
  have hK:s[n].1=3:=bne_eq_false_iff_eq.1 e3
  have e4:(s[n].1 != 4)=true:=by rw [hK];rfl
  cases g2:decide ((k:Int)≥m.length)
  case true =>
   have hg:=of_decide_eq_true g2
   rw [List.drop_eq_nil_of_le (show m.length≤_ by omega),ledL_none (led1_3n hK _)] at hh
   rw [hh]
   refine go2 (bw14 hl1 hv hv7 hv8 i0 i1 i2 hLs hMs d1 d2 e3 e4 g2) fnil ?_
   exact fQ hl1
  have hkm:k<m.length:=by have:=of_decide_eq_false g2;omega
  rw [List.drop_eq_getElem_cons hkm] at hh
  cases w:(s[n].2 != m[k])
  ·have hw:=bne_eq_false_iff_eq.1 w
   rw [ledL_some ((led1_3 hK _ _ _).trans (if_pos hw))] at hh
   refine go2 (bw17 hl1 hv hv7 hv8 i0 i1 i2 hLs hMs d1 d2 e3 e4 g2 w hw1 hw3) fnil ?_
   exact ⟨i,k+1,(sG (bw hl1 hv7)),by omega,by omega,by omega,hh,by simp only [lo_setVar,lo_push];omega,by simp only [lo_setVar,lo_push,len_setVar,len_push];omega⟩
  ·rw [ledL_none ((led1_3 hK _ _ _).trans (if_neg (bne_iff_ne.1 w)))] at hh
   rw [hh]
   refine go2 (bw15 hl1 hv hv7 hv8 i0 i1 i2 hLs hMs d1 d2 e3 e4 g2 w) fnil ?_
   exact fQ hl1
 cases e4:(s[n].1 != 4)
 · -- drop
  have hK:s[n].1=4:=bne_eq_false_iff_eq.1 e4
  cases g1:decide ((i:Int)≥l.length)
  case true =>
   have hg:=of_decide_eq_true g1
   rw [List.drop_eq_nil_of_le (show l.length≤_ by omega),ledL_none (led1_4n hK _)] at hh
   rw [hh]
   refine go2 (bw14 hl1 hv hv7 hv8 i0 i1 i2 hLs hMs d1 d2 e3 e4 g1) fnil ?_
   exact fQ hl1
  have hil:i<l.length:=by have:=of_decide_eq_false g1;omega
  rw [List.drop_eq_getElem_cons hil] at hh
  cases w:(s[n].2 != l[i])
  ·have hw:=bne_eq_false_iff_eq.1 w
   rw [ledL_some ((led1_4 hK _ _ _).trans (if_pos hw))] at hh
   refine go2 (bw17 hl1 hv hv7 hv8 i0 i1 i2 hLs hMs d1 d2 e3 e4 g1 w hw1 hw2) fnil ?_
   exact ⟨i+1,k,(sG (bw hl1 hv8)),by omega,by omega,by omega,hh,by simp only [lo_setVar,lo_push];omega,by simp only [lo_setVar,lo_push,len_setVar,len_push];omega⟩
  ·rw [ledL_none ((led1_4 hK _ _ _).trans (if_neg (bne_iff_ne.1 w)))] at hh
   rw [hh]
   refine go2 (bw15 hl1 hv hv7 hv8 i0 i1 i2 hLs hMs d1 d2 e3 e4 g1 w) fnil ?_
   exact fQ hl1
 have hK:s[n].1=1∨s[n].1=2:=by
  have:=bne_iff_ne.1 e3
  have:=bne_iff_ne.1 e4
  omega
 cases g1:decide ((i:Int)≥l.length)
 case true =>
  have hg:=of_decide_eq_true g1
  rw [List.drop_eq_nil_of_le (show l.length≤_ by omega),ledL_none (led1_12l hK _)] at hh
  rw [hh]
  refine go2 (bw14 hl1 hv hv7 hv8 i0 i1 i2 hLs hMs d1 d2 e3 e4 g1) fnil ?_
  exact fQ hl1
 have hil:i<l.length:=by have:=of_decide_eq_false g1;omega
 cases g2:decide ((k:Int)≥m.length)
 case true =>
  have hg:=of_decide_eq_true g2
  rw [List.drop_eq_nil_of_le (show m.length≤_ by omega),ledL_none (led1_12r hK _)] at hh
  rw [hh]
  refine go2 (bw15 hl1 hv hv7 hv8 i0 i1 i2 hLs hMs d1 d2 e3 e4 g1 g2) fnil ?_
  exact fQ hl1
 have hkm:k<m.length:=by have:=of_decide_eq_false g2;omega
 rw [List.drop_eq_getElem_cons hil,List.drop_eq_getElem_cons hkm] at hh
 cases w:(s[n].2 != m[k])
 case true =>
  have hw:=bne_iff_ne.1 w
  have hno:led1 s[n] (l[i]::l.drop (i+1)) (m[k]::m.drop (k+1))=none:=by
   rcases hK with hK|hK
   ·rw [led1_1 hK,if_neg (fun h=>hw h.1)]
   ·rw [led1_2 hK,if_neg (fun h=>hw h.1)]
  rw [ledL_none hno] at hh
  rw [hh]
  refine go2 (bw16 hl1 hv hv7 hv8 i0 i1 i2 hLs hMs d1 d2 e3 e4 g1 g2 w) fnil ?_
  exact fQ hl1
 have hw:=bne_eq_false_iff_eq.1 w
 cases q:((s[n].1==1)==(l[i]==m[k]))
 case true =>
  have hyes:led1 s[n] (l[i]::l.drop (i+1)) (m[k]::m.drop (k+1))=some (l.drop (i+1),m.drop (k+1)):=by
   have q':=eq_of_beq q
   rcases hK with hK|hK
   ·rw [led1_1 hK,if_pos]
    rw [hK] at q'
    exact ⟨hw,by simpa using q'.symm⟩
   ·rw [led1_2 hK,if_pos]
    rw [hK] at q'
    refine ⟨hw,fun e=>?_⟩
    rw [e] at q'
    simp at q'
  rw [ledL_some hyes] at hh
  refine go2 (bw20 hl1 hv hv7 hv8 i0 i1 i2 hLs hMs d1 d2 e3 e4 g1 g2 w q hw1 hw2 hw3) fnil ?_
  exact ⟨i+1,k+1,(sG hl1),by omega,by omega,by omega,hh,by simp only [lo_setVar,lo_push];omega,by simp only [lo_setVar,lo_push,len_setVar,len_push];omega⟩
 have hno:led1 s[n] (l[i]::l.drop (i+1)) (m[k]::m.drop (k+1))=none:=by
  have q':=beq_eq_false_iff_ne.1 q
  rcases hK with hK|hK
  ·rw [led1_1 hK,if_neg]
   rintro ⟨_,e⟩
   rw [hK,e] at q'
   simp at q'
  ·rw [led1_2 hK,if_neg]
   rintro ⟨_,e⟩
   rw [hK] at q'
   have:(l[i]==m[k])=false:=by simpa using e
   rw [this] at q'
   simp at q'
 rw [ledL_none hno] at hh
 rw [hh]
 refine go2 (bw17 hl1 hv hv7 hv8 i0 i1 i2 hLs hMs d1 d2 e3 e4 g1 g2 w q) fnil ?_
 exact fQ hl1
end Go.Den.Ve
end
section
namespace Go.Den.Ve
def StepsP (l m:List Int) (c:Int) (st:St) (v:PV) (st':St):Prop:=∃ u,v = .tuple [u,.bool (stepsR l m c).isSome]∧RetW st ((stepsR l m c).getD []).length (((stepsR l m c).getD []).flatMap enc2) u st'
theorem stepsR_len (l m:List Int) (c:Int):∀ s,stepsR l m c=some s→s.length≤l.length+m.length:=by
 fun_induction stepsR l m c with
 | case1=>intro s h;cases h;simp
 | case2=>intro s h;cases h
 | case3=>intro s h;cases h
 | case4 b m n h ih =>
  intro s hs
  obtain ⟨t,ht,rfl⟩:=Option.map_eq_some_iff.1 hs
  have:=ih t ht;simp only [List.length_cons] at *;omega
 | case5=>intro s h;cases h
 | case6 a l n h ih =>
  intro s hs
  obtain ⟨t,ht,rfl⟩:=Option.map_eq_some_iff.1 hs
  have:=ih t ht;simp only [List.length_cons] at *;omega
 | case7=>intro s h;cases h
 | case8 a l b m n h s hs ih =>
  intro t ht
  cases ht
  have:=ih s hs;simp only [List.length_cons] at *;omega
 | case9 a l b m n h hs s hs2 ih1 ih2 =>
  intro t ht
  cases ht
  have:=ih2 s hs2;simp only [List.length_cons] at *;omega
 | case10 a l b m n h hs hs2 ih1 ih2 ih3 =>
  intro s hs3
  obtain ⟨t,ht,rfl⟩:=Option.map_eq_some_iff.1 hs3
  have:=ih3 t ht;simp only [List.length_cons] at *;omega
theorem stepsR_neg {l m:List Int} {c:Int} (h:c<0):stepsR l m c=none:=by
 have:=lev_ge l m
 exact stepsR_lt l m c (by omega)
theorem stepsR_cc {l m:List Int} (h1:0<l.length) (h2:0<m.length) {c:Int} (h:0≤c):stepsR l m c=match stepsR l.tail m.tail (if l[0]=m[0] then c else c - 1) with
  | some s=>some (((if l[0]=m[0] then 1 else 2),m[0])::s)
  | none=>match stepsR l m.tail (c - 1) with
   | some s=>some ((3,m[0])::s)
   | none=>(stepsR l.tail m (c - 1)).map fun s=>(4,l[0])::s:=by
 cases l with
 | nil=>simp at h1
 | cons a l=>cases m with
  | nil=>simp at h2
  | cons b m=>rw [stepsR,if_neg (by omega)];rfl
theorem stepsR_nc {l m:List Int} (h1:l.length=0) (h2:0<m.length) {c:Int} (h:0≤c):stepsR l m c=(stepsR l m.tail (c - 1)).map fun s=>((3:Int),m[0])::s:=by
 cases l with
 | cons a l=>simp at h1
 | nil=>cases m with
  | nil=>simp at h2
  | cons b m=>rw [stepsR,if_neg (by omega)];rfl
theorem stepsR_cn {l m:List Int} (h1:0<l.length) (h2:m.length=0) {c:Int} (h:0≤c):stepsR l m c=(stepsR l.tail m (c - 1)).map fun s=>((4:Int),l[0])::s:=by
 cases m with
 | cons a l=>simp at h2
 | nil=>cases l with
  | nil=>simp at h1
  | cons b m=>rw [stepsR,if_neg (by omega)];rfl
theorem enc2_many:∀ s:List Sp,(s.flatMap enc2).length=s.length*2
 | []=>rfl
 | x::p=>by rw [List.flatMap_cons,List.length_append,enc2_many p,List.length_cons];simp only [List.length_cons,List.length_nil];omega
theorem own_cons {m:Nat} {S:St} {v:PV} {a b:Int} {s:List Sp} (h:OwnS m S 2 v (1+s.length) ([.int .i64 a,.int .i64 b]++(s.flatMap enc2).map PV.share)):OwnS m S 2 v ((a,b)::s).length (((a,b)::s).flatMap enc2):=by
 rw [enc2_share,Nat.add_comm] at h
 exact h
theorem steps_ret {l m:List Int} {c:Int} {s:List Sp} (hs:stepsR l m c=some s) {st S:St} {v:PV} (hO:OwnS st.heap.length S 2 v s.length (s.flatMap enc2)) (hlo:st.heap.length≤S.lo):StepsP l m c st (finishCall st S (.tuple [v,.bool true])).1 (finishCall st S (.tuple [v,.bool true])).2:=by
 unfold StepsP
 rw [hs]
 exact finish_slT hO.sl (by rfl) hlo (fun m=>lowL_of fun c hc=>enc2_cellow hc)
theorem steps_none {l m:List Int} {c:Int} (hs:stepsR l m c=none) {st S:St} (hlo:st.heap.length≤S.lo):StepsP l m c st (finishCall st S (.tuple [.nilslice,.bool false])).1 (finishCall st S (.tuple [.nilslice,.bool false])).2:=by
 unfold StepsP
 rw [hs]
 rw [finish_tuple hlo (by rfl)]
 exact ⟨.nilslice,rfl,rfl,.inl rfl⟩
set_option maxHeartbeats 16000000 in
theorem c31n:∀ (n:Nat) (L M:PV) (l m:List Int) (c:Int),SlOf 1 encI L l→SlOf 1 encI M m→l.length+m.length=n→n≤100 → -1≤c→c≤1000→∀ st,ClR EE (.func 31 [] []) [L,M,iv c] st (StepsP l m c st):=by
 intro n
 induction n using Nat.strongRecOn with
 | _ n ih =>
 intro L M l m c hL hM hn hn2 hc1 hc2 st
 have hrec:∀ (L' M':PV) (l' m':List Int) (c':Int),SlOf 1 encI L' l'→SlOf 1 encI M' m'→l'.length+m'.length<n → -1≤c'→c'≤1000→∀ st,ClR EE (.func 31 [] []) [L',M',iv c'] st (StepsP l' m' c' st):=fun L' M' l' m' c' h1 h2 h3 h4 h5=>ih _ h3 L' M' l' m' c' h1 h2 rfl (by omega) h4 h5
 have hLs:=hL.slen
 have hMs:=hM.slen
 refine cG3 pr31 fn31 (fun tm hl h0 h1 h2=>?_)
 cases d0:decide (c<0)
 case true =>
  refine go2 (bw5 hl h0 h1 h2 d0) fnil ?_
  refine fX (.tuple [.nilslice,.bool false]) hl ?_
  exact steps_none (stepsR_neg (of_decide_eq_true d0)) (by show st.heap.length≤st.heap.length;omega)
 have hc0:0≤c:=by have:=of_decide_eq_false d0;omega
 have hwc:IntKind.wrap .i64 (c - 1)=c - 1:=wrap_in (by unfold inI;omega)
 have etl:(l.drop 1).take (l.length - 1)=l.tail:=by rw [List.drop_one,List.take_of_length_le (by simp)]
 have etm:(m.drop 1).take (m.length - 1)=m.tail:=by rw [List.drop_one,List.take_of_length_le (by simp)]
 have hltl:l.tail.length=l.length - 1:=by simp
 have hmtl:m.tail.length=m.length - 1:=by simp
 have hz0:((0:Nat):Int)=0:=rfl
 rcases Nat.eq_zero_or_pos l.length with l0|l0
 ·have a1:((l.length:Int)==0)=true:=by simp [l0]
  have a2:decide ((l.length:Int)>0)=false:=by simp [l0]
  rcases Nat.eq_zero_or_pos m.length with m0|m0
  ·have b1:((m.length:Int)==0)=true:=by simp [m0]
   have hr:stepsR l m c=if c=0 then some [] else none:=by rw [List.length_eq_zero_iff.1 l0,List.length_eq_zero_iff.1 m0,stepsR]
   cases z:(c==0)
   ·rw [if_neg (beq_eq_false_iff_ne.1 z)] at hr
    refine go2 (bw10 hl h0 h1 h2 hLs hMs d0 a1 b1 z) fnil ?_
    refine fX (.tuple [.nilslice,.bool false]) hl ?_
    exact steps_none hr (by show st.heap.length≤st.heap.length;omega)
   ·rw [if_pos (eq_of_beq z)] at hr
    refine go2 (bw10 hl h0 h1 h2 hLs hMs d0 a1 b1 z) fnil ?_
    refine fX (.tuple [.nilslice,.bool true]) hl ?_
    exact steps_ret hr .nil (by show st.heap.length≤st.heap.length;omega)
  ·have b1:((m.length:Int)==0)=false:=by rw [beq_eq_false_iff_ne];omega
   have b2:decide ((m.length:Int)>0)=true:=by simp;omega
   have hr:=stepsR_nc l0 m0 hc0
   refine go2 (bw14 hl h0 h1 h2 hLs hMs d0 a1 a2 b1 b2 hwc @isS @isN) fnil ?_
   refine wops_slice (n:=1) (m:=m.length) rfl rfl (sR (bw hl h1)) hM (by rfl) (by first|rfl|(simp only [↓reduceIte,go_sem,hl,bound];first|done|rfl)) (by omega) (by omega) ?_
   intro T3 hT3
   rw [etm] at hT3
   refine go2 (bw3 hl h2 hwc) fnil ?_
   refine cR (bw4 hl h0 h2 hwc) (hrec L T3 l m.tail (c - 1) hL hT3 (by omega) (by omega) (by omega) _) ?_
   rintro v s3 ⟨u3,rfl,hR3⟩
   have x3:=hR3.lo
   have x4:=hR3.len
   try simp only [lo_push,lo_setVar,len_push,len_setVar] at x3 x4
   cases hs3:stepsR l m.tail (c - 1) with
   | some s =>
    rw [hs3] at hR3 hr
    simp only [Option.map_some] at hr
    have hsl:=stepsR_len _ _ _ _ hs3
    have hu:u3.sl=some (s.length,s.flatMap enc2):=hR3.1
    have uc:=sl_cells hu
    have ui:=sl_isCell hu
    refine go2 (bw6 hl h1 uc ui @isS @isN) fnil ?_
    refine wops_append (m:=st.heap.length) (k:=s.length) rfl rfl (sR hl) (sR hl) ⟨rfl,.inr ⟨_,rfl,by first|omega|(simp only [len_push,len_setVar];omega),(sG fnil)⟩⟩ hu (by first|omega|(simp only [len_push,len_setVar];omega)) (enc2_many s) (enc2_cell s) (by simp only [maxList];omega) ?_
    intro v' s4 hO hF hk
    have z1:=hF.lo
    simp only [lo_push,lo_setVar,len_push,len_setVar] at z1
    refine go2 hl fnil ?_
    refine fX (.tuple [v',.bool true]) hl ?_
    exact steps_ret hr (own_cons hO) (by omega)
   | none =>
    rw [hs3] at hr
    simp only [Option.map_none] at hr
    refine go2 (bw6 hl h0 hLs a2 @isS @isN) fnil ?_
    refine fX (.tuple [.nilslice,.bool false]) hl ?_
    exact steps_none hr (by first|omega|(show st.heap.length≤st.heap.length;omega))
 ·have a1:((l.length:Int)==0)=false:=by rw [beq_eq_false_iff_ne];omega
  have a2:decide ((l.length:Int)>0)=true:=by simp;omega
  rcases Nat.eq_zero_or_pos m.length with m0|m0
  ·have b1:((m.length:Int)==0)=true:=by simp [m0]
   have b2:decide ((m.length:Int)>0)=false:=by simp [m0]
   have hr:=stepsR_cn l0 m0 hc0
   refine go2 (bw14 hl h0 h1 h2 hLs hMs d0 a1 a2 b1 b2 hwc @isS @isN) fnil ?_
   refine wops_slice (n:=1) (m:=l.length) rfl rfl (sR (bw hl h0)) hL (by rfl) (by first|rfl|(simp only [↓reduceIte,go_sem,hl,bound];first|done|rfl)) (by omega) (by omega) ?_
   intro T5 hT5
   rw [etl] at hT5
   refine go2 (bw4 hl h1 h2 hwc) fnil ?_
   refine cR (bw4 hl h1 h2 hwc) (hrec T5 M l.tail m (c - 1) hT5 hM (by omega) (by omega) (by omega) _) ?_
   rintro v s5 ⟨u5,rfl,hR5⟩
   have x5:=hR5.lo
   have x6:=hR5.len
   try simp only [lo_push,lo_setVar,len_push,len_setVar] at x5 x6
   cases hs5:stepsR l.tail m (c - 1) with
   | some s =>
    rw [hs5] at hR5 hr
    simp only [Option.map_some] at hr
    have hsl:=stepsR_len _ _ _ _ hs5
    have hu:u5.sl=some (s.length,s.flatMap enc2):=hR5.1
    have uc:=sl_cells hu
    have ui:=sl_isCell hu
    refine go2 (bw6 hl h0 uc ui @isS @isN) fnil ?_
    refine wops_append (m:=st.heap.length) (k:=s.length) rfl rfl (sR hl) (sR hl) ⟨rfl,.inr ⟨_,rfl,by first|omega|(simp only [len_push,len_setVar];omega),(sG fnil)⟩⟩ hu (by first|omega|(simp only [len_push,len_setVar];omega)) (enc2_many s) (enc2_cell s) (by simp only [maxList];omega) ?_
    intro v' s6 hO hF hk
    have z1:=hF.lo
    simp only [lo_push,lo_setVar,len_push,len_setVar] at z1
    refine go2 hl fnil ?_
    refine fX (.tuple [v',.bool true]) hl ?_
    exact steps_ret hr (own_cons hO) (by omega)
   | none =>
    rw [hs5] at hr
    simp only [Option.map_none] at hr
    refine go2 (bw3 hl @isS @isN) fnil ?_
    refine fX (.tuple [.nilslice,.bool false]) hl ?_
    exact steps_none hr (by omega)
  ·have b1:((m.length:Int)==0)=false:=by rw [beq_eq_false_iff_ne];omega
   have b2:decide ((m.length:Int)>0)=true:=by simp;omega
   have hr:=stepsR_cc l0 m0 hc0
   cases hx:(l[0] != m[0])
   ·have hxe:=bne_eq_false_iff_eq.1 hx
    rw [if_pos hxe,if_pos hxe] at hr
    refine go2 (bw13 hl h0 h1 h2 hLs hMs d0 a1 a2 b1 b2 hx hwc) fnil ?_
    refine wopsD_slice (n:=1) (m:=l.length) (by simp only [lo_push,lo_setVar,len_push,len_setVar];omega) rfl rfl (sR (bw hl h0)) hL (by rfl) (by first|rfl|(simp only [↓reduceIte,go_sem,hl,bound];first|done|rfl)) (by omega) (by omega) ?_
    intro T1 hT1
    rw [etl] at hT1
    refine go2 (bw3 hl h0 h1) fnil ?_
    refine wopsD_slice (n:=1) (m:=m.length) (by simp only [lo_push,lo_setVar,len_push,len_setVar];omega) rfl rfl (sR (bw hl h1)) hM (by rfl) (by first|rfl|(simp only [↓reduceIte,go_sem,hl,bound];first|done|rfl)) (by omega) (by omega) ?_
    intro T2 hT2
    rw [etm] at hT2
    refine go2 (bw3 hl h2 hwc) fnil ?_
    refine wopsD_callR rfl rfl (sR hl) (by simp only [↓reduceIte,go_sem,hl,h2,hwc];exact hrec T1 T2 l.tail m.tail (c) hT1 hT2 (by omega) (by omega) (by omega) _) ?_
    rintro v s1 ⟨u,rfl,hR⟩ ft
    have x1:=hR.lo
    have x2:=hR.len
    try simp only [lo_push,lo_setVar,len_push,len_setVar] at x1 x2
    have q0:hp s1 st.heap.length=some (.var [iv 1,iv m[0]]):=hR.hp (sG fnil)
    have lq0:=hp_lt q0
    cases hs:stepsR l.tail m.tail (c) with
    | some s =>
     rw [hs] at hR hr
     simp only at hr
     have hsl:=stepsR_len _ _ _ _ hs
     have hu:u.sl=some (s.length,s.flatMap enc2):=hR.1
     have uc:=sl_cells hu
     have ui:=sl_isCell hu
     refine go2 (bw7 hl q0 (n4 lq0) uc ui @isS @isN) fnil ?_
     refine wops_append (m:=st.heap.length) (k:=s.length) rfl rfl (sR (bw hl q0)) (sR hl) ⟨rfl,.inr ⟨_,rfl,by first|omega|(simp only [len_push,len_setVar];omega),(sG fnil)⟩⟩ hu (by first|omega|(simp only [len_push,len_setVar];omega)) (enc2_many s) (enc2_cell s) (by simp only [maxList];omega) ?_
     intro v' s2 hO hF hk
     have z1:=hF.lo
     simp only [lo_push,lo_setVar,len_push,len_setVar] at z1
     refine go2 hl fnil ?_
     refine fX (.tuple [v',.bool true]) hl ?_
     exact steps_ret hr (own_cons hO) (by omega)
    | none =>
     rw [hs] at hr
     simp only at hr
     refine go2 (bw14 hl h0 h1 h2 hLs hMs d0 a1 a2 b1 b2 hwc @isS @isN) fnil ?_
     refine wops_slice (n:=1) (m:=m.length) rfl rfl (sR (bw hl h1)) hM (by rfl) (by first|rfl|(simp only [↓reduceIte,go_sem,hl,bound];first|done|rfl)) (by omega) (by omega) ?_
     intro T3 hT3
     rw [etm] at hT3
     refine go2 (bw3 hl h2 hwc) fnil ?_
     refine cR (bw4 hl h0 h2 hwc) (hrec L T3 l m.tail (c - 1) hL hT3 (by omega) (by omega) (by omega) _) ?_
     rintro v s3 ⟨u3,rfl,hR3⟩
     have x3:=hR3.lo
     have x4:=hR3.len
     try simp only [lo_push,lo_setVar,len_push,len_setVar] at x3 x4
     cases hs3:stepsR l m.tail (c - 1) with
     | some s =>
      rw [hs3] at hR3 hr
      simp only [Option.map_some] at hr
      have hsl:=stepsR_len _ _ _ _ hs3
      have hu:u3.sl=some (s.length,s.flatMap enc2):=hR3.1
      have uc:=sl_cells hu
      have ui:=sl_isCell hu
      refine go2 (bw6 hl h1 uc ui @isS @isN) fnil ?_
      refine wops_append (m:=st.heap.length) (k:=s.length) rfl rfl (sR hl) (sR hl) ⟨rfl,.inr ⟨_,rfl,by first|omega|(simp only [len_push,len_setVar];omega),(sG fnil)⟩⟩ hu (by first|omega|(simp only [len_push,len_setVar];omega)) (enc2_many s) (enc2_cell s) (by simp only [maxList];omega) ?_
      intro v' s4 hO hF hk
      have z1:=hF.lo
      simp only [lo_push,lo_setVar,len_push,len_setVar] at z1
      refine go2 hl fnil ?_
      refine fX (.tuple [v',.bool true]) hl ?_
      exact steps_ret hr (own_cons hO) (by omega)
     | none =>
      rw [hs3] at hr
      simp only [Option.map_none] at hr
      refine go2 (bw14 hl h0 h1 h2 hLs hMs d0 a1 a2 b1 b2 hwc @isS @isN) fnil ?_
      refine wops_slice (n:=1) (m:=l.length) rfl rfl (sR (bw hl h0)) hL (by rfl) (by first|rfl|(simp only [↓reduceIte,go_sem,hl,bound];first|done|rfl)) (by omega) (by omega) ?_
      intro T5 hT5
      rw [etl] at hT5
      refine go2 (bw4 hl h1 h2 hwc) fnil ?_
      refine cR (bw4 hl h1 h2 hwc) (hrec T5 M l.tail m (c - 1) hT5 hM (by omega) (by omega) (by omega) _) ?_
      rintro v s5 ⟨u5,rfl,hR5⟩
      have x5:=hR5.lo
      have x6:=hR5.len
      try simp only [lo_push,lo_setVar,len_push,len_setVar] at x5 x6
      cases hs5:stepsR l.tail m (c - 1) with
      | some s =>
       rw [hs5] at hR5 hr
       simp only [Option.map_some] at hr
       have hsl:=stepsR_len _ _ _ _ hs5
       have hu:u5.sl=some (s.length,s.flatMap enc2):=hR5.1
       have uc:=sl_cells hu
       have ui:=sl_isCell hu
       refine go2 (bw6 hl h0 uc ui @isS @isN) fnil ?_
       refine wops_append (m:=st.heap.length) (k:=s.length) rfl rfl (sR hl) (sR hl) ⟨rfl,.inr ⟨_,rfl,by first|omega|(simp only [len_push,len_setVar];omega),(sG fnil)⟩⟩ hu (by first|omega|(simp only [len_push,len_setVar];omega)) (enc2_many s) (enc2_cell s) (by simp only [maxList];omega) ?_
       intro v' s6 hO hF hk
       have z1:=hF.lo
       simp only [lo_push,lo_setVar,len_push,len_setVar] at z1
       refine go2 hl fnil ?_
       refine fX (.tuple [v',.bool true]) hl ?_
       exact steps_ret hr (own_cons hO) (by omega)
      | none =>
       rw [hs5] at hr
       simp only [Option.map_none] at hr
       refine go2 (bw3 hl @isS @isN) fnil ?_
       refine fX (.tuple [.nilslice,.bool false]) hl ?_
       exact steps_none hr (by omega)
   ·have hxe:=bne_iff_ne.1 hx
    rw [if_neg hxe,if_neg hxe] at hr
    refine go2 (bw13 hl h0 h1 h2 hLs hMs d0 a1 a2 b1 b2 hx hwc) fnil ?_
    refine wopsD_slice (n:=1) (m:=l.length) (by simp only [lo_push,lo_setVar,len_push,len_setVar];omega) rfl rfl (sR (bw hl h0)) hL (by rfl) (by first|rfl|(simp only [↓reduceIte,go_sem,hl,bound];first|done|rfl)) (by omega) (by omega) ?_
    intro T1 hT1
    rw [etl] at hT1
    refine go2 (bw3 hl h0 h1) fnil ?_
    refine wopsD_slice (n:=1) (m:=m.length) (by simp only [lo_push,lo_setVar,len_push,len_setVar];omega) rfl rfl (sR (bw hl h1)) hM (by rfl) (by first|rfl|(simp only [↓reduceIte,go_sem,hl,bound];first|done|rfl)) (by omega) (by omega) ?_
    intro T2 hT2
    rw [etm] at hT2
    refine go2 (bw3 hl h2 hwc) fnil ?_
    refine wopsD_callR rfl rfl (sR hl) (by simp only [↓reduceIte,go_sem,hl,h2,hwc];exact hrec T1 T2 l.tail m.tail (c - 1) hT1 hT2 (by omega) (by omega) (by omega) _) ?_
    rintro v s1 ⟨u,rfl,hR⟩ ft
    have x1:=hR.lo
    have x2:=hR.len
    try simp only [lo_push,lo_setVar,len_push,len_setVar] at x1 x2
    have q0:hp s1 st.heap.length=some (.var [iv 2,iv m[0]]):=hR.hp (sG fnil)
    have lq0:=hp_lt q0
    cases hs:stepsR l.tail m.tail (c - 1) with
    | some s =>
     rw [hs] at hR hr
     simp only at hr
     have hsl:=stepsR_len _ _ _ _ hs
     have hu:u.sl=some (s.length,s.flatMap enc2):=hR.1
     have uc:=sl_cells hu
     have ui:=sl_isCell hu
     refine go2 (bw7 hl q0 (n4 lq0) uc ui @isS @isN) fnil ?_
     refine wops_append (m:=st.heap.length) (k:=s.length) rfl rfl (sR (bw hl q0)) (sR hl) ⟨rfl,.inr ⟨_,rfl,by first|omega|(simp only [len_push,len_setVar];omega),(sG fnil)⟩⟩ hu (by first|omega|(simp only [len_push,len_setVar];omega)) (enc2_many s) (enc2_cell s) (by simp only [maxList];omega) ?_
     intro v' s2 hO hF hk
     have z1:=hF.lo
     simp only [lo_push,lo_setVar,len_push,len_setVar] at z1
     refine go2 hl fnil ?_
     refine fX (.tuple [v',.bool true]) hl ?_
     exact steps_ret hr (own_cons hO) (by omega)
    | none =>
     rw [hs] at hr
     simp only at hr
     refine go2 (bw14 hl h0 h1 h2 hLs hMs d0 a1 a2 b1 b2 hwc @isS @isN) fnil ?_
     refine wops_slice (n:=1) (m:=m.length) rfl rfl (sR (bw hl h1)) hM (by rfl) (by first|rfl|(simp only [↓reduceIte,go_sem,hl,bound];first|done|rfl)) (by omega) (by omega) ?_
     intro T3 hT3
     rw [etm] at hT3
     refine go2 (bw3 hl h2 hwc) fnil ?_
     refine cR (bw4 hl h0 h2 hwc) (hrec L T3 l m.tail (c - 1) hL hT3 (by omega) (by omega) (by omega) _) ?_
     rintro v s3 ⟨u3,rfl,hR3⟩
     have x3:=hR3.lo
     have x4:=hR3.len
     try simp only [lo_push,lo_setVar,len_push,len_setVar] at x3 x4
     cases hs3:stepsR l m.tail (c - 1) with
     | some s =>
      rw [hs3] at hR3 hr
      simp only [Option.map_some] at hr
      have hsl:=stepsR_len _ _ _ _ hs3
      have hu:u3.sl=some (s.length,s.flatMap enc2):=hR3.1
      have uc:=sl_cells hu
      have ui:=sl_isCell hu
      refine go2 (bw6 hl h1 uc ui @isS @isN) fnil ?_
      refine wops_append (m:=st.heap.length) (k:=s.length) rfl rfl (sR hl) (sR hl) ⟨rfl,.inr ⟨_,rfl,by first|omega|(simp only [len_push,len_setVar];omega),(sG fnil)⟩⟩ hu (by first|omega|(simp only [len_push,len_setVar];omega)) (enc2_many s) (enc2_cell s) (by simp only [maxList];omega) ?_
      intro v' s4 hO hF hk
      have z1:=hF.lo
      simp only [lo_push,lo_setVar,len_push,len_setVar] at z1
      refine go2 hl fnil ?_
      refine fX (.tuple [v',.bool true]) hl ?_
      exact steps_ret hr (own_cons hO) (by omega)
     | none =>
      rw [hs3] at hr
      simp only [Option.map_none] at hr
      refine go2 (bw14 hl h0 h1 h2 hLs hMs d0 a1 a2 b1 b2 hwc @isS @isN) fnil ?_
      refine wops_slice (n:=1) (m:=l.length) rfl rfl (sR (bw hl h0)) hL (by rfl) (by first|rfl|(simp only [↓reduceIte,go_sem,hl,bound];first|done|rfl)) (by omega) (by omega) ?_
      intro T5 hT5
      rw [etl] at hT5
      refine go2 (bw4 hl h1 h2 hwc) fnil ?_
      refine cR (bw4 hl h1 h2 hwc) (hrec T5 M l.tail m (c - 1) hT5 hM (by omega) (by omega) (by omega) _) ?_
      rintro v s5 ⟨u5,rfl,hR5⟩
      have x5:=hR5.lo
      have x6:=hR5.len
      try simp only [lo_push,lo_setVar,len_push,len_setVar] at x5 x6
      cases hs5:stepsR l.tail m (c - 1) with
      | some s =>
       rw [hs5] at hR5 hr
       simp only [Option.map_some] at hr
       have hsl:=stepsR_len _ _ _ _ hs5
       have hu:u5.sl=some (s.length,s.flatMap enc2):=hR5.1
       have uc:=sl_cells hu
       have ui:=sl_isCell hu
       refine go2 (bw6 hl h0 uc ui @isS @isN) fnil ?_
       refine wops_append (m:=st.heap.length) (k:=s.length) rfl rfl (sR hl) (sR hl) ⟨rfl,.inr ⟨_,rfl,by first|omega|(simp only [len_push,len_setVar];omega),(sG fnil)⟩⟩ hu (by first|omega|(simp only [len_push,len_setVar];omega)) (enc2_many s) (enc2_cell s) (by simp only [maxList];omega) ?_
       intro v' s6 hO hF hk
       have z1:=hF.lo
       simp only [lo_push,lo_setVar,len_push,len_setVar] at z1
       refine go2 hl fnil ?_
       refine fX (.tuple [v',.bool true]) hl ?_
       exact steps_ret hr (own_cons hO) (by omega)
      | none =>
       rw [hs5] at hr
       simp only [Option.map_none] at hr
       refine go2 (bw3 hl @isS @isN) fnil ?_
       refine fX (.tuple [.nilslice,.bool false]) hl ?_
       exact steps_none hr (by omega)
theorem c31 (L M:PV) (l m:List Int) (c:Int) (hL:SlOf 1 encI L l) (hM:SlOf 1 encI M m) (h1:l.length≤10) (h2:m.length≤10) (hc1 : -1≤c) (hc2:c≤1000) (st:St):ClR EE (.func 31 [] []) [L,M,iv c] st (StepsP l m c st):=c31n _ L M l m c hL hM rfl (by omega) hc1 hc2 st
end Go.Den.Ve
end

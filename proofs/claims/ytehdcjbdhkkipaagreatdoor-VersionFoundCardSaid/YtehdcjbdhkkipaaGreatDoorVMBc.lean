/- Part of the proofs of laws of the package version. Texts: VwX, VxQa. -/
import Derived.Test.YtehdcjbdhkkipaaGreatDoorVMAx
import Derived.Test.YtehdcjbdhkkipaaGreatDoorVMAu
import Derived.Test.YtehdcjbdhkkipaaGreatDoorVMBb
set_option linter.unusedSimpArgs false
set_option linter.unusedVariables false
section
namespace Go.Den
theorem wopsD_apN{E:Env}{QD:Ex→List PV→St→List Foot→Prop}{tm:List PV}{st:St}{sz:Nat}{x y:Opd}{dst:Option Nat}{g:Option (Nat×Bool)}{os:List DOper}{b:Bool}{k:Nat}{w:PV}{ys:List PV}(hlo:st.lo≤st.heap.length)(hw:wants tm g=b)(hb:b=true)(hx:x.ev tm = .nilslice)(hy:y.ev tm=w)(hyl:w.sl=some (k,ys))(hk:k≠0)(hl:ys.length=k*sz)(hc:ys.all PV.isCell=true)(hn:k≤maxList)
  (h:WOpsD E os (fun e tm' st' fs=>QD e tm' st' (.quiet::fs)) (put tm dst (.hslice st.heap.length sz k)) (st.push (.arr ys))):WOpsD E (⟨.append true sz x y,dst,g⟩::os) QD tm st:=by
 obtain⟨o,rfl⟩:∃ o,w = .slice o k ys:=by
  cases w <;> simp only[PV.sl,Option.some.injEq,Prod.mk.injEq,reduceCtorEq] at hyl
  ·obtain⟨rfl,rfl⟩:=hyl;exact⟨_,rfl⟩
  ·omega
 refine wopsD_pushF (v := .hslice st.heap.length sz k) (ob := .arr ys) rfl hlo hw hb (fun rec st1 he=>?_) h
 simp only[stepOp,hx,hy]
 delta doAppend
 simp only[hl,hc,and_self,if_true,hk,if_false]
 rw[if_pos hn]
 simp only[St.push,he]
theorem wopsD_apT{E:Env}{QD:Ex→List PV→St→List Foot→Prop}{tm:List PV}{st:St}{sz:Nat}{x y:Opd}{dst:Option Nat}{g:Option (Nat×Bool)}{os:List DOper}{b:Bool}{t n k:Nat}{w:PV}{cs ys:List PV}(hlo:st.lo≤st.heap.length)(hw:wants tm g=b)(hb:b=true)(hx:x.ev tm = .hslice t sz n)(hh:hp st t=some (.arr cs))(h0:cs.length=n*sz)(hy:y.ev tm=w)(hyl:w.sl=some (k,ys))(hk:k≠0)(hl:ys.length=k*sz)(hc:ys.all PV.isCell=true)(hn:n+k≤maxList)
  (h:WOpsD E os (fun e tm' st' fs=>QD e tm' st' (.wr t::fs)) (put tm dst (.hslice st.heap.length sz (n+k))) ((setVar st t (.tag false)).push (.arr (cs++ys)))):WOpsD E (⟨.append true sz x y,dst,g⟩::os) QD tm st:=by
 obtain⟨o,rfl⟩:∃ o,w = .slice o k ys:=by
  cases w <;> simp only[PV.sl,Option.some.injEq,Prod.mk.injEq,reduceCtorEq] at hyl
  ·obtain⟨rfl,rfl⟩:=hyl;exact⟨_,rfl⟩
  ·omega
 have ht:=hp_lt hh
 have e2:(setVar (⟨st.heap,st.heap.length⟩:St) t (.tag false)).lo=t:=Nat.min_eq_right (Nat.le_of_lt ht)
 refine wopsD_cons (v := .hslice st.heap.length sz (n+k)) (st1:=(setVar (⟨st.heap,st.heap.length⟩:St) t (.tag false)).push (.arr (cs++ys))) (hw.trans hb) 0 (fun _ _=>?_) ?_
 ·simp only[stepOp,hx,hy]
  delta doAppend
  have h5:st.heap[t]? = some (.arr cs):=hh
  simp only[hl,hc,and_self,if_true,hk,if_false,h5]
  rw[if_pos ⟨trivial,h0,hn⟩]
  rfl
 ·have e3:footOf tm (.append true sz x y) st.heap.length ((setVar (⟨st.heap,st.heap.length⟩:St) t (.tag false)).push (.arr (cs++ys))).lo = .wr t:=by
   rw[lo_push,e2]
   simp only[footOf]
   rw[if_neg (by omega)]
  rw[e3,lo_push,e2]
  exact h
theorem freezeL_arrs{m:Nat}:∀ (X:List (Nat×Nat×List PV)) (h:List HObj),(∀ x∈X,m≤x.1∧h[x.1]? = some (.arr x.2.2)∧x.2.2.all PV.isCell=true)→(X.map Prod.fst).Nodup→∃ h',freezeL m h (X.map fun x => .hslice x.1 2 x.2.1)=(X.map fun x => .slice (.tag x.1 2) x.2.1 (x.2.2.map PV.share),h')∧∀ l,l∉X.map Prod.fst→h'[l]? = h[l]?
 | [],h,_,_=>⟨h,rfl,fun _ _=>rfl⟩
 | (B,k,ds)::X,h,hX,hn=>by
  obtain⟨h1,h2,h3⟩:=hX (B,k,ds) (by simp)
  simp only at h1 h2 h3
  rw[List.map_cons,List.nodup_cons] at hn
  have hs:∀ l,l≠B→(h.set B (HObj.tag true))[l]? = h[l]? := fun l hl=>List.getElem?_set_ne (Ne.symm hl)
  obtain⟨h',e1,e2⟩:=freezeL_arrs X (h.set B (.tag true)) (fun x hx=>by
   obtain⟨q1,q2,q3⟩:=hX x (by simp[hx])
   refine⟨q1,?_,q3⟩
   rw[hs _ (fun e=>hn.1 (by rw[← e];exact List.mem_map.2 ⟨x,hx,rfl⟩))]
   exact q2) hn.2
  refine⟨h',?_,fun l hl=>?_⟩
  ·have e0:freeze1 m h (.hslice B 2 k)=(.slice (.tag B 2) k (ds.map PV.share),h.set B (.tag true)):=by
    simp only[freeze1,Nat.not_lt.2 h1,if_false,h2,h3,if_true]
   simp only[List.map_cons,freezeL,e0,e1]
  ·simp only[List.map_cons,List.mem_cons,not_or] at hl
   rw[e2 l hl.2,hs l hl.1]
theorem step_setQ{E:Env}{rec:Rec}{tm:List PV}{st:St}{sz:Nat}{a x:Opd}{l off:Nat}{cs p:List PV}(ha:a.ev tm = .aptr l off)(hx:(x.ev tm).cells=p)(hp':p.length=sz)(hi:p.all PV.isCell=true)(hh:hp st l=some (.arr cs))(ho:off+sz≤cs.length):stepOp E rec tm st (.store sz a x)=some (.val undef (setVar st l (.arr (splice cs off p)))):=by
 have hh':st.heap[l]? = some (.arr cs):=hh
 simp only[stepOp,ha,hx,hh']
 rw[if_pos ⟨hp',ho,hi⟩]
theorem finish_deep{st st1:St}{a:Int}{A:Nat}{X:List (Nat×Nat×List PV)}(hne:X≠[])(hA:st.heap.length≤A)(hh:hp st1 A=some (.arr (X.map fun x => .hslice x.1 2 x.2.1)))(hX:∀ x∈X,st.heap.length≤x.1∧x.1<A∧hp st1 x.1=some (.arr x.2.2)∧x.2.2.all PV.isCell=true)(hn:(X.map Prod.fst).Nodup)(hlo:st.heap.length≤st1.lo)(hc:∀ m,∀ x∈X,lowL m (x.2.2.map PV.share)=true) :
  ∃ v',(finishCall st st1 (.agg [.int .i64 a,.hslice A 1 X.length])).1 = .agg [.int .i64 a,v']∧RetW st X.length (X.map fun x => .slice .shared x.2.1 (x.2.2.map PV.share)) v' (finishCall st st1 (.agg [.int .i64 a,.hslice A 1 X.length])).2:=by
 have hh':st1.heap[A]? = some (.arr (X.map fun x => .hslice x.1 2 x.2.1)):=hh
 have hnA:¬ A<st.heap.length:=by omega
 have hcell:(X.map fun x=>PV.hslice x.1 2 x.2.1).all PV.isCell=true:=by rw[List.all_map];exact List.all_eq_true.2 fun _ _=>rfl
 have hsh:(X.map fun x=>PV.hslice x.1 2 x.2.1).map PV.share=X.map fun x=>PV.hslice x.1 2 x.2.1:=by rw[List.map_map];rfl
 have hlow:lowL st.heap.length (X.map fun x=>PV.hslice x.1 2 x.2.1)=false:=by
  cases X with
  | nil=>exact absurd rfl hne
  | cons x X =>
   have:=(hX x (by simp)).1
   simp only[List.map_cons,lowL,PV.low,decide_eq_false (Nat.not_lt.2 this),Bool.false_and]
 have e1:letGo st.heap.length st1.heap (.agg [.int .i64 a,.hslice A 1 X.length])=none:=by
  simp only[letGo,freezeL,freeze1,hnA,if_false,hh',hcell,if_true,hsh,retagL,retag1,hlow,PV.low,Bool.false_eq_true,Option.map_none]
 obtain⟨h',f1,f2⟩:=freezeL_arrs X st1.heap (fun x hx=>by obtain⟨q1,_,q3,q4⟩:=hX x hx;exact⟨q1,q3,q4⟩) hn
 have hA':h'[A]? = some (.arr (X.map fun x => .hslice x.1 2 x.2.1)):=by
  rw[f2 A (fun h=>by
   obtain⟨x,hx,e⟩:=List.mem_map.1 h
   have:=(hX x hx).2.1
   omega)]
  exact hh'
 have hlA:A<h'.length:=(List.getElem?_eq_some_iff.1 hA').1
 have hs2:(X.map fun x=>PV.slice (.tag x.1 2) x.2.1 (x.2.2.map PV.share)).map PV.share=X.map fun x=>PV.slice .shared x.2.1 (x.2.2.map PV.share):=by rw[List.map_map];rfl
 have hl2:lowL st.heap.length (X.map fun x=>PV.slice .shared x.2.1 (x.2.2.map PV.share))=true:=lowL_of fun c hc'=>by
  obtain⟨x,hx,rfl⟩:=List.mem_map.1 hc'
  simp only[PV.low];exact hc _ x hx
 have hget:(h'.set A (HObj.tag true))[A]? = some (.tag true):=by simp[hlA]
 have e2:letGo2 st.heap.length st1.heap (.agg [.int .i64 a,.hslice A 1 X.length])=some (.agg [.int .i64 a,.slice (.tag st.heap.length 1) X.length (X.map fun x => .slice .shared x.2.1 (x.2.2.map PV.share))],1):=by
  simp only[letGo2,freeze2L,freeze2,hnA,if_false,hh',hcell,if_true,f1,hA',hs2,retagL,retag1,hl2,hget,PV.low,List.contains_nil,Bool.false_eq_true]
  simp
 unfold finishCall
 rw[if_pos hlo,e1]
 simp only[e2]
 exact⟨_,rfl,rfl,.inr rfl⟩
end Go.Den
namespace Go.Den.Ve
def foundB (b:BK) (n i:Nat) (l:List Int):BK:=⟨b.words,b.copies.set n ((b.copies.getD n []).set i ⟨false,l⟩)⟩
def shLP (x:LP):LP:=⟨x.lost,x.w.share,x.l,x.h.share⟩
theorem sh_cells(ls:List LP):(ls.flatMap encLP).map PV.share=(ls.map shLP).flatMap encLP:=by
 induction ls with
 | nil=>rfl
 | cons x ls ih=>rw[List.flatMap_cons,List.map_append,ih];rfl
theorem set_cells(ls:List LP)(i:Nat)(x:LP)(hi:i<ls.length):splice (ls.flatMap encLP) (i*2) (encLP x)=(ls.set i x).flatMap encLP:=by
 induction ls generalizing i with
 | nil=>simp at hi
 | cons y ls ih =>
  cases i with
  | zero=>rfl
  | succ i =>
   have:=ih i (by simpa using hi)
   rw[List.set_cons_succ,List.flatMap_cons,List.flatMap_cons,← this]
   rw[show (i+1)*2=i*2+2 by omega]
   rfl
theorem lp_len(ls:List LP):(ls.flatMap encLP).length=ls.length*2:=by
 induction ls with
 | nil=>rfl
 | cons x ls ih=>rw[List.flatMap_cons,List.length_append,ih];simp;omega
theorem lp_cell(ls:List LP):(ls.flatMap encLP).all PV.isCell=true:=List.all_eq_true.2 fun c hc=>by
 obtain⟨x,_,h⟩:=List.mem_flatMap.1 hc
 simp only[encLP,List.mem_cons,List.not_mem_nil,or_false] at h
 rcases h with rfl|rfl
 ·rfl
 ·exact x.isCell
theorem lp_low(ls:List LP)(m:Nat):lowL m ((ls.flatMap encLP).map PV.share)=true:=lowL_of fun c hc=>by
 obtain⟨d,hd,rfl⟩:=List.mem_map.1 hc
 obtain⟨x,_,h⟩:=List.mem_flatMap.1 hd
 simp only[encLP,List.mem_cons,List.not_mem_nil,or_false] at h
 rcases h with rfl|rfl
 ·rfl
 ·exact share_low x.h m
def mkCP (y:Nat×List LP):CP:=⟨.slice .shared (y.2.map shLP).length ((y.2.map shLP).flatMap encLP),y.2.map shLP,⟨rfl,fun _ _=>rfl⟩⟩
theorem cps_cells:∀ Y:List (Nat×List LP),(Y.map fun y=>PV.slice .shared y.2.length ((y.2.flatMap encLP).map PV.share))=(Y.map mkCP).flatMap encCP
 | []=>rfl
 | y::Y=>by
  rw[List.map_cons,List.map_cons,List.flatMap_cons,← cps_cells Y,sh_cells]
  simp only[encCP,mkCP,List.length_map,List.cons_append,List.nil_append]
theorem cp_ln(y:Nat×List LP):(mkCP y).c=y.2.map LP.ln:=by
 show (y.2.map shLP).map LP.ln=_
 rw[List.map_map];rfl
def FndR (b:BP) (m k:Nat) (V:PV) (S:St):Prop:=∃ (X:List (Nat×List LP)) (A:Nat),X.map Prod.snd=(b.cs.take k).map CP.ls∧(X.map Prod.fst).Nodup∧(∀ x∈X,m≤x.1∧x.1<A∧hp S x.1=some (.arr (x.2.flatMap encLP)))∧((k=0∧V = .nilslice)∨(V = .hslice A 1 k∧m≤A∧hp S A=some (.arr (X.map fun x => .hslice x.1 2 x.2.length))))
set_option maxHeartbeats 16000000 in
theorem c57(b:BP)(hB:OkB b.bk)(n i:Nat)(hn:n<b.cs.length)(hi:i<lines1 b.bk)(L:PV)(l:List Int)(hL:SlOf 1 encI L l)(st:St):ClR EE (.func 57 [] []) [b.pv,iv n,iv i,L] st (fun v st'=>∃ b':BP,v=b'.pv∧b'.bk=foundB b.bk n i l∧Keep st st'):=by
 have hb:=b.h
 have hLc:=hL.cells
 have hLi:=hL.isCell
 have hc5:b.cs.length≤5:=by have:=hB.c5;simpa using this
 have hlen:∀ c∈b.cs,c.ls.length=lines1 b.bk:=fun c hc=>by
  have:=(hB.all c.c (List.mem_map.2 ⟨_,hc,rfl⟩)).1
  simpa using this
 have hl4:=hB.l4
 have hl1:=hB.l1
 refine clr_fn (pr57 · _ _) fn57 4 rfl (by decide) (fun tm hl hg=>?_);have h0:tg tm 0=b.pv:=(hg 0 (by decide));have h1:tg tm 1=iv n:=(hg 1 (by decide));have h2:tg tm 2=iv i:=(hg 2 (by decide));have h3:tg tm 3=L:=(hg 3 (by decide));clear hg
 refine go2 (bw5 hl h0 h1 h2 h3) fnil ?_
 refine wp_for [10] (fun k vs S=>vs=[iv k]∧k≤b.cs.length∧(∃ V,hp S (st.heap.length+2)=some (.var [iv b.words,V])∧FndR b (st.heap.length+3) k V S)∧hp S st.heap.length=some (.var [iv b.words,b.v])∧hp S (st.heap.length+1)=some (.var [iv 0,.nilslice])∧HExt st.heap S.heap∧st.heap.length+3≤S.heap.length∧st.heap.length≤S.lo∧S.lo≤S.heap.length) (fun k=>b.cs.length - k) ⟨(sR hl),Nat.zero_le _,⟨.nilslice,(sG fnil),[],0,rfl,by simp,(fun x hx=>by cases hx),.inl ⟨rfl,rfl⟩⟩,(sG fnil),(sG fnil),?_,by simp only[len_push,len_setVar];omega,by simp only[lo_push,lo_setVar,len_push,len_setVar];omega,by simp only[lo_push,lo_setVar,len_push,len_setVar];omega⟩ ?_
 ·exact (((HExt.push (⟨st.heap,st.heap.length⟩:St) _).trans (HExt.push _ _)).trans (HExt.push _ _)).setVar (by simp only[len_push];omega)
 rintro k tm1 S ⟨hv,hk,⟨V,a2,X,A,hXs,hXn,hXh,hV⟩,a0,a1,hx0,hge,hlo,hwf⟩ hS
 replace hv:=mv1 hv
 have hl1':tm1.length=42:=lN hS hl;have i1:tg tm1 1=iv n:=tQ hS (bw5 hl h0 h1 h2 h3);have i2:tg tm1 2=iv i:=tQ hS (bw5 hl h0 h1 h2 h3);have i3:tg tm1 3=L:=tQ hS (bw5 hl h0 h1 h2 h3);have i4:tg tm1 4 = .ptr st.heap.length 0:=tQ hS (bw5 hl h0 h1 h2 h3);have i8:tg tm1 8 = .ptr (st.heap.length+1) 0:=tQ hS (bw5 hl h0 h1 h2 h3);have i9:tg tm1 9 = .ptr (st.heap.length+2) 0:=tQ hS (bw5 hl h0 h1 h2 h3);clear hS
 have m0:=hp_lt a0
 have m1:=hp_lt a1
 have m2:=hp_lt a2
 refine go2 (bw4 hl1' hv i4 a0) fnil ?_
 refine⟨decide ((k:Int)<b.cs.length),(sG hl1'),fun hb2=>?_,fun hb1=>?_⟩
 ·have hlt:=of_decide_eq_false hb2
  obtain rfl:k=b.cs.length:=by omega
  rcases hV with ⟨h,_⟩|⟨rfl,hmA,hA⟩
  ·omega
  rw[List.take_length] at hXs
  have hXl:X.length=b.cs.length:=by have:=congrArg List.length hXs;simpa using this
  have hnX:n<X.length:=by omega
  have hXn2:X[n].2=b.cs[n].ls:=by
   have e:(X.map Prod.snd)[n]? = (b.cs.map CP.ls)[n]? := by rw[hXs]
   rw[List.getElem?_map,List.getElem?_map,List.getElem?_eq_getElem hnX,List.getElem?_eq_getElem hn] at e
   exact Option.some.inj e
  obtain⟨hB1,hB2,hB3⟩:=hXh _ (List.getElem_mem hnX)
  have hin:i<X[n].2.length:=by rw[hXn2,hlen _ (List.getElem_mem hn)];exact hi
  have hI:∀ S,idxR 1 (.hslice A 1 b.cs.length) (.int .i64 (n:Int)) S=some (.val (.aptr A (n*1)) S):=fun S=>by rw[idxR_h,if_pos hn]
  have hLd:ldR false 1 (.aptr A (n*1)) S=some (.val (.hslice X[n].1 2 X[n].2.length) S):=by
   rw[ldR_aptr hA,Nat.mul_one,if_pos (by rw[List.length_map];omega),List.drop_eq_getElem_cons (by rw[List.length_map];exact hnX),List.getElem_map]
   rfl
  have hI2:∀ S,idxR 2 (.hslice X[n].1 2 X[n].2.length) (.int .i64 (i:Int)) S=some (.val (.aptr X[n].1 (i*2)) S):=fun S=>by rw[idxR_h,if_pos hin]
  refine go2 (bw11 hl1' i1 i2 i3 i9 a2 @op_indexAddrM hI hLd hI2 hLc) fnil ?_
  refine wops_one (v:=undef) (st1:=setVar S X[n].1 (.arr (splice (X[n].2.flatMap encLP) (i*2) [.bool false,L]))) rfl (fun rec=>step_setQ (sR hl1') (sR hl1') rfl (by simp only[List.all_cons,List.all_nil,hLi,Bool.and_true];rfl) hB3 (by rw[lp_len];omega)) ?_
  have hsc:splice (X[n].2.flatMap encLP) (i*2) [.bool false,L]=(X[n].2.set i ⟨false,L,l,hL⟩).flatMap encLP:=set_cells X[n].2 i ⟨false,L,l,hL⟩ hin
  rw[hsc]
  have mB:=hp_lt hB3
  have nB0:st.heap.length<X[n].1:=by omega
  have nB1:st.heap.length+1<X[n].1:=by omega
  have nB2:st.heap.length+2<X[n].1:=by omega
  refine go2 (bw10 hl1' i8 i9 a1 a2 (n4 nB0) (n4 nB1) (n4 nB2) (n4 m1) (n4 m2)) fnil ?_
  refine fnr_ret (v := .agg [iv b.words,.hslice A 1 b.cs.length]) (results_one ?_) ?_
  ·rw[rdRes_hp (l:=st.heap.length+1) (off:=0) (sG (bw hl1' i8))]
   simp only[↓reduceIte,go_sem,hl1',m1,n4 m1];first|done|rfl
  obtain⟨Y,hY⟩:∃ Y,Y=X.set n (X[n].1,X[n].2.set i ⟨false,L,l,hL⟩):=⟨_,rfl⟩
  have hYl:Y.length=b.cs.length:=by rw[hY,List.length_set,hXl]
  have hYf:Y.map Prod.fst=X.map Prod.fst:=by
   rw[hY,List.map_set]
   apply List.ext_getElem (by simp)
   intro j h1 h2
   rw[List.getElem_set]
   split
   ·rename_i e;subst e;simp
   ·rfl
  have hYA:(Y.map fun y=>PV.hslice y.1 2 y.2.length)=X.map fun x=>PV.hslice x.1 2 x.2.length:=by
   rw[hY,List.map_set]
   apply List.ext_getElem (by simp)
   intro j h1 h2
   rw[List.getElem_set]
   split
   ·rename_i e;subst e;simp
   ·rfl
  generalize hSf:setVar (setVar S X[n].1 _) (st.heap.length+1) _=Sf
  have hSA:hp Sf A=some (.arr (Y.map fun y => .hslice y.1 2 y.2.length)):=by
   rw[hYA,← hSf,hp_setVar,if_neg (by omega),hp_setVar,if_neg (by omega)];exact hA
  have hSY:∀ y∈Y,st.heap.length≤y.1∧y.1<A∧hp Sf y.1=some (.arr (y.2.flatMap encLP)):=fun y hy=>by
   obtain⟨j,hj,rfl⟩:=List.mem_iff_getElem.1 hy
   have hjX:j<X.length:=by rw[hXl,← hYl];exact hj
   by_cases hjn:j=n
   ·subst hjn
    have e:Y[j]=(X[j].1,X[j].2.set i ⟨false,L,l,hL⟩):=by simp only[hY,List.getElem_set_self]
    rw[e]
    refine⟨by omega,hB2,?_⟩
    rw[← hSf,hp_setVar,if_neg (by simp only;omega),hp_setVar,if_pos rfl,if_pos mB]
   ·have e:Y[j]=X[j]:=by simp only[hY];rw[List.getElem_set_ne (Ne.symm hjn)]
    rw[e]
    obtain⟨q1,q2,q3⟩:=hXh _ (List.getElem_mem hjX)
    refine⟨by omega,q2,?_⟩
    have hne:X[j].1≠X[n].1:=fun e2=>by
     have h3:=List.pairwise_iff_getElem.1 hXn
     rcases Nat.lt_or_gt_of_ne hjn with h4|h4
     ·exact h3 j n (by rw[List.length_map];exact hjX) (by rw[List.length_map];exact hnX) h4 (by rw[List.getElem_map,List.getElem_map];exact e2)
     ·exact h3 n j (by rw[List.length_map];exact hnX) (by rw[List.length_map];exact hjX) h4 (by rw[List.getElem_map,List.getElem_map];exact e2.symm)
    rw[← hSf,hp_setVar,if_neg (by omega),hp_setVar,if_neg hne];exact q3
  have hZ:=finish_deep (st:=st) (st1:=Sf) (a:=b.words) (A:=A) (X:=Y.map fun y=>(y.1,y.2.length,y.2.flatMap encLP)) (by intro h;have:=congrArg List.length h;simp at this;rw[this] at hYl;simp at hYl;omega) (by omega) (by rw[List.map_map];exact hSA) (fun x hx=>by
   obtain⟨y,hy,rfl⟩:=List.mem_map.1 hx
   obtain⟨q1,q2,q3⟩:=hSY y hy
   exact⟨q1,q2,q3,lp_cell _⟩) (by rw[List.map_map];exact (by rw[← hYf] at hXn;exact hXn)) (by rw[← hSf];simp only[lo_setVar];omega) (fun m x hx=>by
   obtain⟨y,hy,rfl⟩:=List.mem_map.1 hx
   exact lp_low _ m)
  rw[List.length_map,hYl] at hZ
  obtain⟨v',e1,hR⟩:=hZ
  rw[List.map_map] at hR
  have hcells:(Y.map ((fun x:Nat×Nat×List PV=>PV.slice .shared x.2.1 (x.2.2.map PV.share)) ∘ fun y=>(y.1,y.2.length,y.2.flatMap encLP)))=(Y.map mkCP).flatMap encCP:=cps_cells Y
  rw[hcells] at hR
  have hV':SlOf 1 encCP v' (Y.map mkCP):=SlOf.of_sl hR.1 (by rw[List.length_map,hYl]) rfl (fun _=>rfl)
  refine⟨⟨b.words,v',Y.map mkCP,hV'⟩,e1,?_,keepW hR⟩
  show (⟨b.words,(Y.map mkCP).map CP.c⟩:BK)=_
  have e5:(Y.map mkCP).map CP.c=(Y.map Prod.snd).map fun ls=>ls.map LP.ln:=by
   rw[List.map_map,List.map_map]
   exact List.map_congr_left fun y _=>cp_ln y
  have e6:Y.map Prod.snd=(b.cs.map CP.ls).set n (b.cs[n].ls.set i ⟨false,L,l,hL⟩):=by rw[hY,List.map_set,hXs,hXn2]
  rw[e5,e6,List.map_set]
  unfold foundB
  have e7:b.bk.copies=(b.cs.map CP.ls).map fun ls=>ls.map LP.ln:=by rw[List.map_map];rfl
  have e8:b.bk.copies.getD n []=b.cs[n].ls.map LP.ln:=by rw[List.getD_eq_getElem?_getD,List.getElem?_map,List.getElem?_eq_getElem hn];rfl
  rw[e8,e7,List.map_set]
 have hlt:k<b.cs.length:=by have:=of_decide_eq_true hb1;omega
 have hw1:=wS k (by omega)
 have hC:=b.cs[k].h
 have hkl:=hlen _ (List.getElem_mem hlt)
 refine⟨by omega,?_⟩
 have hCs:b.cs[k].v.sl=some (b.cs[k].ls.length,b.cs[k].ls.flatMap encLP):=hC.sl
 have htk:(b.cs.take (k+1)).map CP.ls=(b.cs.take k).map CP.ls++[b.cs[k].ls]:=by rw[List.take_succ_eq_append_getElem hlt,List.map_append];rfl
 refine go2 (bw6 hl1' hv i4 i9 a0 a2) fnil ?_
 refine wopsD_apN (by omega) rfl rfl (sR hl1') (sR hl1') hCs (by omega) (lp_len _) (lp_cell _) (by simp only[maxList];omega) ?_
 refine go2 hl1' fnil ?_
 rcases hV with ⟨rfl,rfl⟩|⟨rfl,hmA,hA⟩
 ·refine wopsD_apN (k:=1) (ys:=[.hslice S.heap.length 2 b.cs[0].ls.length]) (by simp only[lo_push,len_push];omega) rfl rfl (sR hl1') (sR hl1') rfl (by decide) rfl rfl (by decide) ?_
  refine go2 (bw6 hl1' hv i9 a2 (n4 m2) hw1) fnil ?_
  refine⟨(sG hl1'),by omega,⟨_,?_,[(S.heap.length,b.cs[0].ls)],S.heap.length+1+1,by rw[htk];rfl,by simp,(fun x hx=>?_),.inr ⟨rfl,by omega,?_⟩⟩,?_,?_,?_,?_,?_,?_⟩
  ·rw[hp_setVar,if_pos rfl,if_pos (by simp only[len_push];omega)]
  ·rw[List.mem_singleton.1 hx]
   refine⟨by omega,by omega,?_⟩
   rw[hp_setVar,if_neg (by simp only;omega),hp_push,if_neg (by simp only[len_push];omega),hp_push,if_neg (by simp only[len_push];omega),hp_push,if_pos rfl]
  ·rw[hp_setVar,if_neg (by omega),hp_push,if_pos (by simp only[len_push])];rfl
  ·rw[hp_setVar,if_neg (by omega),hp_push,if_neg (by simp only[len_push];omega),hp_push,if_neg (by simp only[len_push];omega),hp_push,if_neg (by omega)];exact a0
  ·rw[hp_setVar,if_neg (by omega),hp_push,if_neg (by simp only[len_push];omega),hp_push,if_neg (by simp only[len_push];omega),hp_push,if_neg (by omega)];exact a1
  ·exact (((hx0.trans (HExt.push S _)).trans (HExt.push _ _)).trans (HExt.push _ _)).setVar (by omega)
  ·simp only[len_setVar,len_push];omega
  ·simp only[lo_setVar,lo_push];omega
  ·simp only[lo_setVar,lo_push,len_setVar,len_push];omega
 ·have hXl:X.length=k:=by have:=congrArg List.length hXs;simpa[Nat.min_eq_left (Nat.le_of_lt hlt)] using this
  have mA:=hp_lt hA
  refine wopsD_apT (t:=A) (n:=k) (k:=1) (cs:=X.map fun x => .hslice x.1 2 x.2.length) (ys:=[.hslice S.heap.length 2 b.cs[k].ls.length]) (by simp only[lo_push,len_push];omega) rfl rfl (sR hl1') (by rw[hp_push,if_neg (by simp only[len_push];omega),hp_push,if_neg (by omega)];exact hA) (by rw[List.length_map,hXl,Nat.mul_one]) (sR hl1') rfl (by decide) rfl rfl (by simp only[maxList];omega) ?_
  have nA2:st.heap.length+2<A:=by omega
  refine go2 (bw7 hl1' hv i9 a2 (n4 m2) (n4 nA2) hw1) fnil ?_
  refine⟨(sG hl1'),by omega,⟨_,?_,X++[(S.heap.length,b.cs[k].ls)],S.heap.length+1+1,by rw[htk,List.map_append,hXs];rfl,?_,(fun x hx=>?_),.inr ⟨rfl,by omega,?_⟩⟩,?_,?_,?_,?_,?_,?_⟩
  ·rw[hp_setVar,if_pos rfl,if_pos (by simp only[len_push,len_setVar];omega)]
  ·rw[List.map_append,List.nodup_append]
   refine⟨hXn,by simp,fun a ha c hc=>?_⟩
   obtain⟨y,hy,rfl⟩:=List.mem_map.1 ha
   simp at hc
   have:=(hXh y hy).2.1
   omega
  ·rcases List.mem_append.1 hx with hx|hx
   ·obtain⟨q1,q2,q3⟩:=hXh x hx
    refine⟨q1,by omega,?_⟩
    rw[hp_setVar,if_neg (by omega),hp_push,if_neg (by simp only[len_push,len_setVar];omega),hp_setVar,if_neg (by omega),hp_push,if_neg (by simp only[len_push];omega),hp_push,if_neg (by omega)];exact q3
   ·rw[List.mem_singleton.1 hx]
    refine⟨by omega,by omega,?_⟩
    rw[hp_setVar,if_neg (by simp only;omega),hp_push,if_neg (by simp only[len_push,len_setVar];omega),hp_setVar,if_neg (by simp only;omega),hp_push,if_neg (by simp only[len_push];omega),hp_push,if_pos rfl]
  ·rw[hp_setVar,if_neg (by omega),hp_push,if_pos (by simp only[len_push,len_setVar])];simp
  ·rw[hp_setVar,if_neg (by omega),hp_push,if_neg (by simp only[len_push,len_setVar];omega),hp_setVar,if_neg (by omega),hp_push,if_neg (by simp only[len_push];omega),hp_push,if_neg (by omega)];exact a0
  ·rw[hp_setVar,if_neg (by omega),hp_push,if_neg (by simp only[len_push,len_setVar];omega),hp_setVar,if_neg (by omega),hp_push,if_neg (by simp only[len_push];omega),hp_push,if_neg (by omega)];exact a1
  ·exact ((((hx0.trans (HExt.push S _)).trans (HExt.push _ _)).setVar (by omega)).trans (HExt.push _ _)).setVar (by omega)
  ·simp only[len_setVar,len_push];omega
  ·simp only[lo_setVar,lo_push];omega
  ·simp only[lo_setVar,lo_push,len_setVar,len_push];omega
end Go.Den.Ve
end
section
namespace Go.Den.Ve
def prodX (b:BK) (i k:Nat) (a:Int):Int:=(List.range k).foldl (fun n q=>if q=i then n else n*((leastB b q).length:Int)) a
theorem prodX_succ(b:BK)(i k:Nat)(a:Int):prodX b i (k+1) a=if k=i then prodX b i k a else prodX b i k a*((leastB b k).length:Int):=by simp[prodX,List.range_succ]
theorem prodX_mul(b:BK)(i:Nat):∀ k a,prodX b i k a=a*prodX b i k 1
 | 0,a=>by simp[prodX]
 | k+1,a=>by
  rw[prodX_succ,prodX_succ]
  split
  ·exact prodX_mul b i k a
  ·rw[prodX_mul b i k a,Int.mul_assoc]
theorem prodX_pos(b:BK)(i:Nat):∀ k,1≤prodX b i k 1
 | 0=>by simp[prodX]
 | k+1=>by
  have h1:=prodX_pos b i k
  rw[prodX_succ]
  split
  ·exact h1
  ·have h2:1≤((leastB b k).length:Int):=by have:=List.length_pos_iff.2 (leastB_ne b k);omega
   have:=Int.mul_le_mul h1 h2 (by omega) (by omega)
   omega
theorem leftB_prod(b:BK)(i:Nat):leftB b i=worstB b i*prodX b i (lines1 b) 1:=prodX_mul b i (lines1 b) (worstB b i)
theorem sum_set{α:Type}(f:α→Int):∀ (cs:List α) (n:Nat) (h:n<cs.length) (x:α),((cs.set n x).map f).sum=(cs.map f).sum+f x - f cs[n]
 | c::cs,0,_,x=>by simp only[List.set_cons_zero,List.map_cons,List.sum_cons,List.getElem_cons_zero];omega
 | c::cs,n+1,h,x=>by
  have:=sum_set f cs n (by simpa using h) x
  simp only[List.set_cons_succ,List.map_cons,List.sum_cons,List.getElem_cons_succ,this];omega
section
variable{b:BK}{n i:Nat}{l:List Int}
theorem getD_at{α:Type}{cs:List α}{n:Nat}(h:n<cs.length)(d:α):cs.getD n d=cs[n]:=by rw[List.getD_eq_getElem?_getD,List.getElem?_eq_getElem h];rfl
theorem found_lines(hb:OkB b)(hn:n<b.copies.length):lines1 (foundB b n i l)=lines1 b:=by
 obtain⟨w,cs⟩:=b
 unfold foundB lines1
 cases cs with
 | nil=>simp at hn
 | cons c cs =>
  cases n with
  | zero=>simp
  | succ n=>simp
theorem found_ok(hb:OkB b)(hn:n<b.copies.length)(hl:lineB b.words l=true):OkB (foundB b n i l):=by
 have h1:=found_lines (i:=i) (l:=l) hb hn
 refine⟨hb.w1,hb.w3,?_,?_,by rw[h1];exact hb.l1,by rw[h1];exact hb.l4,fun c hc=>?_⟩
 ·show 1≤(b.copies.set n _).length;rw[List.length_set];exact hb.c1
 ·show (b.copies.set n _).length≤5;rw[List.length_set];exact hb.c5
 ·rw[h1]
  rcases List.mem_or_eq_of_mem_set hc with hc|rfl
  ·exact hb.all c hc
  ·rw[getD_at hn]
   obtain⟨q1,q2⟩:=hb.all _ (List.getElem_mem hn)
   refine⟨by rw[List.length_set];exact q1,fun x hx=>?_⟩
   rcases List.mem_or_eq_of_mem_set hx with hx|rfl
   ·exact q2 x hx
   ·exact⟨hl,fun h=>by cases h⟩
theorem found_cost(hb:OkB b)(hn:n<b.copies.length)(hi:i<lines1 b)(hlost:(lnAt b n i).lost=true)(q:Nat)(w:List Int):cost1 (foundB b n i l) q w=if q=i then cost1 b q w+((lev w l:Nat):Int) else cost1 b q w:=by
 have hlen:=(hb.all _ (List.getElem_mem hn)).1
 have hla:(b.copies[n].getD i ⟨true,[]⟩).lost=true:=by unfold lnAt at hlost;rw[getD_at hn] at hlost;exact hlost
 unfold cost1 foundB
 simp only
 rw[sum_set _ _ n hn,getD_at hn]
 split
 ·rename_i h
  subst h
  have e1:(b.copies[n].set q ⟨false,l⟩).getD q ⟨true,[]⟩=⟨false,l⟩:=by rw[getD_at (by rw[List.length_set];omega)];simp
  rw[e1]
  unfold takenI
  rw[hla]
  simp
 ·rename_i h
  have e1:(b.copies[n].set i ⟨false,l⟩).getD q ⟨true,[]⟩=b.copies[n].getD q ⟨true,[]⟩:=by
   rw[List.getD_eq_getElem?_getD,List.getD_eq_getElem?_getD,List.getElem?_set_ne (Ne.symm h)]
  rw[e1];omega
theorem found_least(hb:OkB b)(hn:n<b.copies.length)(hi:i<lines1 b)(hlost:(lnAt b n i).lost=true)(q:Nat):leastB (foundB b n i l) q=if q=i then leastW b i l else leastB b q:=by
 have e:cost1 (foundB b n i l) q=fun w=>if q=i then cost1 b q w+((lev w l:Nat):Int) else cost1 b q w:=funext fun w=>found_cost hb hn hi hlost q w
 unfold leastB
 rw[e]
 split
 ·rename_i h;subst h;rfl
 ·rfl
theorem found_whole(hb:OkB b)(hn:n<b.copies.length)(hi:i<lines1 b)(hlost:(lnAt b n i).lost=true):wholeN (foundB b n i l)=((leastW b i l).length:Int)*prodX b i (lines1 b) 1:=by
 have key:∀ k,(List.range k).foldl (fun m q=>m*((leastB (foundB b n i l) q).length:Int)) 1=if i<k then ((leastW b i l).length:Int)*prodX b i k 1 else prodX b i k 1:=fun k=>by
  induction k with
  | zero=>simp[prodX]
  | succ k ih =>
   rw[List.range_succ,List.foldl_append,List.foldl_cons,List.foldl_nil,ih,found_least hb hn hi hlost,prodX_succ]
   by_cases h1:k=i
   ·subst h1
    simp only[Nat.lt_irrefl,if_false,if_true,Nat.lt_succ_self]
    exact Int.mul_comm _ _
   ·by_cases h2:i<k
    ·rw[if_pos h2,if_neg h1,if_neg h1,if_pos (by omega),Int.mul_assoc]
    ·rw[if_neg h2,if_neg h1,if_neg h1,if_neg (by omega)]
 unfold wholeN
 rw[found_lines hb hn,key,if_pos hi]
end
theorem foldl_max_ge{α:Type}(f:α→Int):∀ (l:List α) (a:Int),a≤l.foldl (fun m w=>max m (f w)) a∧∀ x∈l,f x≤l.foldl (fun m w=>max m (f w)) a
 | [],a=>⟨Int.le_refl _,fun x h=>by cases h⟩
 | y::l,a=>by
  obtain⟨h1,h2⟩:=foldl_max_ge f l (max a (f y))
  rw[List.foldl_cons]
  refine⟨by omega,fun x hx=>?_⟩
  rcases List.mem_cons.1 hx with rfl|hx
  ·omega
  ·exact h2 x hx
theorem foldl_max_mul{α:Type}(f g:α→Int)(P:Int)(hP:0≤P)(hg:∀ x,g x=f x*P):∀ (l:List α) (a:Int),l.foldl (fun m w=>max m (g w)) (a*P)=l.foldl (fun m w=>max m (f w)) a*P
 | [],a=>rfl
 | y::l,a=>by
  rw[List.foldl_cons,List.foldl_cons,← foldl_max_mul f g P hP hg l (max a (f y)),hg y]
  congr 1
  rcases Int.le_total a (f y) with h|h
  ·rw[Int.max_eq_right h,Int.max_eq_right (Int.mul_le_mul_of_nonneg_right h hP)]
  ·rw[Int.max_eq_left h,Int.max_eq_left (Int.mul_le_mul_of_nonneg_right h hP)]
theorem leastW_ne(b:BK)(i:Nat)(w:List Int):1≤((leastW b i w).length:Int):=by
 have:=List.length_pos_iff.2 (least_ne (m:=fun x=>cost1 b i x+((lev x w:Nat):Int)) (lines_ne b.words.toNat))
 unfold leastW;omega
theorem found_le{b:BK}{n i:Nat}{l:List Int}(hb:OkB b)(hn:n<b.copies.length)(hi:i<lines1 b)(hlost:(lnAt b n i).lost=true)(hl:lineB b.words l=true):1≤wholeN (foundB b n i l)∧wholeN (foundB b n i l)≤leftB b i:=by
 rw[found_whole hb hn hi hlost,leftB_prod]
 have h1:=prodX_pos b i (lines1 b)
 have h2:=leastW_ne b i l
 have h3:((leastW b i l).length:Int)≤worstB b i:=by
  have:=(foldl_max_ge (fun w=>((leastW b i w).length:Int)) (linesL b.words.toNat) 0).2 l ((mem_linesB hb).2 hl)
  unfold worstB worstK
  rw[List.take_length];exact this
 refine⟨?_,Int.mul_le_mul_of_nonneg_right h3 (by omega)⟩
 have:=Int.mul_le_mul h2 h1 (by omega) (by omega)
 omega
theorem found_most{b:BK}{n i:Nat}(hb:OkB b)(hn:n<b.copies.length)(hi:i<lines1 b)(hlost:(lnAt b n i).lost=true):(linesL b.words.toNat).foldl (fun m w=>max m (wholeN (foundB b n i w))) 0=leftB b i:=by
 rw[leftB_prod]
 have h1:=prodX_pos b i (lines1 b)
 have:=foldl_max_mul (fun w=>((leastW b i w).length:Int)) (fun w=>wholeN (foundB b n i w)) (prodX b i (lines1 b) 1) (by omega) (fun w=>found_whole hb hn hi hlost) (linesL b.words.toNat) 0
 rw[Int.zero_mul] at this
 rw[this]
 unfold worstB worstK
 rw[List.take_length]
abbrev ltT (p q:T3):Prop:=p.1<q.1∨p.1=q.1∧p.2.1<q.2.1
theorem lost_mem{b:BK}{n k:Nat}{x:T3}:x∈lostK b n k↔∃ i,i<k∧(lnAt b n i).lost=true∧x=((n:Int),(i:Int),leftB b i):=by
 unfold lostK
 rw[List.mem_flatMap]
 constructor
 ·rintro⟨i,hi,hx⟩
  unfold lost1 at hx
  split at hx
  ·rename_i h
   exact⟨i,List.mem_range.1 hi,h,List.mem_singleton.1 hx⟩
  ·cases hx
 ·rintro⟨i,hi,h,rfl⟩
  exact⟨i,List.mem_range.2 hi,by unfold lost1;rw[if_pos h];simp⟩
theorem losts_mem{b:BK}{m:Nat}{x:T3}:x∈lostsK b m↔∃ n i,n<m∧i<lines1 b∧(lnAt b n i).lost=true∧x=((n:Int),(i:Int),leftB b i):=by
 unfold lostsK
 rw[List.mem_flatMap]
 constructor
 ·rintro⟨n,hn,hx⟩
  obtain⟨i,h1,h2,h3⟩:=lost_mem.1 hx
  exact⟨n,i,List.mem_range.1 hn,h1,h2,h3⟩
 ·rintro⟨n,i,h1,h2,h3,h4⟩
  exact⟨n,List.mem_range.2 h1,lost_mem.2 ⟨i,h2,h3,h4⟩⟩
theorem lost_pair(b:BK)(n:Nat):∀ k,(lostK b n k).Pairwise ltT
 | 0=>by simp[lostK]
 | k+1=>by
  rw[lostK_succ,List.pairwise_append]
  refine⟨lost_pair b n k,by unfold lost1;split <;> simp,fun x hx y hy=>?_⟩
  obtain⟨i,h1,_,rfl⟩:=lost_mem.1 hx
  unfold lost1 at hy
  split at hy
  ·rw[List.mem_singleton.1 hy]
   exact .inr ⟨rfl,by show (i:Int)<k;omega⟩
  ·cases hy
theorem losts_pair(b:BK):∀ m,(lostsK b m).Pairwise ltT
 | 0=>by simp[lostsK]
 | m+1=>by
  rw[lostsK_succ,List.pairwise_append]
  refine⟨losts_pair b m,lost_pair b m _,fun x hx y hy=>?_⟩
  obtain⟨n,i,h1,_,_,rfl⟩:=losts_mem.1 hx
  obtain⟨j,_,_,rfl⟩:=lost_mem.1 hy
  exact .inl (by show (n:Int)<m;omega)
theorem ask_none{b:BK}(h:askB b=none){n i:Nat}(hn:n<b.copies.length)(hi:i<lines1 b):(lnAt b n i).lost=false:=by
 have h1:=best_none h
 cases hl:(lnAt b n i).lost
 ·rfl
 ·have:=losts_mem.2 ⟨n,i,hn,hi,hl,rfl⟩
  rw[h1] at this;cases this
theorem ask_some{b:BK}{x:T3}(h:askB b=some x):∃ c q:Nat,x=((c:Int),(q:Int),leftB b q)∧c<b.copies.length∧q<lines1 b∧(lnAt b c q).lost=true∧∀ n i:Nat,n<b.copies.length→i<lines1 b→(lnAt b n i).lost=true→leftB b q<leftB b i∨leftB b q=leftB b i∧(c<n∨c=n∧q≤i):=by
 obtain⟨A,B,e,hA,hB⟩:=best_some (m:=fun x:T3=>x.2.2) h
 have hx:x∈lostsK b b.copies.length:=by rw[e];simp
 obtain⟨c,q,h1,h2,h3,rfl⟩:=losts_mem.1 hx
 refine⟨c,q,rfl,h1,h2,h3,fun n i hn hi hl=>?_⟩
 have hy:=losts_mem.2 ⟨n,i,hn,hi,hl,rfl⟩
 have hp:=losts_pair b b.copies.length
 rw[e] at hy hp
 rw[List.pairwise_append] at hp
 rcases List.mem_append.1 hy with hy|hy
 ·exact .inl (hA _ hy)
 ·rcases List.mem_cons.1 hy with hy|hy
  ·simp only[Prod.mk.injEq] at hy
   obtain⟨e1,e2,e3⟩:=hy
   exact .inr ⟨e3.symm,.inr ⟨by omega,by omega⟩⟩
  ·have h4:=hB _ hy
   have h5:=(List.pairwise_cons.1 hp.2.1).1 _ hy
   simp only at h4
   rcases Int.lt_or_eq_of_le h4 with h6|h6
   ·exact .inl h6
   ·refine .inr ⟨h6,?_⟩
    rcases h5 with h7|⟨h7,h8⟩
    ·exact .inl (by simp only at h7;omega)
    ·exact .inr ⟨by simp only at h7;omega,by simp only at h8;omega⟩
end Go.Den.Ve
end

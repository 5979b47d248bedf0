/- Part of the proofs of laws of the package version. Texts: VuA, VuB, VuC, VuD, VuE, VuF. -/
import Derived.Test.YtehdcjbdhkkipaaGreatDoorVMAx
set_option linter.unusedSimpArgs false
set_option linter.unusedVariables false
section
namespace Go.Den.Ve
theorem c79(x lo hi:Int)(st:St):Cl EE (.func 79 [] []) [iv x,iv lo,iv hi] st (.ret (.bool (inN x lo hi))) st:=by
 refine cF3 pr79 fn79 (fun tm hl h0 h1 h2=>?_)
 have e:inN x lo hi=(decide (x≥lo)&&decide (x≤hi)):=rfl
 rw[e]
 cases hd:decide (x≥lo)
 ·refine go2 (bw5 hl h0 h1 h2 hd) fnil ?_
  exact fQ hl
 ·refine go2 (bw5 hl h0 h1 h2 hd) fnil ?_
  exact fQ hl
theorem c27(F G:PV)(l m:List Int)(hF:SlOf 1 encI F l)(hG:SlOf 1 encI G m)(hN:l.length<1000000)(st:St):Cl EE (.func 27 [] []) [F,G] st (.ret (.bool (l==m))) st:=by
 have hFs:=hF.slen
 have hGs:=hG.slen
 refine cF2 pr27 fn27 (fun tm hl h0 h1=>?_)
 cases hd:((l.length:Int) != (m.length:Int))
 ·have hlm:l.length=m.length:=by have:=bne_eq_false_iff_eq.1 hd;omega
  refine go2 (bw6 hl h0 h1 hFs hGs hd) fnil ?_
  refine wp_for [5] (fun i vs st1=>vs=[iv i]∧i≤l.length∧l.take i=m.take i∧st1={ heap:=st.heap,lo:=st.heap.length }) (fun i=>l.length - i) ⟨(sR hl),Nat.zero_le _,rfl,rfl⟩ ?_
  rintro i tm1 st1 ⟨hv,hi,ht,rfl⟩ hS
  replace hv:=mv1 hv
  have hl1:tm1.length=26:=lN hS hl;have i0:tg tm1 0=F:=tQ hS (bw3 hl h0 h1);have i1:tg tm1 1=G:=tQ hS (bw3 hl h0 h1);clear hS
  refine go2 (bw4 hl1 hv i0 hFs) fnil ?_
  refine⟨decide ((i:Int)<l.length),(sG hl1),fun hb=>?_,fun hb=>?_⟩
  ·have hlt:=of_decide_eq_false hb
   have hin:i=l.length:=by omega
   have e:(l==m)=true:=by rw[beq_iff_eq];exact eq_of_take hlm (by rw[← hin];exact ht)
   rw[e]
   refine go2 hl1 fnil ?_
   exact fQ hl1
  ·have hlt:i<l.length:=by have:=of_decide_eq_true hb;omega
   have hlt2:i<m.length:=by omega
   have hw1:=wS i (by omega)
   refine⟨by omega,?_⟩
   cases hx:(l[i] != m[i])
   ·refine go2 (bw6 hl1 hv i0 i1 hw1 hx) fnil ?_
    exact⟨(sG hl1),by omega,take_snoc_eq hlt hlt2 ht (bne_eq_false_iff_eq.1 hx),rfl⟩
   ·have e:(l==m)=false:=by
     rw[beq_eq_false_iff_ne]
     intro e
     subst e
     simp at hx
    rw[e]
    refine go2 (bw5 hl1 hv i0 i1 hx) fnil ?_
    exact fQ hl1
 ·have e:(l==m)=false:=by
   rw[beq_eq_false_iff_ne]
   intro e
   subst e
   simp at hd
  rw[e]
  refine go2 (bw6 hl h0 h1 hFs hGs hd) fnil ?_
  exact fQ hl
set_option maxHeartbeats 1000000 in
theorem c33(F G:PV)(l m:List (Int×Int))(hF:SlOf 2 enc2 F l)(hG:SlOf 2 enc2 G m)(hN:l.length<1000000)(st:St):Cl EE (.func 33 [] []) [F,G] st (.ret (.bool (l==m))) st:=by
 have hFs:=hF.slen
 have hGs:=hG.slen
 refine cF2 pr33 fn33 (fun tm hl h0 h1=>?_)
 cases hd:((l.length:Int) != (m.length:Int))
 ·have hlm:l.length=m.length:=by have:=bne_eq_false_iff_eq.1 hd;omega
  refine go2 (bw6 hl h0 h1 hFs hGs hd) fnil ?_
  refine wp_for [5] (fun i vs st1=>vs=[iv i]∧i≤l.length∧l.take i=m.take i∧st1={ heap:=st.heap,lo:=st.heap.length }) (fun i=>l.length - i) ⟨(sR hl),Nat.zero_le _,rfl,rfl⟩ ?_
  rintro i tm1 st1 ⟨hv,hi,ht,rfl⟩ hS
  replace hv:=mv1 hv
  have hl1:tm1.length=26:=lN hS hl;have i0:tg tm1 0=F:=tQ hS (bw3 hl h0 h1);have i1:tg tm1 1=G:=tQ hS (bw3 hl h0 h1);clear hS
  refine go2 (bw4 hl1 hv i0 hFs) fnil ?_
  refine⟨decide ((i:Int)<l.length),(sG hl1),fun hb=>?_,fun hb=>?_⟩
  ·have hlt:=of_decide_eq_false hb
   have hin:i=l.length:=by omega
   have e:(l==m)=true:=by rw[beq_iff_eq];exact eq_of_take hlm (by rw[← hin];exact ht)
   rw[e]
   refine go2 hl1 fnil ?_
   exact fQ hl1
  ·have hlt:i<l.length:=by have:=of_decide_eq_true hb;omega
   have hlt2:i<m.length:=by omega
   have hw1:=wS i (by omega)
   refine⟨by omega,?_⟩
   cases hx:([l[i].1,l[i].2]==[m[i].1,m[i].2])
   ·have e:(l==m)=false:=by
     rw[beq_eq_false_iff_ne]
     intro e
     subst e
     simp at hx
    rw[e]
    refine go2 (bw5 hl1 hv i0 i1 hx) fnil ?_
    exact fQ hl1
   ·have hpe:l[i]=m[i]:=by
     have:=eq_of_beq hx
     simp only[List.cons.injEq,and_true] at this
     exact Prod.ext this.1 this.2
    refine go2 (bw6 hl1 hv i0 i1 hw1 hx) fnil ?_
    exact⟨(sG hl1),by omega,take_snoc_eq hlt hlt2 ht hpe,rfl⟩
 ·have e:(l==m)=false:=by
   rw[beq_eq_false_iff_ne]
   intro e
   subst e
   simp at hd
  rw[e]
  refine go2 (bw6 hl h0 h1 hFs hGs hd) fnil ?_
  exact fQ hl
set_option maxHeartbeats 1000000 in
theorem c38(F G:PV)(X Y:List SI)(hF:SlOf 1 encSI F X)(hG:SlOf 1 encSI G Y)(hN:X.length<1000000)(hNX:∀ x∈X,x.l.length<1000000)(st:St):Cl EE (.func 38 [] []) [F,G] st (.ret (.bool (X.map SI.l==Y.map SI.l))) st:=by
 have hFs:=hF.slen
 have hGs:=hG.slen
 refine cF2 pr38 fn38 (fun tm hl h0 h1=>?_)
 cases hd:((X.length:Int) != (Y.length:Int))
 ·have hlm:X.length=Y.length:=by have:=bne_eq_false_iff_eq.1 hd;omega
  refine go2 (bw6 hl h0 h1 hFs hGs hd) fnil ?_
  refine wp_for [5] (fun i vs st1=>vs=[iv i]∧i≤X.length∧(X.map SI.l).take i=(Y.map SI.l).take i∧st1={ heap:=st.heap,lo:=st.heap.length }) (fun i=>X.length - i) ⟨(sR hl),Nat.zero_le _,rfl,rfl⟩ ?_
  rintro i tm1 st1 ⟨hv,hi,ht,rfl⟩ hS
  replace hv:=mv1 hv
  have hl1:tm1.length=27:=lN hS hl;have i0:tg tm1 0=F:=tQ hS (bw3 hl h0 h1);have i1:tg tm1 1=G:=tQ hS (bw3 hl h0 h1);clear hS
  refine go2 (bw4 hl1 hv i0 hFs) fnil ?_
  refine⟨decide ((i:Int)<X.length),(sG hl1),fun hb=>?_,fun hb=>?_⟩
  ·have hlt:=of_decide_eq_false hb
   have hin:i=X.length:=by omega
   have e:(X.map SI.l==Y.map SI.l)=true:=by rw[beq_iff_eq];exact eq_of_take (by simpa using hlm) (by rw[List.length_map,← hin];exact ht)
   rw[e]
   refine go2 hl1 fnil ?_
   exact fQ hl1
  ·have hlt:i<X.length:=by have:=of_decide_eq_true hb;omega
   have hlt2:i<Y.length:=by omega
   have hw1:=wS i (by omega)
   refine⟨by omega,?_⟩
   have kc:=fun st=>c27 X[i].v Y[i].v X[i].l Y[i].l X[i].h Y[i].h (hNX _ (List.getElem_mem hlt)) st
   cases hx:(X[i].l==Y[i].l)
   ·have e:(X.map SI.l==Y.map SI.l)=false:=by
     rw[beq_eq_false_iff_ne]
     intro e
     have e1:(X.map SI.l)[i]? = (Y.map SI.l)[i]? := by rw[e]
     rw[List.getElem?_map,List.getElem?_map,List.getElem?_eq_getElem hlt,List.getElem?_eq_getElem hlt2] at e1
     have:=Option.some.inj e1
     rw[this] at hx
     simp at hx
    rw[e]
    rw[hx] at kc
    refine go2 (bw5 hl1 hv i0 i1 hx) (bw kc fnil) ?_
    exact fQ hl1
   ·rw[hx] at kc
    refine go2 (bw6 hl1 hv i0 i1 hw1 hx) (bw kc fnil) ?_
    exact⟨(sG hl1),by omega,take_snoc_eq (by simpa using hlt) (by simpa using hlt2) ht (by simpa using eq_of_beq hx),rfl⟩
 ·have e:(X.map SI.l==Y.map SI.l)=false:=by
   rw[beq_eq_false_iff_ne]
   intro e
   have:=congrArg List.length e
   simp only[List.length_map] at this
   rw[this] at hd
   simp at hd
  rw[e]
  refine go2 (bw6 hl h0 h1 hFs hGs hd) fnil ?_
  exact fQ hl
theorem c24(w:Int)(V:PV)(hV:V.cells=[V])(hVi:V.isCell=true)(hw:OkW w)(L:PV)(l:List Int)(hL:SlOf 1 encI L l)(hN:l.length<1000000)(st:St):Cl EE (.func 24 [] []) [.agg [iv w,V],L] st (.ret (.bool (lineB w l))) st:=by
 have hLs:=hL.slen
 have hww:=hw.wrap
 refine cF2 pr24 fn24 (fun tm hl h0 h1=>?_)
 refine go2 (bw4 hl h0 hV hVi) fnil ?_
 refine wp_for [5] (fun i vs st1=>vs=[iv i]∧i≤l.length∧(∀ x∈l.take i,inN x 0 (w - 1)=true)∧st1=({ heap:=st.heap,lo:=st.heap.length }:St).push (.var [iv w,V])) (fun i=>l.length - i) ⟨(sR hl),Nat.zero_le _,by simp,rfl⟩ ?_
 rintro i tm1 st1 ⟨hv,hi,hall,rfl⟩ hS
 replace hv:=mv1 hv
 have hl1:tm1.length=24:=lN hS hl;have i1:tg tm1 1=L:=tQ hS (bw hl h1);have i2:tg tm1 2 = .ptr st.heap.length 0:=tQ hS (bw hl h1);clear hS
 refine go2 (bw4 hl1 hv i1 hLs) fnil ?_
 refine⟨decide ((i:Int)<l.length),(sG hl1),fun hb=>?_,fun hb=>?_⟩
 ·have hlt:=of_decide_eq_false hb
  have hin:i=l.length:=by omega
  rw[hin,List.take_length] at hall
  have e:lineB w l=decide ((l.length:Int)≤4):=by
   have h1:l.all (fun x=>inN x 0 (w - 1))=true:=List.all_eq_true.2 hall
   have h2:decide (l.length≤4)=decide ((l.length:Int)≤4):=by rw[decide_eq_decide];omega
   rw[lineB,h1,Bool.and_true,h2]
  rw[e]
  refine go2 (bw3 hl1 i1 hLs) fnil ?_
  exact fQ hl1
 ·have hlt:i<l.length:=by have:=of_decide_eq_true hb;omega
  have hw1:=wS i (by omega)
  have kc:=fun st=>c79 l[i] 0 (w - 1) st
  refine⟨by omega,?_⟩
  cases hx:inN l[i] 0 (w - 1)
  ·have e:lineB w l=false:=by
    have h1:l.all (fun x=>inN x 0 (w - 1))=false:=List.all_eq_false.2 ⟨l[i],List.getElem_mem hlt,by simp[hx]⟩
    rw[lineB,h1,Bool.and_false]
   rw[e]
   rw[hx] at kc
   refine go2 (bw6 hl1 hv i1 i2 hww hx) (bw kc fnil) ?_
   exact fQ hl1
  ·rw[hx] at kc
   refine go2 (bw7 hl1 hv i1 i2 hww hw1 hx) (bw kc fnil) ?_
   refine⟨(sG hl1),by omega,fun x hm=>?_,rfl⟩
   rw[List.take_succ_eq_append_getElem hlt] at hm
   rcases List.mem_append.1 hm with hm|hm
   ·exact hall x hm
   ·rw[List.mem_singleton.1 hm];exact hx
end Go.Den.Ve
end
section
namespace Go.Den.Ve
set_option maxHeartbeats 4000000 in
theorem c30(b:BP)(hN:SmB b)(hM:∀ c∈b.cs,∀ x∈c.ls,x.l.length<1000000)(st:St):Cl EE (.func 30 [] []) [b.pv] st (.ret (.bool (bookB b.bk))) st:=by
 have hB:=b.h
 have hn:=hN.n
 refine cF1 pr30 fn30 (fun tm hl h0=>?_)
 have k1:=fun st=>c79 b.words 1 3 st
 have k2:=fun st=>c79 (b.cs.length:Int) 1 5 st
 cases hA:inN b.words 1 3
 ·have e:bookB b.bk=false:=by simp[bookB,hA]
  rw[e]
  rw[hA] at k1
  refine go2 (bw3 hl h0 hA) (bw k1 fnil) ?_
  exact fQ hl
 rw[hA] at k1
 have hw:OkW b.words:=by simp only[inN,Bool.and_eq_true,decide_eq_true_eq] at hA;exact⟨hA.1,hA.2⟩
 cases hL:inN (b.cs.length:Int) 1 5
 ·have e:bookB b.bk=false:=by simp[bookB,hA,hL]
  rw[e]
  rw[hL] at k2
  refine go2 (bw4 hl h0 hA hL) (bw3 k1 k2 fnil) ?_
  exact fQ hl
 rw[hL] at k2
 have hp0:0<b.cs.length:=by simp only[inN,Bool.and_eq_true,decide_eq_true_eq] at hL;omega
 have hl1b:=lines1_bk b hp0
 refine go2 (bw4 hl h0 hA hL) (bw3 k1 k2 fnil) ?_
 refine wp_for [3] (fun i vs S=>vs=[iv i]∧i≤b.cs.length∧(∀ c∈b.cs.take i,copyB b.bk c.c=true)∧hp S st.heap.length=some (.var [iv b.words,b.v])∧st.heap.length≤S.lo∧S.lo≤S.heap.length) (fun i=>b.cs.length - i) ⟨(sR hl),Nat.zero_le _,by simp,(sG fnil),by simp only[lo_push];omega,by simp only[lo_push,len_push];omega⟩ ?_
 rintro i tm1 S ⟨hv,hi,hall,d0,hlo,hwf⟩ hS
 replace hv:=mv1 hv
 have hl1:tm1.length=75:=lN hS hl;have i1:tg tm1 1 = .ptr st.heap.length 0:=tQ hS hl;clear hS
 have ld0:=hp_lt d0
 refine go2 (bw5 hl1 hv i1 d0 (n4 ld0)) fnil ?_
 refine⟨decide ((i:Int)<b.cs.length),(sG hl1),fun hb=>?_,fun hb=>?_⟩
 ·have hlt:=of_decide_eq_false hb
  have hin:i=b.cs.length:=by omega
  rw[hin,List.take_length] at hall
  have hz:((0:Nat):Int)=0:=rfl
  have k3:=fun st=>c79 (b.cs[0].ls.length:Int) 1 4 st
  have e:bookB b.bk=inN (b.cs[0].ls.length:Int) 1 4:=by
   have h1:b.bk.copies.all (copyB b.bk)=true:=List.all_eq_true.2 fun c hc=>by obtain⟨x,hx,rfl⟩:=List.mem_map.1 hc;exact hall x hx
   have h2:inN (b.bk.copies.length:Int) 1 5=true:=by simpa using hL
   have h3:inN b.bk.words 1 3=true:=hA
   rw[bookB,h1,h2,h3,hl1b];simp
  rw[e]
  refine go2 (bw4 hl1 i1 d0 (n4 ld0)) (bw k3 fnil) ?_
  exact fQ hl1
 ·have hlt:i<b.cs.length:=by have:=of_decide_eq_true hb;omega
  have hC:=b.cs[i].h
  have hC0:=b.cs[0].h
  have hcn:=hN.k _ (List.getElem_mem hlt)
  have hw1:=wS i (by omega)
  refine⟨by omega,?_⟩
  have bad:copyB b.bk b.cs[i].c=false→bookB b.bk=false:=fun h=>by
   have h1:b.bk.copies.all (copyB b.bk)=false:=List.all_eq_false.2 ⟨b.cs[i].c,List.mem_map.2 ⟨_,List.getElem_mem hlt,rfl⟩,by simp[h]⟩
   rw[bookB,h1];simp
  cases hne:((b.cs[i].ls.length:Int) != (b.cs[0].ls.length:Int))
  ·have heq:b.cs[i].ls.length=lines1 b.bk:=by rw[hl1b];have:=bne_eq_false_iff_eq.1 hne;omega
   refine go2 (bw6 hl1 hv i1 d0 hne (n4 ld0)) fnil ?_
   refine wp_for [4] (fun j vs S'=>vs=[iv j]∧j≤b.cs[i].ls.length∧(∀ x∈b.cs[i].ls.take j,lnB b.words x.ln=true)∧hp S' st.heap.length=some (.var [iv b.words,b.v])∧st.heap.length≤S'.lo∧S'.lo≤S'.heap.length) (fun j=>b.cs[i].ls.length - j) ⟨(sR hl1),Nat.zero_le _,by simp,d0,hlo,hwf⟩ ?_
   clear d0 hlo hwf ld0
   rintro j tm2 S2 ⟨hv4,hj,hall2,d0,hlo,hwf⟩ hS2
   replace hv4:=mv1 hv4
   have hl2:tm2.length=75:=lN hS2 hl1;have k1':tg tm2 1 = .ptr st.heap.length 0:=tQ hS2 (bw3 hl1 i1 hv);have k3:tg tm2 3=iv i:=tQ hS2 (bw3 hl1 i1 hv);clear hS2
   have ld0:=hp_lt d0
   refine go2 (bw6 hl2 hv4 k1' k3 d0 (n4 ld0)) fnil ?_
   refine⟨decide ((j:Int)<b.cs[i].ls.length),(sG hl2),fun hb2=>?_,fun hb2=>?_⟩
   ·have hlt2:=of_decide_eq_false hb2
    have hjn:j=b.cs[i].ls.length:=by omega
    rw[hjn,List.take_length] at hall2
    refine go2 (bw3 hl2 k3 hw1) fnil ?_
    refine⟨(sG hl2),by omega,fun c hc=>?_,d0,hlo,hwf⟩
    rw[List.take_succ_eq_append_getElem hlt] at hc
    rcases List.mem_append.1 hc with hc|hc
    ·exact hall c hc
    ·rw[List.mem_singleton.1 hc]
     simp only[copyB,Bool.and_eq_true,decide_eq_true_eq,List.all_eq_true]
     exact⟨by simpa using heq,fun x hx=>by obtain⟨y,hy,rfl⟩:=List.mem_map.1 hx;exact hall2 y hy⟩
   ·have hlt2:j<b.cs[i].ls.length:=by have:=of_decide_eq_true hb2;omega
    have hw2:=wS j (by omega)
    have hX:=b.cs[i].ls[j].h
    refine⟨by omega,?_⟩
    have bad2:lnB b.words b.cs[i].ls[j].ln=false→bookB b.bk=false:=fun h=>bad (by
     have h1:b.cs[i].c.all (lnB b.bk.words)=false:=List.all_eq_false.2 ⟨b.cs[i].ls[j].ln,List.mem_map.2 ⟨_,List.getElem_mem hlt2,rfl⟩,by simpa using h⟩
     rw[copyB,h1,Bool.and_false])
    have kc:=fun st=>c24 b.words b.v b.cells b.isCell hw b.cs[i].ls[j].w b.cs[i].ls[j].l hX (hM _ (List.getElem_mem hlt) _ (List.getElem_mem hlt2)) st
    have good:lnB b.words b.cs[i].ls[j].ln=true→∀ x∈b.cs[i].ls.take (j+1),lnB b.words x.ln=true:=fun h x hx=>by
     rw[List.take_succ_eq_append_getElem hlt2] at hx
     rcases List.mem_append.1 hx with hx|hx
     ·exact hall2 x hx
     ·rw[List.mem_singleton.1 hx];exact h
    have hg:lnB b.words b.cs[i].ls[j].ln=(lineB b.words b.cs[i].ls[j].l&&!(b.cs[i].ls[j].lost&&decide ((b.cs[i].ls[j].l.length:Int)>0))):=by
     unfold lnB
     congr 3
     show (!b.cs[i].ls[j].l.isEmpty)=_
     cases b.cs[i].ls[j].l <;> simp
    cases hln:lineB b.words b.cs[i].ls[j].l
    ·rw[bad2 (by rw[hg,hln];rfl)]
     rw[hln] at kc
     refine go2 (bw7 hl2 hv4 k1' k3 d0 hln (n4 ld0)) (bw kc fnil) ?_
     exact fQ hl2
    ·rw[hln] at kc
     rw[hln,Bool.true_and] at hg
     cases hlo2:b.cs[i].ls[j].lost
     ·rw[hlo2] at hg
      refine go2 (bw9 hl2 hv4 k1' k3 d0 hln hlo2 hw2 (n4 ld0)) (bw kc fnil) ?_
      exact⟨(sG hl2),by omega,good (by rw[hg];rfl),(sG (bw d0 (n4 ld0))),by simp only[lo_setVar,lo_push];omega,by simp only[lo_setVar,lo_push,len_setVar,len_push];omega⟩
     ·rw[hlo2,Bool.true_and] at hg
      cases hz:decide ((b.cs[i].ls[j].l.length:Int)>0)
      ·rw[hz] at hg
       refine go2 (bw10 hl2 hv4 k1' k3 d0 hln hlo2 hz hw2 (n4 ld0)) (bw kc fnil) ?_
       exact⟨(sG hl2),by omega,good (by rw[hg];rfl),(sG (bw d0 (n4 ld0))),by simp only[lo_setVar,lo_push];omega,by simp only[lo_setVar,lo_push,len_setVar,len_push];omega⟩
      ·rw[hz] at hg
       rw[bad2 (by rw[hg];rfl)]
       refine go2 (bw9 hl2 hv4 k1' k3 d0 hln hlo2 hz (n4 ld0)) (bw kc fnil) ?_
       exact fQ hl2
  ·have hco:copyB b.bk b.cs[i].c=false:=by
    have:decide (b.cs[i].c.length=lines1 b.bk)=false:=by
     rw[hl1b]
     have:=bne_iff_ne.1 hne
     simp;omega
    rw[copyB,this,Bool.false_and]
   rw[bad hco]
   refine go2 (bw6 hl1 hv i1 d0 hne (n4 ld0)) fnil ?_
   exact fQ hl1
end Go.Den.Ve
end
section
namespace Go.Den.Ve
def smC (c:CP):Bool:=decide (c.ls.length≤6)&&c.ls.all fun x=>decide (x.l.length≤6)
def smallB (b:BP):Bool:=decide (b.cs.length≤7)&&b.cs.all smC
theorem smallB_yes{b:BP}(h:smallB b=true):SmB b∧∀ c∈b.cs,∀ x∈c.ls,x.l.length≤6:=by
 simp only[smallB,smC,Bool.and_eq_true,decide_eq_true_eq,List.all_eq_true] at h
 exact⟨⟨by omega,fun c hc=>by have:=(h.2 c hc).1;omega⟩,fun c hc x hx=>(h.2 c hc).2 x hx⟩
set_option maxHeartbeats 4000000 in
theorem c28(b:BP)(st:St):Cl EE (.func 28 [] []) [b.pv] st (.ret (.bool (smallB b))) st:=by
 have hB:=b.h
 refine cF1 pr28 fn28 (fun tm hl h0=>?_)
 refine go2 (bw hl h0) fnil ?_
 refine wp_for [3] (fun i vs S=>vs=[iv i]∧i≤7∧i≤b.cs.length∧(∀ c∈b.cs.take i,smC c=true)∧S=({ heap:=st.heap,lo:=st.heap.length }:St).push (.var [iv b.words,b.v])) (fun i=>b.cs.length - i) ⟨(sR hl),by omega,Nat.zero_le _,by simp,rfl⟩ ?_
 rintro i tm1 S ⟨hv,hi7,hi,hall,rfl⟩ hS
 replace hv:=mv1 hv
 have hl1:tm1.length=52:=lN hS hl;have i1:tg tm1 1 = .ptr st.heap.length 0:=tQ hS hl;clear hS
 have hw1:=wS i (by omega)
 have e7:decide (b.cs.length≤7)=decide ((b.cs.length:Int)≤7):=by rw[decide_eq_decide];omega
 cases hc1:decide ((i:Int)<(b.cs.length:Int))
 ·have hlt:=of_decide_eq_false hc1
  have hin:i=b.cs.length:=by omega
  rw[hin,List.take_length] at hall
  have e:smallB b=decide ((b.cs.length:Int)≤7):=by rw[smallB,List.all_eq_true.2 hall,Bool.and_true,e7]
  refine go2 (bw4 hl1 hv i1 hc1) fnil ?_
  refine⟨false,(sG hl1),fun hb=>?_,fun hb=>by cases hb⟩
  rw[e]
  refine go2 (bw hl1 i1) fnil ?_
  exact fQ hl1
 have hlt:i<b.cs.length:=by have:=of_decide_eq_true hc1;omega
 cases hc2:decide ((i:Int)<7)
 ·have hlt:=of_decide_eq_false hc2
  have e:smallB b=decide ((b.cs.length:Int)≤7):=by
   have h1:decide (b.cs.length≤7)=false:=by simp;omega
   rw[smallB,h1,Bool.false_and,← e7,h1]
  refine go2 (bw5 hl1 hv i1 hc1 hc2) fnil ?_
  refine⟨false,(sG hl1),fun hb=>?_,fun hb=>by cases hb⟩
  rw[e]
  refine go2 (bw hl1 i1) fnil ?_
  exact fQ hl1
 have hi6:i<7:=by have:=of_decide_eq_true hc2;omega
 have hC:=b.cs[i].h
 refine go2 (bw5 hl1 hv i1 hc1 hc2) fnil ?_
 refine⟨true,(sG hl1),(fun hb=>by cases hb),fun _=>⟨by omega,?_⟩⟩
 have bad:smC b.cs[i]=false→smallB b=false:=fun h=>by
  have h1:b.cs.all smC=false:=List.all_eq_false.2 ⟨b.cs[i],List.getElem_mem hlt,by simp[h]⟩
  rw[smallB,h1,Bool.and_false]
 refine go2 (bw3 hl1 hv i1) fnil ?_
 refine wp_for [4] (fun j vs S'=>vs=[iv j]∧j≤6∧j≤b.cs[i].ls.length∧(∀ x∈b.cs[i].ls.take j,x.l.length≤6)∧S'=({ heap:=st.heap,lo:=st.heap.length }:St).push (.var [iv b.words,b.v])) (fun j=>b.cs[i].ls.length - j) ⟨(sR hl1),by omega,Nat.zero_le _,by simp,rfl⟩ ?_
 rintro j tm2 S2 ⟨hv4,hj6,hj,hall2,rfl⟩ hS2
 replace hv4:=mv1 hv4
 have hl2:tm2.length=52:=lN hS2 hl1;have k1:tg tm2 1 = .ptr st.heap.length 0:=tQ hS2 (bw3 hl1 i1 hv);have k3:tg tm2 3=iv i:=tQ hS2 (bw3 hl1 i1 hv);clear hS2
 have hw2:=wS j (by omega)
 have after:(∀ x∈b.cs[i].ls.take j,x.l.length≤6)→b.cs[i].ls.length≤6→j=b.cs[i].ls.length→∀ c∈b.cs.take (i+1),smC c=true:=fun h1 h2 h3 c hc=>by
  rw[List.take_succ_eq_append_getElem hlt] at hc
  rcases List.mem_append.1 hc with hc|hc
  ·exact hall c hc
  ·rw[List.mem_singleton.1 hc]
   rw[h3,List.take_length] at h1
   simp only[smC,Bool.and_eq_true,decide_eq_true_eq,List.all_eq_true]
   exact⟨h2,h1⟩
 cases hd1:decide ((j:Int)<(b.cs[i].ls.length:Int))
 ·have hlt1:=of_decide_eq_false hd1
  have hjn:j=b.cs[i].ls.length:=by omega
  have hd6:decide ((b.cs[i].ls.length:Int)>6)=false:=by simp;omega
  refine go2 (bw5 hl2 hv4 k1 k3 hd1) fnil ?_
  refine⟨false,(sG hl2),fun _=>?_,fun hb=>by cases hb⟩
  refine go2 (bw5 hl2 k1 k3 hd6 hw1) fnil ?_
  exact⟨(sG hl2),by omega,by omega,after hall2 (by omega) hjn,rfl⟩
 have hlt1:j<b.cs[i].ls.length:=by have:=of_decide_eq_true hd1;omega
 cases hd2:decide ((j:Int)<6)
 ·have hlt2:=of_decide_eq_false hd2
  have hd6:decide ((b.cs[i].ls.length:Int)>6)=true:=by simp;omega
  refine go2 (bw6 hl2 hv4 k1 k3 hd1 hd2) fnil ?_
  refine⟨false,(sG hl2),fun _=>?_,fun hb=>by cases hb⟩
  rw[bad (by have:decide (b.cs[i].ls.length≤6)=false:=(by simp;omega);rw[smC,this,Bool.false_and])]
  refine go2 (bw4 hl2 k1 k3 hd6) fnil ?_
  exact fQ hl2
 have hlt2:j<6:=by have:=of_decide_eq_true hd2;omega
 have hX:=b.cs[i].ls[j].h
 refine go2 (bw6 hl2 hv4 k1 k3 hd1 hd2) fnil ?_
 refine⟨true,(sG hl2),(fun hb=>by cases hb),fun _=>⟨by omega,?_⟩⟩
 cases hx:decide ((b.cs[i].ls[j].l.length:Int)>6)
 ·have hx6:=of_decide_eq_false hx
  refine go2 (bw6 hl2 hv4 k1 k3 hx hw2) fnil ?_
  refine⟨(sG hl2),by omega,by omega,fun x hm=>?_,rfl⟩
  rw[List.take_succ_eq_append_getElem hlt1] at hm
  rcases List.mem_append.1 hm with hm|hm
  ·exact hall2 x hm
  ·rw[List.mem_singleton.1 hm];omega
 ·have hx6:=of_decide_eq_true hx
  rw[bad (by
   have h1:(b.cs[i].ls.all fun x=>decide (x.l.length≤6))=false:=List.all_eq_false.2 ⟨b.cs[i].ls[j],List.getElem_mem hlt1,by simp;omega⟩
   rw[smC,h1,Bool.and_false])]
  refine go2 (bw5 hl2 hv4 k1 k3 hx) fnil ?_
  exact fQ hl2
def goodB (b:BP):Bool:=smallB b&&bookB b.bk
theorem c23(b:BP)(st:St):Cl EE (.func 23 [] []) [b.pv] st (.ret (.bool (goodB b))) st:=by
 have k28:=fun st=>c28 b st
 refine cF1 pr23 fn23 (fun tm hl h0=>?_)
 unfold goodB
 cases hs:smallB b
 ·rw[hs] at k28
  refine go2 (bw3 hl h0 hs) (bw k28 fnil) ?_
  exact fQ hl
 ·rw[hs] at k28
  have hy:=smallB_yes hs
  have k30:=fun st=>c30 b hy.1 (fun c hc x hx=>by have:=hy.2 c hc x hx;omega) st
  refine go2 (bw3 hl h0 hs) (bw3 k28 k30 fnil) ?_
  exact fQ hl
end Go.Den.Ve
end
section
namespace Go.Den
theorem finish_aggB{st st1:St}{a:Bool}{v:PV}{n:Nat}{cs:List PV}(hv:v.sl=some (n,cs))(hlo:st.heap.length≤st1.lo)(hc:∀ m,lowL m cs=true):∃ v',(finishCall st st1 (.agg [.bool a,v])).1 = .agg [.bool a,v']∧RetW st n cs v' (finishCall st st1 (.agg [.bool a,v])).2:=by
 obtain⟨v',s,h1,h2,h3⟩:=sl_retag (m:=st.heap.length) (h:=st1.heap) hv hc
 unfold finishCall
 rw[if_pos hlo]
 have:letGo st.heap.length st1.heap (.agg [.bool a,v])=some (.agg [.bool a,v'],s.length):=by
  have hf:=sl_freeze (m:=st.heap.length) (h:=st1.heap) hv
  have ha:∀ k:Bool,freeze1 st.heap.length st1.heap (.bool k)=(.bool k,st1.heap):=fun _=>rfl
  have hr:∀ k:Bool,retag1 st1.heap st.heap.length [] (.bool k)=some (.bool k,[]):=fun _=>rfl
  simp only[letGo,freezeL,ha,hf,retagL,hr,h1,Option.map_some]
 rw[this]
 refine⟨v',rfl,h2,?_⟩
 match s,h3 with
 | [],_=>left;simp
 | [x],_=>right;rfl
end Go.Den
namespace Go.Den.Ve
theorem c63(st:St):Cl EE (.func 63 [] []) [] st (.ret (.agg [.bool true,.nilslice])) st:=by
 refine cF0 pr63 fn63 (fun tm hl=>?_)
 refine go2 hl fnil ?_
 refine fnq_flat (results_one ?_) (by simp only[lo_push,lo_setVar];omega) (by rfl)
 rw[rdRes_hp (l:=st.heap.length) (off:=0) (sG hl)]
 simp only[↓reduceIte,go_sem,hl]
 first|done|rfl
theorem c64(L:PV)(l:List Int)(hL:SlOf 1 encI L l)(st:St):ClR EE (.func 64 [] []) [L] st (fun v st'=>∃ u,v = .agg [.bool false,u]∧RetW st l.length (l.flatMap encI) u st'):=by
 have hLc:=hL.cells
 have hLi:=hL.isCell
 refine cG1 pr64 fn64 (fun tm hl h0=>?_)
 refine go2 (bw4 hl h0 hLc hLi) fnil ?_
 obtain⟨u,h1,h2⟩:=finish_aggB (st:=st) (st1:=setVar (({ heap:=st.heap,lo:=st.heap.length }:St).push (.var [.bool false,.nilslice])) st.heap.length (.var [.bool false,L])) (a:=false) hL.sl (by simp only[lo_push,lo_setVar];omega) (fun m=>ints_low l m)
 refine fnr_ret (v := .agg [.bool false,L]) (results_one ?_) ⟨u,h1,h2⟩
 rw[rdRes_hp (l:=st.heap.length) (off:=0) (sG hl)]
 simp only[↓reduceIte,go_sem,hl,hLc,hLi]
 first|done|rfl
def knownK:BK:=⟨3,[[⟨false,[0,1,2]⟩,⟨false,[1,1]⟩],[⟨false,[0,2]⟩,⟨true,[]⟩],[⟨false,[0,1,1,2]⟩,⟨false,[1,2]⟩],[⟨false,[0,1,2]⟩,⟨false,[1]⟩]]⟩
theorem retW_share{st st':St}{u:PV}{x:Int}{l:List Int}(h:RetW st (x::l).length ((x::l).flatMap encI) u st'):u.share=elL (x::l):=by
 have h1:=h.1
 cases u <;> simp only[PV.sl,Option.some.injEq,Prod.mk.injEq,reduceCtorEq] at h1
 ·obtain⟨rfl,rfl⟩:=h1;rfl
 ·cases h1.1
set_option maxHeartbeats 8000000 in
theorem c80(st:St):ClR EE (.func 80 [] []) [] st (fun v st'=>∃ b:BP,v=b.pv∧b.bk=knownK∧(st'=st∨st'=st.push (.tag true))):=by
 have mk:∀ (L:PV) (x:Int) (l:List Int) (s:St),L.sl=some ((x::l).length,(x::l).flatMap encI)→ClR EE (.func 64 [] []) [L] s (fun v st'=>∃ u,v = .agg [.bool false,u]∧u.share=elL (x::l)∧u.cells=[u]∧u.isCell=true∧s.heap.length≤st'.heap.length∧st'.lo=s.lo∧HExt s.heap st'.heap):=fun L x l s h=>by
  obtain⟨v,s',h1,u,h2,h3⟩:=c64 L (x::l) (SlOf.of_sl h rfl rfl (fun _=>rfl)) s
  exact⟨v,s',h1,u,h2,retW_share h3,sl_cells h3.1,sl_isCell h3.1,h3.len,h3.lo,h3.hext⟩
 refine cG0 pr80 fn80 (fun tm hl=>?_)
 refine go2 hl fnil ?_
 refine cR hl (mk _ 0 [1,2] _ rfl) ?_
 rintro v1 s1 ⟨u1,rfl,q1,q2,q3,p1,p2,x1⟩
 simp only[lo_push,len_push] at p1 p2
 have e1:hp s1 st.heap.length=some (.var [iv 0,.nilslice]):=x1.hp (sG fnil)
 have le1:=hp_lt e1
 refine go2 hl fnil ?_
 refine cR hl (mk _ 1 [1] _ rfl) ?_
 rintro v2 s2 ⟨u2,rfl,q4,q5,q6,p3,p4,x2⟩
 simp only[lo_push,len_push] at p3 p4
 have e2:hp s2 st.heap.length=some (.var [iv 0,.nilslice]):=x2.hp (sG (bw e1 (n4 le1)))
 have le2:=hp_lt e2
 refine go2 (bw7 hl q1 q2 q3 q4 q5 q6) fnil ?_
 refine cR hl (mk _ 0 [2] _ rfl) ?_
 rintro v3 s3 ⟨u3,rfl,q7,q8,q9,p5,p6,x3⟩
 simp only[lo_push,len_push] at p5 p6
 have e3:hp s3 st.heap.length=some (.var [iv 0,.nilslice]):=x3.hp (sG (bw e2 (n4 le2)))
 have le3:=hp_lt e3
 refine go2 (bw4 hl q7 q8 q9) (bw c63 fnil) ?_
 refine cR hl (mk _ 0 [1,1,2] _ rfl) ?_
 rintro v4 s4 ⟨u4,rfl,q10,q11,q12,p7,p8,x4⟩
 simp only[lo_push,len_push] at p7 p8
 have e4:hp s4 st.heap.length=some (.var [iv 0,.nilslice]):=x4.hp (sG (bw e3 (n4 le3)))
 have le4:=hp_lt e4
 refine go2 hl fnil ?_
 refine cR hl (mk _ 1 [2] _ rfl) ?_
 rintro v5 s5 ⟨u5,rfl,q13,q14,q15,p9,p10,x5⟩
 simp only[lo_push,len_push] at p9 p10
 have e5:hp s5 st.heap.length=some (.var [iv 0,.nilslice]):=x5.hp (sG (bw e4 (n4 le4)))
 have le5:=hp_lt e5
 refine go2 (bw7 hl q10 q11 q12 q13 q14 q15) fnil ?_
 refine cR hl (mk _ 0 [1,2] _ rfl) ?_
 rintro v6 s6 ⟨u6,rfl,q16,q17,q18,p11,p12,x6⟩
 simp only[lo_push,len_push] at p11 p12
 have e6:hp s6 st.heap.length=some (.var [iv 0,.nilslice]):=x6.hp (sG (bw e5 (n4 le5)))
 have le6:=hp_lt e6
 refine go2 hl fnil ?_
 refine cR hl (mk _ 1 [] _ rfl) ?_
 rintro v7 s7 ⟨u7,rfl,q19,q20,q21,p13,p14,x7⟩
 simp only[lo_push,len_push] at p13 p14
 have e7:hp s7 st.heap.length=some (.var [iv 0,.nilslice]):=x7.hp (sG (bw e6 (n4 le6)))
 have le7:=hp_lt e7
 refine go2 (bw9 hl q16 q17 q18 q19 q20 q21 e7 (n4 le7)) fnil ?_
 generalize hC:([PV.slice Own.shared 2 [.bool false,elL [0,1,2],.bool false,elL [1,1]],PV.slice Own.shared 2 [.bool false,elL [0,2],.bool true,.nilslice],PV.slice Own.shared 2 [.bool false,elL [0,1,1,2],.bool false,elL [1,2]],PV.slice Own.shared 2 [.bool false,elL [0,1,2],.bool false,elL [1]]]:List PV)=C
 have hcs:C=(knownK.copies.map fun c=>(⟨.slice .shared (c.map LN.lp).length ((c.map LN.lp).flatMap encLP),c.map LN.lp,⟨rfl,fun _ _=>rfl⟩⟩:CP)).flatMap encCP:=by rw[← hC];rfl
 have hlow:∀ m,lowL m C=true:=fun m=>by
  rw[hcs]
  refine lowL_of fun c hc=>?_
  obtain⟨x,hx,hc⟩:=List.mem_flatMap.1 hc
  obtain⟨y,_,rfl⟩:=List.mem_map.1 hx
  rw[List.mem_singleton.1 hc]
  simp only[PV.low,lp_flat]
  exact lowL_of fun z hz=>encLN_low hz
 obtain⟨u,h1,h2⟩:=finish_agg1 (st:=st) (st1:=setVar ((s7.push (.tag true)).push (.tag true)) st.heap.length (.var [iv 3,.slice (.tag (s7.heap.length+1) 1) 4 C])) (a:=3) (v := .slice (.tag (s7.heap.length+1) 1) 4 C) (n:=4) (cs:=C) rfl (by simp only[lo_push,lo_setVar];omega) hlow
 refine fnr_ret (v := .agg [iv 3,.slice (.tag (s7.heap.length+1) 1) 4 C]) (results_one ?_) ?_
 ·rw[rdRes_hp (l:=st.heap.length) (off:=0) (sG hl)]
  simp only[↓reduceIte,go_sem,hl,e7,n4 le7]
  first|done|rfl
 ·rw[h1]
  exact⟨⟨3,u,_,SlOf.of_sl h2.1 rfl hcs (fun _=>rfl)⟩,rfl,by show (⟨3,_⟩:BK)=knownK;rfl,h2.2⟩
end Go.Den.Ve
end
section
namespace Go.Den.Ve
set_option maxHeartbeats 1000000 in
theorem c158a(n:Nat)(h:n<10)(st:St):Cl EE (.func 158 [] []) [iv n] st (.ret (.str (toB (itoaL n)))) st:=by
 have d1:decide ((n:Int) > -10)=true:=by simp;omega
 have d2:decide ((n:Int)<0)=false:=by simp
 have d3:decide ((n:Int)<10)=true:=by simp;omega
 have w1:IntKind.wrap .i64 (48+(n:Int))=((48+n:Nat):Int):=by rw[← wrap_nat (n:=48+n) (by omega)];rfl
 have w2:IntKind.wrap .u8 ((48+n:Nat):Int)=((48+n:Nat):Int):=wrap8 (by omega)
 rw[itoa_byte n h]
 refine cF1 pr158 fn158 (fun tm hl h0=>?_)
 refine go2 (bw7 hl h0 d1 d2 d3 w1 w2) fnil ?_
 refine wops_one (v := .str (toB [UInt8.ofNat (48+n)])) rfl (fun rec=>step_b2s (sR hl) (by omega)) ?_
 refine go2 hl fnil ?_
 exact fnq_flat (results_one (by rw[rdRes_tmp];simp only[↓reduceIte,go_sem,hl];first|done|rfl)) (by simp only[lo_push];omega) (by rfl)
set_option maxHeartbeats 1000000 in
theorem c158(n:Int)(h0:0≤n)(h1:n<100)(st:St):Cl EE (.func 158 [] []) [iv n] st (.ret (.str (toB (itoaL n.toNat)))) st:=by
 obtain⟨k,rfl⟩:∃ k:Nat,n=k:=⟨n.toNat,by omega⟩
 rw[Int.toNat_natCast]
 by_cases h:k<10
 ·exact c158a k h st
 ·have d1:decide ((k:Int) > -10)=true:=by simp;omega
  have d2:decide ((k:Int)<0)=false:=by simp
  have d3:decide ((k:Int)<10)=false:=by simp;omega
  have hz:((10:Int)=0)=False:=by simp
  have w0:IntKind.wrap .i64 (Int.tdiv (k:Int) 10)=((k / 10:Nat):Int):=by rw[Int.tdiv_eq_ediv_of_nonneg (by omega)];exact wrap_nat (n:=k / 10) (by omega)
  have w3:Int.tmod (k:Int) 10=((k % 10:Nat):Int):=by rw[Int.natCast_emod];exact Int.tmod_eq_emod_of_nonneg (by omega)
  have w1:IntKind.wrap .i64 (48+((k % 10:Nat):Int))=((48+k % 10:Nat):Int):=by rw[← wrap_nat (n:=48+k % 10) (by omega)];rfl
  have w2:IntKind.wrap .u8 ((48+k % 10:Nat):Int)=((48+k % 10:Nat):Int):=wrap8 (by omega)
  have hi:=itoaL_len (k / 10)
  have o1:((itoaL (k / 10)).length+1≤1000000)=True:=by simp only[eq_iff_iff,iff_true];omega
  have h10:k / 10<10:=by omega
  rw[itoa_two (by omega) (by omega)]
  refine cF1 pr158 fn158 (fun tm hl h0=>?_)
  have q10:=fun st=>c158a (k / 10) h10 st
  refine go2 (bw10 hl h0 d1 d2 d3 w0 w1 w2 w3 hz) (bw q10 fnil) ?_
  refine wopsD_pure (v := .str (toB [UInt8.ofNat (48+k % 10)])) (by first|omega|exact Nat.le_refl _) (sR hl) (fun rec st1 he=>step_b2s (sR hl) (by omega)) ?_
  refine go2 (bw hl o1) fnil ?_
  exact fnq_flat (results_one (by rw[rdRes_tmp];simp only[↓reduceIte,go_sem,hl];first|done|rfl)) (by first|exact Nat.le_refl _|(simp only[lo_push];omega)) (by rfl)
set_option maxHeartbeats 1000000 in
theorem c125(w:List UInt8)(U:PV)(ns:List Int)(hU:SlOf 1 encI U ns)(hns:∀ n∈ns,0≤n∧n<100)(hl3:ns.length≤4)(hwl:w.length≤6)(st:St):Cl EE (.func 125 [] []) [.str (toB w),U] st (.ret (.str (toB (rowL w ns)))) st:=by
 have hUs:=hU.slen
 refine cF2 pr125 fn125 (fun tm hl h0 h1=>?_)
 refine go2 (bw hl h0) fnil ?_
 refine wp_for [5,0] (fun i vs st'=>vs=[iv i,.str (toB (rowL w (ns.take i)))]∧i≤ns.length∧st'={ heap:=st.heap,lo:=st.heap.length }) (fun i=>ns.length - i) ⟨(sR (bw hl h0)),Nat.zero_le _,rfl⟩ ?_
 rintro i tm1 st1 ⟨hv,hi,rfl⟩ hS
 obtain⟨hv5,hv0⟩:=mv2 hv
 have hl1:tm1.length=21:=lN hS hl;have i1:tg tm1 1=U:=tQ hS (bw hl h1);clear hS
 refine go2 (bw4 hl1 hv5 i1 hUs) fnil ?_
 refine⟨decide ((i:Int)<ns.length),(sG hl1),fun hb=>?_,fun hb1=>?_⟩
 ·have hlt:=of_decide_eq_false hb
  have hin:i=ns.length:=by omega
  rw[hin,List.take_length] at hv0
  refine go2 (bw hl1 hv0) fnil ?_
  exact fnq_flat (results_one (by rw[rdRes_tmp];simp only[↓reduceIte,go_sem,hl1];first|done|rfl)) (by first|exact Nat.le_refl _|(simp only[lo_push];omega)) (by rfl)
 ·have hlt:i<ns.length:=by have:=of_decide_eq_true hb1;omega
  have hw1:=wS i (by omega)
  have hr:=hns _ (List.getElem_mem hlt)
  have hi2:=itoaL_len ns[i].toNat
  have hrl:=rowL_len w (ns.take i)
  have htl:(ns.take i).length≤4:=by simp;omega
  have o1:((rowL w (ns.take i)).length+1≤1000000)=True:=by simp only[eq_iff_iff,iff_true];omega
  have o2:((rowL w (ns.take i)++[32]).length+(itoaL ns[i].toNat).length≤1000000)=True:=by simp only[eq_iff_iff,iff_true,List.length_append,List.length_cons,List.length_nil];omega
  refine⟨by omega,?_⟩
  have q10:=fun st=>c158 ns[i] hr.1 hr.2 st
  refine go2 (bw7 hl1 hv5 hv0 i1 o1 o2 hw1) (bw q10 fnil) ?_
  rw[rowL_take w hlt]
  refine⟨?_,by omega,rfl⟩
  have ea:rowL w (ns.take i)++(32::itoaL ns[i].toNat)=rowL w (ns.take i)++[32]++itoaL ns[i].toNat:=by simp
  rw[ea]
  simp only[↓reduceIte,go_sem,hl1]
set_option maxHeartbeats 8000000 in
theorem c126(V:PV)(rows:List (List UInt8))(hV:SlOf 1 encS V rows)(hrows:∀ r∈rows,r.length≤15)(hN:rows.length≤151)(st:St):Cl EE (.func 126 [] []) [V,iv 197] st (.ret (.str (toB (sealL rows 197)))) st:=by
 have hVs:=hV.slen
 refine cF2 pr126 fn126 (fun tm hl h0 h1=>?_)
 have hab:=allSum_bound (rows:=rows) (fun r hr=>by have:=hrows r hr;omega)
 have hol:=joinL_len hrows
 have hN16:rows.length*16≤151*16:=Nat.mul_le_mul_right _ hN
 refine go2 hl fnil ?_
 refine wp_for [7,5,6] (fun i vs st'=>vs=[iv i,.str (toB (joinL (rows.take i))),iv (allSum rows i)]∧i≤rows.length∧st'={ heap:=st.heap,lo:=st.heap.length }) (fun i=>rows.length - i) ⟨(sR hl),Nat.zero_le _,rfl⟩ ?_
 rintro i tm1 st1 ⟨hv,hi,rfl⟩ hS
 obtain⟨hv7,hv5,hv6⟩:=mv3 hv
 have hl1:tm1.length=65:=lN hS hl;have i0:tg tm1 0=V:=tQ hS (bw3 hl h0 h1);have i1:tg tm1 1=iv 197:=tQ hS (bw3 hl h0 h1);clear hS
 refine go2 (bw4 hl1 hv7 i0 hVs) fnil ?_
 refine⟨decide ((i:Int)<rows.length),(sG hl1),fun hb=>?_,fun hb1=>?_⟩
 ·have hlt:=of_decide_eq_false hb
  have hin:i=rows.length:=by omega
  have habn:=hab rows.length (by omega)
  have holn:=hol rows.length
  rw[List.take_length] at holn
  rw[hin] at hv6
  rw[hin,List.take_length] at hv5
  have er:endRow rows 197=endW++itoaL (allSum rows rows.length % 197 / 100)++itoaL (allSum rows rows.length % 197 / 10 % 10)++itoaL (allSum rows rows.length % 197 % 10):=rfl
  have ht:sealL rows 197=joinL rows++endRow rows 197++[10]:=by rw[sealL,inter_out]
  rw[ht,er]
  generalize hAd:allSum rows rows.length=A at hv6 habn
  have w57:Int.tmod (A:Int) 197=((A % 197:Nat):Int):=by rw[Int.natCast_emod];exact Int.tmod_eq_emod_of_nonneg (by omega)
  have hC:A % 197<197:=Nat.mod_lt _ (by omega)
  generalize hCd:A % 197=C at w57 hC
  have w60:IntKind.wrap .i64 (Int.tdiv (C:Int) 100)=((C / 100:Nat):Int):=by rw[Int.tdiv_eq_ediv_of_nonneg (by omega)];exact wrap_nat (n:=C / 100) (by omega)
  have w64:IntKind.wrap .i64 (Int.tdiv (C:Int) 10)=((C / 10:Nat):Int):=by rw[Int.tdiv_eq_ediv_of_nonneg (by omega)];exact wrap_nat (n:=C / 10) (by omega)
  have w65:Int.tmod ((C / 10:Nat):Int) 10=((C / 10 % 10:Nat):Int):=by rw[Int.natCast_emod];exact Int.tmod_eq_emod_of_nonneg (by omega)
  have w69:Int.tmod (C:Int) 10=((C % 10:Nat):Int):=by rw[Int.natCast_emod];exact Int.tmod_eq_emod_of_nonneg (by omega)
  have hz:((197:Int)=0)=False:=by simp
  have hz2:((100:Int)=0)=False:=by simp
  have hz3:((10:Int)=0)=False:=by simp
  have k1:∀ st,Cl EE (.func 158 [] []) [iv ((C / 100:Nat):Int)] st (.ret (.str (toB (itoaL (C / 100))))) st:=fun st=>by have:=c158 ((C / 100:Nat):Int) (by omega) (by omega) st;rwa [Int.toNat_natCast] at this
  have k2:∀ st,Cl EE (.func 158 [] []) [iv ((C / 10 % 10:Nat):Int)] st (.ret (.str (toB (itoaL (C / 10 % 10))))) st:=fun st=>by have:=c158 ((C / 10 % 10:Nat):Int) (by omega) (by omega) st;rwa [Int.toNat_natCast] at this
  have k3:∀ st,Cl EE (.func 158 [] []) [iv ((C % 10:Nat):Int)] st (.ret (.str (toB (itoaL (C % 10))))) st:=fun st=>by have:=c158 ((C % 10:Nat):Int) (by omega) (by omega) st;rwa [Int.toNat_natCast] at this
  have i1l:=itoaL_len (C / 100)
  have i2l:=itoaL_len (C / 10 % 10)
  have i4l:=itoaL_len (C % 10)
  refine go2 (bw12 hl1 hv5 hv6 i1 w57 w60 w64 w65 w69 hz hz2 hz3) fnil ?_
  refine wops_add (s:=joinL rows) (t:=endW) rfl rfl (sR hl1) (sR hl1) (by simp only[endW,List.length_cons,List.length_nil];omega) ?_
  generalize hXd:joinL rows++endW=X
  have hX:X.length≤151*16+4:=by rw[← hXd];simp only[endW,List.length_append,List.length_cons,List.length_nil];omega
  refine go2 (bw10 hl1 hv6 w57 w60 w64 w65 w69 hz hz2 hz3) (bw4 k1 k2 k3 fnil) ?_
  refine wops_add rfl rfl (sR hl1) (sR hl1) (by first|omega|(simp only[List.length_append,List.length_cons,List.length_nil];omega)) ?_
  refine go2 (bw10 hl1 hv6 w57 w60 w64 w65 w69 hz hz2 hz3) (bw4 k1 k2 k3 fnil) ?_
  refine wops_add rfl rfl (sR hl1) (sR hl1) (by first|omega|(simp only[List.length_append,List.length_cons,List.length_nil];omega)) ?_
  refine go2 (bw10 hl1 hv6 w57 w60 w64 w65 w69 hz hz2 hz3) (bw4 k1 k2 k3 fnil) ?_
  refine wops_add rfl rfl (sR hl1) (sR hl1) (by first|omega|(simp only[List.length_append,List.length_cons,List.length_nil];omega)) ?_
  refine wops_add (t:=[10]) rfl rfl (sR hl1) (sR hl1) (by first|omega|(simp only[List.length_append,List.length_cons,List.length_nil];omega)) ?_
  refine go2 hl1 fnil ?_
  have ef:joinL rows++(endW++itoaL (C / 100)++itoaL (C / 10 % 10)++itoaL (C % 10))++[10]=X++itoaL (C / 100)++itoaL (C / 10 % 10)++itoaL (C % 10)++[10]:=by rw[← hXd];simp
  rw[ef]
  exact fnq_flat (results_one (by rw[rdRes_tmp];simp only[↓reduceIte,go_sem,hl1];first|done|rfl)) (by first|exact Nat.le_refl _|(simp only[lo_push];omega)) (by rfl)
 ·have hlt:i<rows.length:=by have:=of_decide_eq_true hb1;omega
  have hw1:=wS i (by omega)
  have hri:=hrows _ (List.getElem_mem hlt)
  have hgi:rows.getD i []=rows[i]:=by rw[List.getD_eq_getElem?_getD,List.getElem?_eq_getElem hlt];rfl
  have habi:=hab i (by omega)
  have holi:=hol i
  refine⟨by omega,?_⟩
  refine go2 hl1 fnil ?_
  refine wp_for [8,6] (fun k vs st'=>vs=[iv k,iv ((allSum rows i+rowSum i rows[i] k:Nat):Int)]∧k≤rows[i].length∧st'={ heap:=st.heap,lo:=st.heap.length }) (fun k=>rows[i].length - k) ⟨(sR (bw hl1 hv6)),Nat.zero_le _,rfl⟩ ?_
  rintro k tm2 st2 ⟨hv,hk,rfl⟩ hS
  obtain⟨hw8,hw6⟩:=mv2 hv
  have hl2:tm2.length=65:=lN hS hl1;have k0:tg tm2 0=V:=tQ hS (bw4 hl1 i0 hv7 hv5);have k7:tg tm2 7=iv i:=tQ hS (bw4 hl1 i0 hv7 hv5);have k5:tg tm2 5 = .str (toB (joinL (rows.take i))):=tQ hS (bw4 hl1 i0 hv7 hv5);clear hS
  refine go2 (bw4 hl2 hw8 k0 k7) fnil ?_
  refine⟨decide ((k:Int)<rows[i].length),(sG hl2),fun hb=>?_,fun hb2=>?_⟩
  ·have hlt2:=of_decide_eq_false hb
   have hkn:k=rows[i].length:=by omega
   rw[hkn] at hw6
   refine go2 (bw4 hl2 k0 k7 k5) fnil ?_
   refine wops_add (s:=joinL (rows.take i)) (t:=rows[i]) rfl rfl (sR hl2) (sR hl2) (by omega) ?_
   refine wops_add (t:=[10]) rfl rfl (sR hl2) (sR hl2) (by simp only[List.length_append,List.length_cons,List.length_nil];omega) ?_
   refine go2 (bw3 hl2 k7 hw1) fnil ?_
   rw[joinL_take hlt]
   refine⟨?_,by omega,rfl⟩
   have ea:allSum rows (i+1)=allSum rows i+rowSum i rows[i] rows[i].length:=by simp only[allSum,hgi]
   rw[ea]
   simp only[↓reduceIte,go_sem,hl2,hw6]
  ·have hk2:k<rows[i].length:=by have:=of_decide_eq_true hb2;omega
   have hgk:rows[i].getD k 0=rows[i][k]:=by rw[List.getD_eq_getElem?_getD,List.getElem?_eq_getElem hk2];rfl
   have hix:=getElem?_toB rows[i] k hk2
   have hrb:=rowSum_bound (i:=i) (r:=rows[i]) (by omega) (k+1) (by omega)
   generalize hbd:rows[i][k]=b at hix hgk
   have hb255:b.toNat<256:=b.toNat_lt
   have hk0:((0:Int)≤(k:Int))=True:=by simp
   have w46:IntKind.wrap .i64 (b.toNat:Int)=(b.toNat:Int):=wrap_nat (by omega)
   have w48:=wS k (by omega)
   have b1:b.toNat*(k+1)≤255*16:=Nat.mul_le_mul (by omega) (by omega)
   have b2:b.toNat*(k+1)*(i+1)≤255*16*151:=Nat.mul_le_mul b1 (by omega)
   have w49:IntKind.wrap .i64 ((b.toNat:Int)*((k+1:Nat):Int))=((b.toNat*(k+1):Nat):Int):=by rw[← Int.natCast_mul];exact wrap_nat (by omega)
   have w52:IntKind.wrap .i64 (((b.toNat*(k+1):Nat):Int)*((i+1:Nat):Int))=((b.toNat*(k+1)*(i+1):Nat):Int):=by rw[← Int.natCast_mul];exact wrap_nat (by omega)
   have e53:allSum rows i+rowSum i rows[i] (k+1)=allSum rows i+rowSum i rows[i] k+b.toNat*(k+1)*(i+1):=by simp only[rowSum,hgk];omega
   have w53:IntKind.wrap .i64 (((allSum rows i+rowSum i rows[i] k:Nat):Int)+((b.toNat*(k+1)*(i+1):Nat):Int))=((allSum rows i+rowSum i rows[i] (k+1):Nat):Int):=by
    rw[← Int.natCast_add,← e53];exact wrap_nat (by omega)
   refine⟨by omega,?_⟩
   refine go2 (bw15 hl2 hw8 hw6 k0 k7 @op_indexStr hk0 Int.toNat_natCast hix w46 w48 w49 hw1 w52 w53) fnil ?_
   refine⟨?_,by omega,rfl⟩
   simp only[↓reduceIte,go_sem,hl2]
set_option maxHeartbeats 8000000 in
theorem c76(b:BP)(h:OkB b.bk)(st:St):Cl EE (.func 76 [] []) [b.pv] st (.ret (.str (toB (textV b.bk)))) st:=by
 have hB:=b.h
 have hP:=OkP.of h
 have hc5:b.cs.length≤5:=by have:=h.c5;simpa using this
 have hrl:=rowsV_many h
 have hrows:=rowsV_len h
 refine cF1 pr76 fn76 (fun tm hl h0=>?_)
 have hh:∀ (o:Own) st,Cl EE (.func 125 [] []) [.str (toB bookW),.slice o 1 [iv b.words]] st (.ret (.str (toB (rowL bookW [b.words])))) st:=fun o st=>c125 bookW _ [b.words] ⟨rfl,fun _ _=>rfl⟩ (by simpa using hP.w) (by simp) (by decide) st
 refine go2 (bw hl h0) (bw hh fnil) ?_
 refine wp_for [4,3] (fun i vs st'=>∃ v,vs=[iv i,v]∧i≤b.cs.length∧OwnS (st.heap.length+1) st' 1 v (rowsK b.bk i).length ((rowsK b.bk i).flatMap encS)∧st.heap.length≤st'.lo∧st'.lo≤st'.heap.length∧hp st' st.heap.length=some (.var [iv b.words,b.v])) (fun i=>b.cs.length - i) ⟨_,(sR hl),Nat.zero_le _,⟨by simp[rowsK,encS],.inr ⟨st.heap.length+2,by simp[rowsK,encS],by omega,(sG fnil)⟩⟩,by simp only[lo_push];omega,by simp only[lo_push,len_push];omega,(sG fnil)⟩ ?_
 rintro i tm1 st1 ⟨v,hv,hi,hO,hlo,hwf,hbx⟩ hS
 obtain⟨hv4,hv3⟩:=mv2 hv
 have mb:=hp_lt hbx
 have hl1:tm1.length=58:=lN hS hl;have i1:tg tm1 1 = .ptr st.heap.length 0:=tQ hS hl;clear hS
 refine go2 (bw4 hl1 hv4 i1 hbx) fnil ?_
 refine⟨decide ((i:Int)<b.cs.length),(sG hl1),fun hb=>?_,fun hb1=>?_⟩
 ·have hlt:=of_decide_eq_false hb
  have hin:i=b.cs.length:=by omega
  have her:rowsK b.bk b.cs.length=rowsV b.bk:=by rw[rowsK,rowsV,List.take_of_length_le (by simp)]
  rw[hin,her] at hO
  have hV:SlOf 1 encS v (rowsV b.bk):=SlOf.of_sl hO.sl rfl rfl (fun _=>rfl)
  have q126:=fun st=>c126 v (rowsV b.bk) hV (fun r hr=>by have:=hrows r hr;omega) (by omega) st
  have ht:sealL (rowsV b.bk) 197=textV b.bk:=rfl
  rw[ht] at q126
  refine go2 (bw hl1 hv3) (bw q126 fnil) ?_
  exact fnq_flat (results_one (by rw[rdRes_tmp];simp only[↓reduceIte,go_sem,hl1];first|done|rfl)) hlo (by rfl)
 ·have hlt:i<b.cs.length:=by have:=of_decide_eq_true hb1;omega
  have hw1:=wS i (by omega)
  have hC:=b.cs[i].h
  have hks:=rowsK_succ b hlt
  have hkl:=rowsK_le b.bk (i+1)
  have hcc:(copyRows b.cs[i].c).length=b.cs[i].ls.length+1:=by simp[copyRows]
  have hkl2:(rowsK b.bk i).length+(b.cs[i].ls.length+1)≤26:=by rw[hks,List.length_append] at hkl;omega
  refine⟨by omega,?_⟩
  refine go2 (bw hl1 hv3) fnil ?_
  refine aP (bw hl1 hv3) (hO.push) ?_
  intro v1 s2 hO2 hF2 hk2
  have y1:=hF2.lo
  have y2:=hF2.up
  have y3:=hF2.len
  simp only[lo_push,len_push] at y1 y2 y3
  have e0:hp s2 st.heap.length=some (.var [iv b.words,b.v]):=hk2 _ _ (by rw[hp_push,if_neg (by omega)];exact hbx) (by simp)
  refine go2 hl1 fnil ?_
  refine wp_for [5,3] (fun q vs s'=>∃ u,vs=[iv q,u]∧q≤b.cs[i].ls.length∧OwnS (st.heap.length+1) s' 1 u (rowsK b.bk i++copyW::(b.cs[i].c.take q).map lnRow).length ((rowsK b.bk i++copyW::(b.cs[i].c.take q).map lnRow).flatMap encS)∧st.heap.length≤s'.lo∧s'.lo≤s'.heap.length∧hp s' st.heap.length=some (.var [iv b.words,b.v])) (fun q=>b.cs[i].ls.length - q) ⟨v1,(sR hl1),Nat.zero_le _,by simpa[share_str,encS,copyW] using hO2,by omega,by omega,e0⟩ ?_
  clear hO hlo hwf hbx mb hO2 e0 y1 y2 y3
  rintro q tm2 s3 ⟨u,hv,hq,hO,hlo,hwf,hbx⟩ hS2
  obtain⟨hv5,hu⟩:=mv2 hv
  have mb:=hp_lt hbx
  have hl2:tm2.length=58:=lN hS2 hl1;have k1:tg tm2 1 = .ptr st.heap.length 0:=tQ hS2 (bw3 hl1 i1 hv4);have k4:tg tm2 4=iv i:=tQ hS2 (bw3 hl1 i1 hv4);clear hS2
  refine go2 (bw5 hl2 hv5 k1 k4 hbx) fnil ?_
  refine⟨decide ((q:Int)<b.cs[i].ls.length),(sG hl2),fun hb=>?_,fun hb2=>?_⟩
  ·have hlt2:=of_decide_eq_false hb
   have hqn:q=b.cs[i].ls.length:=by omega
   rw[hqn,List.take_of_length_le (by simp)] at hO
   refine go2 (bw3 hl2 k4 hw1) fnil ?_
   refine⟨u,(sG (bw hl2 hu)),by omega,?_,hlo,hwf,hbx⟩
   rw[hks,copyRows];exact hO
  ·have hlt2:q<b.cs[i].ls.length:=by have:=of_decide_eq_true hb2;omega
   have hw2:=wS q (by omega)
   have hqc:q<b.cs[i].c.length:=by simpa using hlt2
   have hqs:(b.cs[i].c.take (q+1)).map lnRow=(b.cs[i].c.take q).map lnRow++[lnRow b.cs[i].ls[q].ln]:=by rw[List.take_succ_eq_append_getElem hqc,List.map_append];simp
   have hll:(rowsK b.bk i++copyW::(b.cs[i].c.take q).map lnRow).length≤450:=by simp only[List.length_append,List.length_cons,List.length_map,List.length_take];omega
   refine⟨by omega,?_⟩
   cases hlost:b.cs[i].ls[q].lost
   ·have hn:=hP.n _ (List.getElem_mem hlt) _ (List.getElem_mem hlt2) hlost
    have h4:b.cs[i].ls[q].l.length≤4:=(CP.len4 h (List.getElem_mem hlt)).2 _ (List.getElem_mem hlt2)
    have kv:=fun st=>c125 lineW b.cs[i].ls[q].w b.cs[i].ls[q].l b.cs[i].ls[q].h hn h4 (by decide) st
    have hrow:lnRow b.cs[i].ls[q].ln=rowL lineW b.cs[i].ls[q].l:=by simp[lnRow,hlost]
    refine go2 (bw7 hl2 k1 k4 hv5 hu hbx hlost) (bw kv fnil) ?_
    refine aP (bw hl2 hu) (hO.push) ?_
    intro u' s4 hO4 hF4 hk4'
    have z1:=hF4.lo
    have z2:=hF4.up
    have z3:=hF4.len
    simp only[lo_push,len_push] at z1 z2 z3
    refine go2 (bw3 hl2 hv5 hw2) fnil ?_
    refine⟨u',(sG hl2),by omega,?_,by omega,by omega,hk4' _ _ (sG (bw hbx (n4 mb))) (by simp)⟩
    rw[hqs,hrow]
    simpa[share_str,encS,Nat.add_assoc] using hO4
   ·have hrow:lnRow b.cs[i].ls[q].ln=lostW:=by simp[lnRow,hlost]
    refine go2 (bw7 hl2 k1 k4 hv5 hu hbx hlost) fnil ?_
    refine aP (bw hl2 hu) (hO.push) ?_
    intro u' s4 hO4 hF4 hk4'
    have z1:=hF4.lo
    have z2:=hF4.up
    have z3:=hF4.len
    simp only[lo_push,len_push] at z1 z2 z3
    refine go2 (bw3 hl2 hv5 hw2) fnil ?_
    refine⟨u',(sG hl2),by omega,?_,by omega,by omega,hk4' _ _ (sG (bw hbx (n4 mb))) (by simp)⟩
    rw[hqs,hrow]
    simpa[share_str,encS,Nat.add_assoc,lostW] using hO4
end Go.Den.Ve
end
section
namespace Go.Den.Ve
theorem kn_ok:bookB knownK=true:=by decide +kernel
theorem kn1:lev [0,2] [0,1,1,2]=2:=by decide +kernel
theorem kn2:stepsL [0,2] [0,1,1,2]=[(1,0),(3,1),(3,1),(1,2)]:=by decide +kernel
theorem kn3:betweenL 3 [0,2] [0,1,1,2]=[[0,2],[0,1,2],[0,1,1,2]]:=by decide +kernel
theorem kn4:leastB knownK 1=[[1],[1,1],[1,2]]∧manyB knownK 1=2:=by decide +kernel
theorem kn5:commonB knownK 1=[1]:=by decide +kernel
theorem kn6:wholeT knownK=[[0,1,2],[1]]∧wholeN knownK=3∧wholeC knownK=4:=by decide +kernel
theorem kn7:farLow knownK 0=0∧farHigh knownK 0=1:=by decide +kernel
theorem kn8:askB knownK=some (1,1,4):=by decide +kernel
theorem kn9:bestF (fun x y:List Int×Int=>decide (x.2<y.2)) (treesT knownK [[0,2],[1]])=some ([3,-1,0,-1],4):=by decide +kernel
theorem kn10:mixB knownK 3=some (0,1,1,1):=by decide +kernel
def known2:BK:=⟨2,[[⟨false,[1,0]⟩,⟨true,[]⟩]]⟩
def knownT:List UInt8:=[98,111,111,107,32,50,10,99,111,112,121,10,108,105,110,101,32,49,32,48,10,108,111,115,116,10,101,110,100,32,49,52,51,10]
theorem kn11:textV known2=knownT:=by decide +kernel
theorem kn12:bookB known2=true:=by decide +kernel
theorem kn13:readV knownT=(known2,0):=by rw[← kn11];exact read_textV (bookB_iff.1 kn12)
theorem kn14:lineB 3 [0,2]=true∧lineB 3 [0,1,1,2]=true:=by decide +kernel
theorem kn15:txtB knownK [[0,2],[1]]=true:=by decide +kernel
end Go.Den.Ve
end

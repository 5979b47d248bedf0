/- Part of the proofs of laws of the package version. Texts: VwV, VwW. -/
import Derived.Test.YtehdcjbdhkkipaaGreatDoorVLBc
import Derived.Test.YtehdcjbdhkkipaaGreatDoorVLBb
set_option linter.unusedSimpArgs false
set_option linter.unusedVariables false
section
namespace Go.Den.Ve
set_option maxHeartbeats 4000000 in
theorem c30H(b:BP)(hN:SmB b)(hM:∀ c∈b.cs,∀ x∈c.ls,x.l.length<1000000)(t:Nat)(st:St)(ha:hp st t=some (.arr (b.cs.map CP.v))):Cl EE (.func 30 [] []) [.agg [iv b.words,.hslice t 1 b.cs.length]] st (.ret (.bool (bookB b.bk))) st:=by
 have ha0:hp { heap:=st.heap,lo:=st.heap.length } t=some (.arr (b.cs.map CP.v)):=ha
 have hll0:=hp_lt ha
 have hI:∀ (i:Nat) S,i<b.cs.length→idxR 1 (.hslice t 1 b.cs.length) (.int .i64 (i:Int)) S=some (.val (.aptr t (i*1)) S):=fun i S h=>by rw[idxR_h,if_pos h]
 have hLd:∀ (i:Nat) (h:i<b.cs.length) S,hp S t=some (.arr (b.cs.map CP.v))→ldR false 1 (.aptr t (i*1)) S=some (.val b.cs[i].v S):=fun i h S hA=>by
  rw[ldR_aptr hA,Nat.mul_one,if_pos (by rw[List.length_map];omega),List.drop_eq_getElem_cons (by rw[List.length_map];exact h),List.getElem_map]
  rfl
 have hn:=hN.n
 refine cF1 pr30 fn30 (fun tm hl h0=>?_)
 have k1:=fun st=>c79 b.words 1 3 st
 have k2:=fun st=>c79 (b.cs.length:Int) 1 5 st
 cases hA:inN b.words 1 3
 ·have e:bookB b.bk=false:=by simp[bookB,hA]
  rw[e]
  rw[hA] at k1
  refine go2 (bw3 hl h0 hA) (bw k1 fnil) ?_
  exact fQ hl
 rw[hA] at k1
 have hw:OkW b.words:=by simp only[inN,Bool.and_eq_true,decide_eq_true_eq] at hA;exact⟨hA.1,hA.2⟩
 cases hL:inN (b.cs.length:Int) 1 5
 ·have e:bookB b.bk=false:=by simp[bookB,hA,hL]
  rw[e]
  rw[hL] at k2
  refine go2 (bw4 hl h0 hA hL) (bw3 k1 k2 fnil) ?_
  exact fQ hl
 rw[hL] at k2
 have hp0:0<b.cs.length:=by simp only[inN,Bool.and_eq_true,decide_eq_true_eq] at hL;omega
 have hl1b:=lines1_bk b hp0
 have hI0:∀ S,idxR 1 (.hslice t 1 b.cs.length) (.int .i64 0) S=some (.val (.aptr t 0) S):=fun S=>hI 0 S hp0
 have hL0:∀ S,hp S t=some (.arr (b.cs.map CP.v))→ldR false 1 (.aptr t 0) S=some (.val b.cs[0].v S):=fun S h=>hLd 0 hp0 S h
 have hLr:∀ (i:Nat) (h:i<b.cs.length),rdPart false 1 ((b.cs.map CP.v).drop (i*1))=some b.cs[i].v:=fun i h=>by
  rw[Nat.mul_one,List.drop_eq_getElem_cons (by rw[List.length_map];exact h),List.getElem_map];rfl
 refine go2 (bw4 hl h0 hA hL) (bw3 k1 k2 fnil) ?_
 refine wp_for [3] (fun i vs S=>vs=[iv i]∧i≤b.cs.length∧(∀ c∈b.cs.take i,copyB b.bk c.c=true)∧hp S st.heap.length=some (.var [iv b.words,.hslice t 1 b.cs.length])∧hp S t=some (.arr (b.cs.map CP.v))∧st.heap.length≤S.lo∧S.lo≤S.heap.length) (fun i=>b.cs.length - i) ⟨(sR hl),Nat.zero_le _,by simp,(sG fnil),(sG (bw ha0 (n4 hll0))),by simp only[lo_push];omega,by simp only[lo_push,len_push];omega⟩ ?_
 rintro i tm1 S ⟨hv,hi,hall,d0,dA,hlo,hwf⟩ hS
 replace hv:=mv1 hv
 have hl1:tm1.length=75:=lN hS hl;have i1:tg tm1 1 = .ptr st.heap.length 0:=tQ hS hl;clear hS
 have ld0:=hp_lt d0
 have lA:=hp_lt dA
 refine go2 (bw5 hl1 hv i1 d0 (n4 ld0)) fnil ?_
 refine⟨decide ((i:Int)<b.cs.length),(sG hl1),fun hb=>?_,fun hb=>?_⟩
 ·have hlt:=of_decide_eq_false hb
  have hin:i=b.cs.length:=by omega
  rw[hin,List.take_length] at hall
  have hz:((0:Nat):Int)=0:=rfl
  have k3:=fun st=>c79 (b.cs[0].ls.length:Int) 1 4 st
  have e:bookB b.bk=inN (b.cs[0].ls.length:Int) 1 4:=by
   have h1:b.bk.copies.all (copyB b.bk)=true:=List.all_eq_true.2 fun c hc=>by obtain⟨x,hx,rfl⟩:=List.mem_map.1 hc;exact hall x hx
   have h2:inN (b.bk.copies.length:Int) 1 5=true:=by simpa using hL
   have h3:inN b.bk.words 1 3=true:=hA
   rw[bookB,h1,h2,h3,hl1b];simp
  rw[e]
  refine go2 (bw7 hl1 i1 d0 (n4 ld0) @op_indexAddrM hI0 (hL0 S dA)) (bw k3 fnil) ?_
  exact fQ hl1
 ·have hlt:i<b.cs.length:=by have:=of_decide_eq_true hb;omega
  have hC:=b.cs[i].h
  have hC0:=b.cs[0].h
  have hcn:=hN.k _ (List.getElem_mem hlt)
  have hIi:∀ S,idxR 1 (.hslice t 1 b.cs.length) (.int .i64 (i:Int)) S=some (.val (.aptr t (i*1)) S):=fun S=>hI i S hlt
  have hw1:=wS i (by omega)
  refine⟨by omega,?_⟩
  have bad:copyB b.bk b.cs[i].c=false→bookB b.bk=false:=fun h=>by
   have h1:b.bk.copies.all (copyB b.bk)=false:=List.all_eq_false.2 ⟨b.cs[i].c,List.mem_map.2 ⟨_,List.getElem_mem hlt,rfl⟩,by simp[h]⟩
   rw[bookB,h1];simp
  cases hne:((b.cs[i].ls.length:Int) != (b.cs[0].ls.length:Int))
  ·have heq:b.cs[i].ls.length=lines1 b.bk:=by rw[hl1b];have:=bne_eq_false_iff_eq.1 hne;omega
   refine go2 (bw9 hl1 hv i1 d0 hne (n4 ld0) @op_indexAddrM hIi hI0) fnil ?_
   refine wopsD_ldA (v:=b.cs[i].v) (cs:=b.cs.map CP.v) (off:=i*1) (by omega) rfl rfl (sR hl1) dA (by rw[List.length_map];omega) (hLr i hlt) ?_
   refine go2 (bw9 hl1 hv i1 d0 hne (n4 ld0) @op_indexAddrM hIi hI0) fnil ?_
   refine wopsD_ldA (v:=b.cs[0].v) (cs:=b.cs.map CP.v) (off:=0) (by omega) rfl rfl (sR hl1) dA (by omega) (hLr 0 hp0) ?_
   refine go2 (bw9 hl1 hv i1 d0 hne (n4 ld0) @op_indexAddrM hIi hI0) fnil ?_
   refine wp_for [4] (fun j vs S'=>vs=[iv j]∧j≤b.cs[i].ls.length∧(∀ x∈b.cs[i].ls.take j,lnB b.words x.ln=true)∧hp S' st.heap.length=some (.var [iv b.words,.hslice t 1 b.cs.length])∧hp S' t=some (.arr (b.cs.map CP.v))∧st.heap.length≤S'.lo∧S'.lo≤S'.heap.length) (fun j=>b.cs[i].ls.length - j) ⟨(sR hl1),Nat.zero_le _,by simp,d0,dA,hlo,hwf⟩ ?_
   clear d0 dA hlo hwf ld0 lA
   rintro j tm2 S2 ⟨hv4,hj,hall2,d0,dA,hlo,hwf⟩ hS2
   replace hv4:=mv1 hv4
   have hl2:tm2.length=75:=lN hS2 hl1;have k1':tg tm2 1 = .ptr st.heap.length 0:=tQ hS2 (bw3 hl1 i1 hv);have k3:tg tm2 3=iv i:=tQ hS2 (bw3 hl1 i1 hv);clear hS2
   have ld0:=hp_lt d0
   have lA:=hp_lt dA
   refine go2 (bw9 hl2 hv4 k1' k3 d0 (n4 ld0) @op_indexAddrM hIi (hLd i hlt S2 dA)) fnil ?_
   refine⟨decide ((j:Int)<b.cs[i].ls.length),(sG hl2),fun hb2=>?_,fun hb2=>?_⟩
   ·have hlt2:=of_decide_eq_false hb2
    have hjn:j=b.cs[i].ls.length:=by omega
    rw[hjn,List.take_length] at hall2
    refine go2 (bw3 hl2 k3 hw1) fnil ?_
    refine⟨(sG hl2),by omega,fun c hc=>?_,d0,dA,hlo,hwf⟩
    rw[List.take_succ_eq_append_getElem hlt] at hc
    rcases List.mem_append.1 hc with hc|hc
    ·exact hall c hc
    ·rw[List.mem_singleton.1 hc]
     simp only[copyB,Bool.and_eq_true,decide_eq_true_eq,List.all_eq_true]
     exact⟨by simpa using heq,fun x hx=>by obtain⟨y,hy,rfl⟩:=List.mem_map.1 hx;exact hall2 y hy⟩
   ·have hlt2:j<b.cs[i].ls.length:=by have:=of_decide_eq_true hb2;omega
    have hw2:=wS j (by omega)
    have hX:=b.cs[i].ls[j].h
    refine⟨by omega,?_⟩
    have bad2:lnB b.words b.cs[i].ls[j].ln=false→bookB b.bk=false:=fun h=>bad (by
     have h1:b.cs[i].c.all (lnB b.bk.words)=false:=List.all_eq_false.2 ⟨b.cs[i].ls[j].ln,List.mem_map.2 ⟨_,List.getElem_mem hlt2,rfl⟩,by simpa using h⟩
     rw[copyB,h1,Bool.and_false])
    have kc:=fun st=>c24 b.words (.hslice t 1 b.cs.length) rfl rfl hw b.cs[i].ls[j].w b.cs[i].ls[j].l hX (hM _ (List.getElem_mem hlt) _ (List.getElem_mem hlt2)) st
    have good:lnB b.words b.cs[i].ls[j].ln=true→∀ x∈b.cs[i].ls.take (j+1),lnB b.words x.ln=true:=fun h x hx=>by
     rw[List.take_succ_eq_append_getElem hlt2] at hx
     rcases List.mem_append.1 hx with hx|hx
     ·exact hall2 x hx
     ·rw[List.mem_singleton.1 hx];exact h
    have hg:lnB b.words b.cs[i].ls[j].ln=(lineB b.words b.cs[i].ls[j].l&&!(b.cs[i].ls[j].lost&&decide ((b.cs[i].ls[j].l.length:Int)>0))):=by
     unfold lnB
     congr 3
     show (!b.cs[i].ls[j].l.isEmpty)=_
     cases b.cs[i].ls[j].l <;> simp
    cases hln:lineB b.words b.cs[i].ls[j].l
    ·rw[bad2 (by rw[hg,hln];rfl)]
     rw[hln] at kc
     refine go2 (bw10 hl2 hv4 k1' k3 d0 hln (n4 ld0) @op_indexAddrM hIi (hLd i hlt S2 dA)) (bw kc fnil) ?_
     exact fQ hl2
    ·rw[hln] at kc
     rw[hln,Bool.true_and] at hg
     cases hlo2:b.cs[i].ls[j].lost
     ·rw[hlo2] at hg
      refine go2 (bw12 hl2 hv4 k1' k3 d0 hln hlo2 hw2 (n4 ld0) @op_indexAddrM hIi (hLd i hlt S2 dA)) (bw kc fnil) ?_
      exact⟨(sG hl2),by omega,good (by rw[hg];rfl),(sG (bw d0 (n4 ld0))),(sG (bw dA (n4 lA))),by simp only[lo_setVar,lo_push];omega,by simp only[lo_setVar,lo_push,len_setVar,len_push];omega⟩
     ·rw[hlo2,Bool.true_and] at hg
      cases hz:decide ((b.cs[i].ls[j].l.length:Int)>0)
      ·rw[hz] at hg
       refine go2 (bw13 hl2 hv4 k1' k3 d0 hln hlo2 hz hw2 (n4 ld0) @op_indexAddrM hIi (hLd i hlt S2 dA)) (bw kc fnil) ?_
       exact⟨(sG hl2),by omega,good (by rw[hg];rfl),(sG (bw d0 (n4 ld0))),(sG (bw dA (n4 lA))),by simp only[lo_setVar,lo_push];omega,by simp only[lo_setVar,lo_push,len_setVar,len_push];omega⟩
      ·rw[hz] at hg
       rw[bad2 (by rw[hg];rfl)]
       refine go2 (bw12 hl2 hv4 k1' k3 d0 hln hlo2 hz (n4 ld0) @op_indexAddrM hIi (hLd i hlt S2 dA)) (bw kc fnil) ?_
       exact fQ hl2
  ·have hco:copyB b.bk b.cs[i].c=false:=by
    have:decide (b.cs[i].c.length=lines1 b.bk)=false:=by
     rw[hl1b]
     have:=bne_iff_ne.1 hne
     simp;omega
    rw[copyB,this,Bool.false_and]
   rw[bad hco]
   refine go2 (bw9 hl1 hv i1 d0 hne (n4 ld0) @op_indexAddrM hIi hI0) fnil ?_
   refine wopsD_ldA (v:=b.cs[i].v) (cs:=b.cs.map CP.v) (off:=i*1) (by omega) rfl rfl (sR hl1) dA (by rw[List.length_map];omega) (hLr i hlt) ?_
   refine go2 (bw9 hl1 hv i1 d0 hne (n4 ld0) @op_indexAddrM hIi hI0) fnil ?_
   refine wopsD_ldA (v:=b.cs[0].v) (cs:=b.cs.map CP.v) (off:=0) (by omega) rfl rfl (sR hl1) dA (by omega) (hLr 0 hp0) ?_
   refine go2 (bw9 hl1 hv i1 d0 hne (n4 ld0) @op_indexAddrM hIi hI0) fnil ?_
   exact fQ hl1
end Go.Den.Ve
end
section
namespace Go.Den.Ve
set_option maxHeartbeats 8000000 in
theorem c77H(a b:BP)(h:a.bk=b.bk)(hN:SmB a)(hM:∀ c∈a.cs,∀ x∈c.ls,x.l.length<1000000)(t:Nat)(st:St)(ht:hp st t=some (.arr (b.cs.map CP.v))):Cl EE (.func 77 [] []) [a.pv,.agg [iv b.words,.hslice t 1 b.cs.length]] st (.ret (.bool true)) st:=by
 have ht0:hp { heap:=st.heap,lo:=st.heap.length } t=some (.arr (b.cs.map CP.v)):=ht
 have htl:=hp_lt ht
 have hI:∀ (i:Nat) S,i<b.cs.length→idxR 1 (.hslice t 1 b.cs.length) (.int .i64 (i:Int)) S=some (.val (.aptr t (i*1)) S):=fun i S h=>by rw[idxR_h,if_pos h]
 have hLr:∀ (i:Nat) (h:i<b.cs.length),rdPart false 1 ((b.cs.map CP.v).drop (i*1))=some b.cs[i].v:=fun i h=>by
  rw[Nat.mul_one,List.drop_eq_getElem_cons (by rw[List.length_map];exact h),List.getElem_map];rfl
 have ha:=a.h
 have hn:=hN.n
 obtain⟨e1,e2,hall⟩:=same_at h
 have p1:(a.words != b.words)=false:=by rw[e1];simp
 have p2:((a.cs.length:Int) != b.cs.length)=false:=by rw[e2];simp
 refine cF2 pr77 fn77 (fun tm hl h0 h1=>?_)
 refine go2 (bw5 hl h0 h1 p1 p2) fnil ?_
 refine wp_for [5] (fun i vs S=>vs=[iv i]∧i≤a.cs.length∧S=(({ heap:=st.heap,lo:=st.heap.length }:St).push (.var [iv a.words,a.v])).push (.var [iv b.words,.hslice t 1 b.cs.length])) (fun i=>a.cs.length - i) ⟨(sR hl),Nat.zero_le _,rfl⟩ ?_
 rintro i tm1 S ⟨hv,hi,rfl⟩ hS
 replace hv:=mv1 hv
 have hl1:tm1.length=92:=lN hS hl;have i2:tg tm1 2 = .ptr st.heap.length 0:=tQ hS hl;have i3:tg tm1 3 = .ptr (st.heap.length+1) 0:=tQ hS hl;clear hS
 have dA:hp ((({ heap:=st.heap,lo:=st.heap.length }:St).push (.var [iv a.words,a.v])).push (.var [iv b.words,.hslice t 1 b.cs.length])) t=some (.arr (b.cs.map CP.v)):=by simp only[↓reduceIte,go_sem,ht0,n4 htl]
 refine go2 (bw3 hl1 hv i2) fnil ?_
 refine⟨decide ((i:Int)<a.cs.length),(sG hl1),fun hbi=>?_,fun hbi=>?_⟩
 ·refine go2 hl1 fnil ?_
  exact fQ hl1
 have hlt:i<a.cs.length:=by have:=of_decide_eq_true hbi;omega
 have hlt2:i<b.cs.length:=by omega
 have hwi:=wS i (by omega)
 refine⟨by omega,?_⟩
 obtain⟨e3,hin⟩:=hall i hlt
 have hA:=a.cs[i].h
 have hB:=b.cs[i].h
 have hak:=hN.k _ (List.getElem_mem hlt)
 have p3:((a.cs[i].ls.length:Int) != b.cs[i].ls.length)=false:=by rw[e3];simp
 have hIi:∀ S,idxR 1 (.hslice t 1 b.cs.length) (.int .i64 (i:Int)) S=some (.val (.aptr t (i*1)) S):=fun S=>hI i S hlt2
 refine go2 (bw7 hl1 hv i2 i3 p3 @op_indexAddrM hIi) fnil ?_
 refine wopsD_ldA (v:=b.cs[i].v) (cs:=b.cs.map CP.v) (off:=i*1) (by simp only[lo_push,len_push];omega) rfl rfl (sR hl1) dA (by rw[List.length_map];omega) (hLr i hlt2) ?_
 refine go2 (bw7 hl1 hv i2 i3 p3 @op_indexAddrM hIi) fnil ?_
 refine wp_for [6] (fun k vs S=>vs=[iv k]∧k≤a.cs[i].ls.length∧S=(({ heap:=st.heap,lo:=st.heap.length }:St).push (.var [iv a.words,a.v])).push (.var [iv b.words,.hslice t 1 b.cs.length])) (fun k=>a.cs[i].ls.length - k) ⟨(sR hl1),Nat.zero_le _,rfl⟩ ?_
 rintro k tm2 S ⟨hv6,hk,rfl⟩ hS2
 replace hv6:=mv1 hv6
 have hl2:tm2.length=92:=lN hS2 hl1;have j2:tg tm2 2 = .ptr st.heap.length 0:=tQ hS2 (bw4 hl1 i2 i3 hv);have j3:tg tm2 3 = .ptr (st.heap.length+1) 0:=tQ hS2 (bw4 hl1 i2 i3 hv);have j5:tg tm2 5=iv i:=tQ hS2 (bw4 hl1 i2 i3 hv);clear hS2
 refine go2 (bw4 hl2 hv6 j2 j5) fnil ?_
 refine⟨decide ((k:Int)<a.cs[i].ls.length),(sG hl2),fun hbk=>?_,fun hbk=>?_⟩
 ·refine go2 (bw3 hl2 j5 hwi) fnil ?_
  exact⟨(sG hl2),by omega,rfl⟩
 have hltk:k<a.cs[i].ls.length:=by have:=of_decide_eq_true hbk;omega
 have hltk2:k<b.cs[i].ls.length:=by omega
 have hwk:=wS k (by omega)
 refine⟨by omega,?_⟩
 obtain⟨e4,e5⟩:=hin k hltk
 have p4:(a.cs[i].ls[k].lost==b.cs[i].ls[k].lost)=true:=by rw[e4];simp
 have hXa:=a.cs[i].ls[k].h
 have hXb:=b.cs[i].ls[k].h
 have k27:=fun st=>c27 a.cs[i].ls[k].w b.cs[i].ls[k].w a.cs[i].ls[k].l b.cs[i].ls[k].l hXa hXb (hM _ (List.getElem_mem hlt) _ (List.getElem_mem hltk)) st
 rw[e5,beq_self_eq_true] at k27
 refine go2 (bw9 hl2 hv6 j2 j3 j5 p4 hwk @op_indexAddrM hIi) (bw k27 fnil) ?_
 refine wopsD_ldA (v:=b.cs[i].v) (cs:=b.cs.map CP.v) (off:=i*1) (by simp only[lo_push,len_push];omega) rfl rfl (sR hl2) dA (by rw[List.length_map];omega) (hLr i hlt2) ?_
 refine go2 (bw9 hl2 hv6 j2 j3 j5 p4 hwk @op_indexAddrM hIi) (bw k27 fnil) ?_
 refine wopsD_ldA (v:=b.cs[i].v) (cs:=b.cs.map CP.v) (off:=i*1) (by simp only[lo_push,len_push];omega) (sR hl2) (by with_reducible rfl) (sR hl2) dA (by rw[List.length_map];omega) (hLr i hlt2) ?_
 refine go2 (bw9 hl2 hv6 j2 j3 j5 p4 hwk @op_indexAddrM hIi) (bw k27 fnil) ?_
 exact⟨(sG hl2),by omega,rfl⟩
end Go.Den.Ve
end

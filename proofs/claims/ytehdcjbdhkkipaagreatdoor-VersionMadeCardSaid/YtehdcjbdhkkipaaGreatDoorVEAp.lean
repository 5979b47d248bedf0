/- Part of the proofs of laws of the package version. Texts: VwI, VxA, VxC, VxCb, VxD, VxF. -/
import Derived.Test.YtehdcjbdhkkipaaGreatDoorVEAo
set_option linter.unusedSimpArgs false
set_option linter.unusedVariables false
section
namespace Go.Den.Ve
def mixOk (b:BK) (n:Int) (x:T4):Bool:=inN x.1 0 (b.copies.length - 1)&&(inN x.2.1 0 (b.copies.length - 1)&&((x.1 != x.2.1)&&((x.1 != n)&&((x.2.1 != n)&&inN x.2.2.1 1 (lines1 b - 1)))))
set_option maxHeartbeats 4000000 in
theorem c61 (b:BP) (hB:OkB b.bk) (n:Int) (x:T4) (st:St):Cl EE (.func 61 [] []) [b.pv,iv n,.agg (enc4 x)] st (.ret (.bool (mixOk b.bk n x))) st:=by
 have hb:=b.h
 have hp0:=hB.pos
 have hl4:=hB.l4
 have hl1b:=lines1_bk b hp0
 have hC0:=b.cs[0].h
 have hsm:=hB.sm.n
 have hbl:(b.bk.copies.length:Int)=b.cs.length:=by simp
 have hw:IntKind.wrap .i64 ((b.cs[0].ls.length:Int) - 1)=b.cs[0].ls.length - 1:=wrap_in (by unfold inI;omega)
 have k1:=fun st=>c53 b hsm x.1 st
 have k2:=fun st=>c53 b hsm x.2.1 st
 have k3:=fun st=>c79 x.2.2.1 1 ((b.cs[0].ls.length:Int) - 1) st
 unfold mixOk
 rw [hl1b,hbl]
 refine cF3 pr61 fn61 (fun tm hl h0 h1 h2=>?_)
 cases e1:inN x.1 0 (b.cs.length - 1)
 ·rw [e1] at k1
  refine go2 (bw4 hl h0 h1 h2) (bw k1 fnil) ?_
  exact fQ hl
 rw [e1] at k1
 cases e2:inN x.2.1 0 (b.cs.length - 1)
 ·rw [e2] at k2
  refine go2 (bw4 hl h0 h1 h2) (bw3 k1 k2 fnil) ?_
  exact fQ hl
 rw [e2] at k2
 cases e3:(x.1 != x.2.1)
 ·refine go2 (bw5 hl h0 h1 h2 e3) (bw3 k1 k2 fnil) ?_
  exact fQ hl
 cases e4:(x.1 != n)
 ·refine go2 (bw6 hl h0 h1 h2 e3 e4) (bw3 k1 k2 fnil) ?_
  exact fQ hl
 cases e5:(x.2.1 != n)
 ·refine go2 (bw7 hl h0 h1 h2 e3 e4 e5) (bw3 k1 k2 fnil) ?_
  exact fQ hl
 refine go2 (bw8 hl h0 h1 h2 e3 e4 e5 hw) (bw4 k1 k2 k3 fnil) ?_
 exact fQ hl
structure MixI (b:BP) (n:Nat) (i j c:Nat):Prop where
 hi:i<b.cs.length
 hj:j<b.cs.length
 ij:i≠j
 ni:i≠n
 nj:j≠n
 c1:1≤c
 c2:c<lines1 b.bk
theorem mixOk_yes {b:BP} (hB:OkB b.bk) {n:Nat} {x:T4} (h:mixOk b.bk n x=true):∃ i j c:Nat,x=((i:Int),(j:Int),(c:Int),x.2.2.2)∧MixI b n i j c:=by
 simp only [mixOk,inN,Bool.and_eq_true,decide_eq_true_eq,bne_iff_ne,List.length_map] at h
 obtain ⟨h1,h2,h3,h4,h5,h6⟩:=h
 have hl:=hB.l4
 refine ⟨x.1.toNat,x.2.1.toNat,x.2.2.1.toNat,?_,⟨by omega,by omega,fun e=>h3 (by omega),fun e=>h4 (by omega),fun e=>h5 (by omega),by omega,by omega⟩⟩
 refine Prod.ext ?_ (Prod.ext ?_ (Prod.ext ?_ rfl))
 ·show x.1=(x.1.toNat:Int);omega
 ·show x.2.1=(x.2.1.toNat:Int);omega
 ·show x.2.2.1=(x.2.2.1.toNat:Int);omega
theorem mixOk_of {b:BP} (hB:OkB b.bk) {n i j c:Nat} {z:Int}:mixOk b.bk n ((i:Int),(j:Int),(c:Int),z)=true↔MixI b n i j c:=by
 have hl:=hB.l4
 simp only [mixOk,inN,Bool.and_eq_true,decide_eq_true_eq,bne_iff_ne,List.length_map]
 constructor
 ·rintro ⟨h1,h2,h3,h4,h5,h6⟩
  exact ⟨by omega,by omega,by omega,by omega,by omega,by omega,by omega⟩
 ·rintro ⟨h1,h2,h3,h4,h5,h6,h7⟩
  refine ⟨by omega,by omega,by omega,by omega,by omega,by omega⟩
def copiedK (F:List (List Int)) (c:List LN) (k:Nat):Int:=((List.range k).map fun i=>takenI (F.getD i []) (c.getD i ⟨true,[]⟩)).sum
theorem copiedK_all (F:List (List Int)) (c:List LN):copiedK F c c.length=copiedI F c:=rfl
theorem copiedK_succ (F:List (List Int)) (c:List LN) (k:Nat):copiedK F c (k+1)=copiedK F c k+takenI (F.getD k []) (c.getD k ⟨true,[]⟩):=by
 simp [copiedK,List.range_succ,List.sum_append_int]
def mixL (b:BP) (i j c k:Nat) (hi:i<b.cs.length) (hj:j<b.cs.length) (hik:k<b.cs[i].ls.length) (hjk:k<b.cs[j].ls.length):LP:=if k<c then b.cs[i].ls[k] else b.cs[j].ls[k]
theorem lines_at (b:BP) {i:Nat} (hi:i<b.cs.length):linesW (b.bk.copies.getD i [])=b.cs[i].ls.map LP.l:=by
 have:b.bk.copies.getD i []=b.cs[i].c:=by rw [List.getD_eq_getElem?_getD];simp [hi]
 rw [this]
 simp [linesW,Function.comp_def]
theorem mixW_lo (b:BP) {i j c k:Nat} (hi:i<b.cs.length) (hk:k<b.cs[i].ls.length) (hkc:k<c):(mixW b.bk i j c).getD k []=b.cs[i].ls[k].l:=by
 rw [mixW,lines_at b hi,List.getD_eq_getElem?_getD,List.getElem?_append_left (by simp;omega),List.getElem?_take,if_pos hkc]
 simp [hk]
theorem mixW_hi (b:BP) {i j c k:Nat} (hi:i<b.cs.length) (hj:j<b.cs.length) (hl:b.cs[i].ls.length=b.cs[j].ls.length) (hc:c≤b.cs[i].ls.length) (hk:k<b.cs[j].ls.length) (hkc:¬ k<c):(mixW b.bk i j c).getD k []=b.cs[j].ls[k].l:=by
 have e1:((b.cs[i].ls.map LP.l).take c).length=c:=by rw [List.length_take,List.length_map];omega
 rw [mixW,lines_at b hi,lines_at b hj,List.getD_eq_getElem?_getD,List.getElem?_append_right (by omega),e1,List.getElem?_drop]
 have:c+(k - c)=k:=by omega
 rw [this]
 simp [hk]
theorem copy_ln (b:BP) {n k:Nat} (hn:n<b.cs.length) (hk:k<b.cs[n].ls.length):(b.bk.copies.getD n []).getD k ⟨true,[]⟩=b.cs[n].ls[k].ln:=by
 have e1:b.bk.copies.getD n []=b.cs[n].c:=by rw [List.getD_eq_getElem?_getD];simp [hn]
 rw [e1,List.getD_eq_getElem?_getD]
 simp [hk]
theorem copy_len (b:BP) (hB:OkB b.bk) {n:Nat} (hn:n<b.cs.length):(b.bk.copies.getD n []).length=lines1 b.bk:=by
 have e1:b.bk.copies.getD n []=b.cs[n].c:=by rw [List.getD_eq_getElem?_getD];simp [hn]
 rw [e1]
 have:=(CP.okl hB (List.getElem_mem hn)).1
 simpa using this
theorem mix_line (b:BP) (hB:OkB b.bk) {n i j c:Nat} (hx:MixI b n i j c) {k:Nat} (hk:k<lines1 b.bk):lineB b.words ((mixW b.bk i j c).getD k [])=true:=by
 have oi:=CP.okl hB (List.getElem_mem hx.hi)
 have oj:=CP.okl hB (List.getElem_mem hx.hj)
 by_cases h:k<c
 ·rw [mixW_lo b hx.hi (by omega) h]
  exact (oi.2 _ (List.getElem_mem _)).1
 ·rw [mixW_hi b hx.hi hx.hj (by omega) (by have:=hx.c2;omega) (by omega) h]
  exact (oj.2 _ (List.getElem_mem _)).1
theorem mixK_in (b:BP) (hB:OkB b.bk) {n i j c:Nat} (hn:n<b.cs.length) (hx:MixI b n i j c):∀ {k:Nat},k≤lines1 b.bk→0≤copiedK (mixW b.bk i j c) (b.bk.copies.getD n []) k∧copiedK (mixW b.bk i j c) (b.bk.copies.getD n []) k≤4*k
 | 0,_=>by simp [copiedK]
 | k+1,hk=>by
  have h1:=mixK_in b hB hn hx (k:=k) (by omega)
  have on:=CP.okl hB (List.getElem_mem hn)
  have h2:=taken4 (x:=b.cs[n].ls[k]'(by omega)) (mix_line b hB hx (k:=k) (by omega)) (on.2 _ (List.getElem_mem _)).1
  rw [copiedK_succ,copy_ln b hn (by omega)]
  omega
set_option maxHeartbeats 8000000 in
theorem c62 (b:BP) (hB:OkB b.bk) (n:Nat) (hn:n<b.cs.length) (i j c:Nat) (hx:MixI b n i j c) (z:Int) (st:St):Cl EE (.func 62 [] []) [b.pv,iv n,.agg (enc4 ((i:Int),(j:Int),(c:Int),z))] st (.ret (iv (copiedI (mixW b.bk i j c) (b.bk.copies.getD n [])))) st:=by
 have hb:=b.h
 have hp0:=hB.pos
 have hl4:=hB.l4
 have hl1b:=lines1_bk b hp0
 have hC0:=b.cs[0].h
 have oi:=CP.okl hB (List.getElem_mem hx.hi)
 have oj:=CP.okl hB (List.getElem_mem hx.hj)
 have on:=CP.okl hB (List.getElem_mem hn)
 have hxi:=hx.hi
 have hxj:=hx.hj
 have hxc:=hx.c2
 have hCi:=(b.cs[i]'hxi).h
 have hCj:=(b.cs[j]'hxj).h
 have hCn:=b.cs[n].h
 refine cF3 pr62 fn62 (fun tm hl h0 h1 h2=>?_)
 refine go2 (bw3 hl h0 h2) fnil ?_
 refine wp_for [8,7] (fun k vs S=>vs=[iv k,iv (copiedK (mixW b.bk i j c) (b.bk.copies.getD n []) k)]∧k≤lines1 b.bk∧S=(({ heap:=st.heap,lo:=st.heap.length }:St).push (.var [iv b.words,b.v])).push (.var [iv i,iv j,iv c,iv z])) (fun k=>lines1 b.bk - k) ⟨(sR hl),Nat.zero_le _,rfl⟩ ?_
 rintro k tm1 S ⟨hv,hk,rfl⟩ hS
 simp only [List.map_cons,List.map_nil,List.cons.injEq,and_true] at hv
 obtain ⟨hv,hv7⟩:=hv
 have hl1:tm1.length=83:=lN hS hl;have i1:tg tm1 1=iv n:=tQ hS (bw hl h1);have i3:tg tm1 3 = .ptr st.heap.length 0:=tQ hS (bw hl h1);have i5:tg tm1 5 = .ptr (st.heap.length+1) 0:=tQ hS (bw hl h1);clear hS
 refine go2 (bw3 hl1 hv i3) fnil ?_
 refine ⟨decide ((k:Int)<b.cs[0].ls.length),(sG hl1),fun hbk=>?_,fun hbk=>?_⟩
 ·have hlt:=of_decide_eq_false hbk
  have hin:k=lines1 b.bk:=by omega
  rw [hin,← copy_len b hB hn,copiedK_all] at hv7
  refine go2 (bw hl1 hv7) fnil ?_
  exact fQ hl1
 have hlt:k<lines1 b.bk:=by have:=of_decide_eq_true hbk;omega
 have hki:k<(b.cs[i]'hxi).ls.length:=by omega
 have hkj:k<(b.cs[j]'hxj).ls.length:=by omega
 have hkn:k<b.cs[n].ls.length:=by omega
 have hw1:IntKind.wrap .i64 ((k:Int)+1)=((k+1:Nat):Int):=wrap_nat (n:=k+1) (by omega)
 refine ⟨by omega,?_⟩
 have hXi:=(b.cs[i]'hxi).ls[k].h
 have hXj:=(b.cs[j]'hxj).ls[k].h
 have hXn:=b.cs[n].ls[k].h
 have hs:=copiedK_succ (mixW b.bk i j c) (b.bk.copies.getD n []) k
 rw [copy_ln b hn hkn] at hs
 have hin1:=mixK_in b hB hn hx (k:=k) hk
 have hin2:=mixK_in b hB hn hx (k:=k+1) (by omega)
 have hline:=mix_line b hB hx hlt
 have hx2:=(on.2 _ (List.getElem_mem hkn)).1
 cases d:decide ((k:Int)≥(c:Int))
 ·have hd:=of_decide_eq_false d
  have hmw:=mixW_lo b (j:=j) hxi hki (show k<c by omega)
  rw [hmw] at hs hline
  cases hlo:b.cs[n].ls[k].lost
  ·have ht:takenI (b.cs[i]'hxi).ls[k].l b.cs[n].ls[k].ln=(lev (b.cs[i]'hxi).ls[k].l b.cs[n].ls[k].l:Nat):=by unfold takenI;simp [hlo]
   rw [ht] at hs
   have h4:=lev4 hline hx2
   have k26:=fun st=>c26y b hB (b.cs[i]'hxi).ls[k].w b.cs[n].ls[k].w (b.cs[i]'hxi).ls[k].l b.cs[n].ls[k].l hXi hXn hline hx2 st
   have z1:decide (((lev (b.cs[i]'hxi).ls[k].l b.cs[n].ls[k].l:Nat):Int)<0)=false:=decide_eq_false (by omega)
   have z2:decide (((lev (b.cs[i]'hxi).ls[k].l b.cs[n].ls[k].l:Nat):Int)>4)=false:=decide_eq_false (by omega)
   have hw2:=wrap_in (n:=copiedK (mixW b.bk i j c) (b.bk.copies.getD n []) k+((lev (b.cs[i]'hxi).ls[k].l b.cs[n].ls[k].l:Nat):Int)) (by unfold inI;omega)
   replace hw2:=hw2.trans hs.symm
   refine go2 (bw13 hl1 hv hv7 i1 i3 i5 d hlo hw1 hw2 z1 z2 zs) (bw k26 fnil) ?_
   exact ⟨(sG hl1),by omega,rfl⟩
  ·have ht:takenI (b.cs[i]'hxi).ls[k].l b.cs[n].ls[k].ln=0:=by unfold takenI;simp [hlo]
   rw [ht,Int.add_zero] at hs
   refine go2 (bw9 hl1 hv hv7 i1 i3 i5 d hlo hw1) fnil ?_
   exact ⟨(sG (bw3 hl1 hv7 hs)),by omega,rfl⟩
 ·have hd:=of_decide_eq_true d
  have hmw:=mixW_hi b (c:=c) hxi hxj (by omega) (by omega) hkj (show ¬ k<c by omega)
  rw [hmw] at hs hline
  cases hlo:b.cs[n].ls[k].lost
  ·have ht:takenI (b.cs[j]'hxj).ls[k].l b.cs[n].ls[k].ln=(lev (b.cs[j]'hxj).ls[k].l b.cs[n].ls[k].l:Nat):=by unfold takenI;simp [hlo]
   rw [ht] at hs
   have h4:=lev4 hline hx2
   have k26:=fun st=>c26y b hB (b.cs[j]'hxj).ls[k].w b.cs[n].ls[k].w (b.cs[j]'hxj).ls[k].l b.cs[n].ls[k].l hXj hXn hline hx2 st
   have z1:decide (((lev (b.cs[j]'hxj).ls[k].l b.cs[n].ls[k].l:Nat):Int)<0)=false:=decide_eq_false (by omega)
   have z2:decide (((lev (b.cs[j]'hxj).ls[k].l b.cs[n].ls[k].l:Nat):Int)>4)=false:=decide_eq_false (by omega)
   have hw2:=wrap_in (n:=copiedK (mixW b.bk i j c) (b.bk.copies.getD n []) k+((lev (b.cs[j]'hxj).ls[k].l b.cs[n].ls[k].l:Nat):Int)) (by unfold inI;omega)
   replace hw2:=hw2.trans hs.symm
   refine go2 (bw13 hl1 hv hv7 i1 i3 i5 d hlo hw1 hw2 z1 z2 zs) (bw k26 fnil) ?_
   exact ⟨(sG hl1),by omega,rfl⟩
  ·have ht:takenI (b.cs[j]'hxj).ls[k].l b.cs[n].ls[k].ln=0:=by unfold takenI;simp [hlo]
   rw [ht,Int.add_zero] at hs
   refine go2 (bw9 hl1 hv hv7 i1 i3 i5 d hlo hw1) fnil ?_
   exact ⟨(sG (bw3 hl1 hv7 hs)),by omega,rfl⟩
set_option maxHeartbeats 8000000 in
theorem c113 (b:BP) (hB:OkB b.bk) (n:Nat) (hn:n<b.cs.length) (i j c:Nat) (hx:MixI b n i j c) (z:Int) (st:St):Cl EE (.func 113 [] []) [b.pv,iv n,.agg (enc4 ((i:Int),(j:Int),(c:Int),z))] st (.ret (iv (copiedI (mixW b.bk i j c) (b.bk.copies.getD n [])))) st:=by
 have hb:=b.h
 have hp0:=hB.pos
 have hl4:=hB.l4
 have hl1b:=lines1_bk b hp0
 have hC0:=b.cs[0].h
 have oi:=CP.okl hB (List.getElem_mem hx.hi)
 have oj:=CP.okl hB (List.getElem_mem hx.hj)
 have on:=CP.okl hB (List.getElem_mem hn)
 have hxi:=hx.hi
 have hxj:=hx.hj
 have hxc:=hx.c2
 have hCn:=b.cs[n].h
 refine cF3 pr113 fn113 (fun tm hl h0 h1 h2=>?_)
 refine go2 (bw3 hl h0 h2) fnil ?_
 refine wp_for [8,7] (fun k vs S=>vs=[iv k,iv (copiedK (mixW b.bk i j c) (b.bk.copies.getD n []) k)]∧k≤lines1 b.bk∧hp S st.heap.length=some (.var [iv b.words,b.v])∧hp S (st.heap.length+1)=some (.var [iv i,iv j,iv c,iv z])∧st.heap.length≤S.lo∧S.lo≤S.heap.length) (fun k=>lines1 b.bk - k) ⟨(sR hl),Nat.zero_le _,(sG fnil),(sG fnil),by simp only [lo_push];omega,by simp only [lo_push,len_push];omega⟩ ?_
 rintro k tm1 S ⟨hv,hk,d0,d1,hlo,hwf⟩ hS
 simp only [List.map_cons,List.map_nil,List.cons.injEq,and_true] at hv
 obtain ⟨hv,hv7⟩:=hv
 have hl1:tm1.length=43:=lN hS hl;have i1:tg tm1 1=iv n:=tQ hS (bw hl h1);have i3:tg tm1 3 = .ptr st.heap.length 0:=tQ hS (bw hl h1);have i5:tg tm1 5 = .ptr (st.heap.length+1) 0:=tQ hS (bw hl h1);clear hS
 have ld0:=hp_lt d0
 have ld1:=hp_lt d1
 refine go2 (bw5 hl1 hv i3 d0 (n4 ld0)) fnil ?_
 refine ⟨decide ((k:Int)<b.cs[0].ls.length),(sG hl1),fun hbk=>?_,fun hbk=>?_⟩
 ·have hlt:=of_decide_eq_false hbk
  have hin:k=lines1 b.bk:=by omega
  rw [hin,← copy_len b hB hn,copiedK_all] at hv7
  refine go2 (bw hl1 hv7) fnil ?_
  exact fQ hl1
 have hlt:k<lines1 b.bk:=by have:=of_decide_eq_true hbk;omega
 have hki:k<(b.cs[i]'hxi).ls.length:=by omega
 have hkj:k<(b.cs[j]'hxj).ls.length:=by omega
 have hkn:k<b.cs[n].ls.length:=by omega
 have hw1:IntKind.wrap .i64 ((k:Int)+1)=((k+1:Nat):Int):=wrap_nat (n:=k+1) (by omega)
 refine ⟨by omega,?_⟩
 have hXn:=b.cs[n].ls[k].h
 have hs:=copiedK_succ (mixW b.bk i j c) (b.bk.copies.getD n []) k
 rw [copy_ln b hn hkn] at hs
 have hin1:=mixK_in b hB hn hx (k:=k) hk
 have hin2:=mixK_in b hB hn hx (k:=k+1) (by omega)
 have hline:=mix_line b hB hx hlt
 have hx2:=(on.2 _ (List.getElem_mem hkn)).1
 have hw2:=wrap_in (n:=copiedK (mixW b.bk i j c) (b.bk.copies.getD n []) k+takenI ((mixW b.bk i j c).getD k []) b.cs[n].ls[k].ln) (by rw [← hs];unfold inI;omega)
 replace hw2:=hw2.trans hs.symm
 cases d:decide ((k:Int)≥(c:Int))
 ·have hd:=of_decide_eq_false d
  have hmw:=mixW_lo b (j:=j) hxi hki (show k<c by omega)
  rw [hmw] at hline hw2
  refine go2 (bw9 hl1 hv i3 i5 d d0 d1 (n4 ld0) (n4 ld1)) fnil ?_
  refine wopsD_callQ rfl rfl (sR hl1) (by simp only [↓reduceIte,go_sem,hl1,hv,d0,n4 ld0];exact c146 b i k hxi hki _) (by intro v st1 hR;have:=hR.lo;simp only at this;omega) ?_
  intro v s2 hR
  have hV:SlOf 1 encI v (b.cs[i]'hxi).ls[k].l:=hR.own_sl (fun _=>rfl)
  have e0:hp s2 st.heap.length=some (.var [iv b.words,b.v]):=hR.hp d0
  have e1:hp s2 (st.heap.length+1)=some (.var [iv i,iv j,iv c,iv z]):=hR.hp d1
  have le0:=hp_lt e0
  have x1:=hR.lo
  have x2:=hR.len
  simp only at x1 x2
  have kt:=fun st=>c101 b.words v (b.cs[i]'hxi).ls[k].l hV b.cs[n].ls[k] hline hx2 st
  refine go2 (bw9 hl1 hv hv7 i1 i3 e0 hw1 hw2 (n4 le0)) (bw kt fnil) ?_
  exact ⟨(sG hl1),by omega,e0,e1,by simp only;omega,by simp only;omega⟩
 ·have hd:=of_decide_eq_true d
  have hmw:=mixW_hi b (c:=c) hxi hxj (by omega) (by omega) hkj (show ¬ k<c by omega)
  rw [hmw] at hline hw2
  refine go2 (bw9 hl1 hv i3 i5 d d0 d1 (n4 ld0) (n4 ld1)) fnil ?_
  refine wopsD_callQ rfl rfl (sR hl1) (by simp only [↓reduceIte,go_sem,hl1,hv,d0,n4 ld0];exact c146 b j k hxj hkj _) (by intro v st1 hR;have:=hR.lo;simp only at this;omega) ?_
  intro v s2 hR
  have hV:SlOf 1 encI v (b.cs[j]'hxj).ls[k].l:=hR.own_sl (fun _=>rfl)
  have e0:hp s2 st.heap.length=some (.var [iv b.words,b.v]):=hR.hp d0
  have e1:hp s2 (st.heap.length+1)=some (.var [iv i,iv j,iv c,iv z]):=hR.hp d1
  have le0:=hp_lt e0
  have x1:=hR.lo
  have x2:=hR.len
  simp only at x1 x2
  have kt:=fun st=>c101 b.words v (b.cs[j]'hxj).ls[k].l hV b.cs[n].ls[k] hline hx2 st
  refine go2 (bw9 hl1 hv hv7 i1 i3 e0 hw1 hw2 (n4 le0)) (bw kt fnil) ?_
  exact ⟨(sG hl1),by omega,e0,e1,by simp only;omega,by simp only;omega⟩
abbrev ltM (x y:T4):Bool:=decide (x.2.2.2<y.2.2.2)
theorem bestF_snoc {α:Type} (bt:α→α→Bool) (L:List α) (x:α):bestF bt (L++[x])=match bestF bt L with
  | none=>some x
  | some o=>if bt x o then some x else some o:=by
 rw [bestF,List.foldl_append];rfl
def outM (L:List T4):List PV:=match bestF ltM L with
 | some x=>enc4 x
 | none=>[iv 0,iv 0,iv 0,iv 0]
def mixC' (b:BK) (n i j m:Nat):List T4:=if i=j∨i=n∨j=n then [] else mixC b n i j m
theorem mixC'_all (b:BK) (n i j:Nat):mixC' b n i j (lines1 b - 1)=mix1 b n i j:=rfl
theorem mixC'_0 (b:BK) (n i j:Nat):mixC' b n i j 0=[]:=by unfold mixC';split <;> rfl
set_option maxHeartbeats 16000000 in
theorem c60 (b:BP) (hB:OkB b.bk) (n:Nat) (hn:n<b.cs.length) (st:St):Cl EE (.func 60 [] []) [b.pv,iv n] st (.ret (.tuple [.agg (outM (mixesK b.bk n b.cs.length)),.bool (mixB b.bk n).isSome])) st:=by
 have hb:=b.h
 have hp0:=hB.pos
 have hl4:=hB.l4
 have hl1:=hB.l1
 have hc5:=hB.c5
 have hl1b:=lines1_bk b hp0
 have hC0:=b.cs[0].h
 have hbl:b.bk.copies.length=b.cs.length:=by simp
 have hmb:mixB b.bk n=bestF ltM (mixesK b.bk n b.cs.length):=by rw [← hbl];rfl
 refine cF2 pr60 fn60 (fun tm hl h0 h1=>?_)
 refine go2 (bw hl h0) fnil ?_
 refine wp_for [8,7] (fun i vs S=>vs=[iv i,.bool (bestF ltM (mixesK b.bk n i)).isSome]∧i≤b.cs.length∧hp S st.heap.length=some (.var [iv b.words,b.v])∧hp S (st.heap.length+1)=some (.var [iv 0,iv 0,iv 0,iv 0])∧hp S (st.heap.length+2)=some (.var (outM (mixesK b.bk n i)))∧st.heap.length≤S.lo∧S.lo≤S.heap.length) (fun i=>b.cs.length - i) ⟨(sR hl),Nat.zero_le _,(sG fnil),(sG fnil),(sR fnil),by simp only [lo_push];omega,by simp only [lo_push,len_push];omega⟩ ?_
 rintro i tm1 S ⟨hv,hi,d0,d1,d2,hlo,hwf⟩ hS
 simp only [List.map_cons,List.map_nil,List.cons.injEq,and_true] at hv
 obtain ⟨hv8,hv7⟩:=hv
 have hl1':tm1.length=61:=lN hS hl;have i1:tg tm1 1=iv n:=tQ hS (bw hl h1);have i2:tg tm1 2 = .ptr st.heap.length 0:=tQ hS (bw hl h1);have i4:tg tm1 4 = .ptr (st.heap.length+1) 0:=tQ hS (bw hl h1);have i6:tg tm1 6 = .ptr (st.heap.length+2) 0:=tQ hS (bw hl h1);clear hS
 have ld0:=hp_lt d0
 have ld1:=hp_lt d1
 have ld2:=hp_lt d2
 refine go2 (bw5 hl1' hv8 i2 d0 (n4 ld0)) fnil ?_
 refine ⟨decide ((i:Int)<b.cs.length),(sG hl1'),fun hbi=>?_,fun hbi=>?_⟩
 ·have hlt:=of_decide_eq_false hbi
  have hin:i=b.cs.length:=by omega
  subst hin
  rw [hmb]
  obtain ⟨a1,a2,a3,a4,ha⟩:∃ a1 a2 a3 a4:Int,outM (mixesK b.bk n b.cs.length)=[iv a1,iv a2,iv a3,iv a4]:=by
   unfold outM
   split
   ·exact ⟨_,_,_,_,rfl⟩
   ·exact ⟨0,0,0,0,rfl⟩
  rw [ha] at d2 ⊢
  refine go2 (bw8 hl1' hv7 i4 i6 d1 d2 (n4 ld1) (n4 ld2)) fnil ?_
  exact fY (bw3 hl1' i4 (n4 ld1))
 have hlti:i<b.cs.length:=by have:=of_decide_eq_true hbi;omega
 have hwi:IntKind.wrap .i64 ((i:Int)+1)=((i+1:Nat):Int):=wrap_nat (n:=i+1) (by omega)
 refine ⟨by omega,?_⟩
 refine go2 hl1' fnil ?_
 refine wp_for [9,7] (fun j vs S=>vs=[iv j,.bool (bestF ltM (mixesK b.bk n i++mixK b.bk n i j)).isSome]∧j≤b.cs.length∧hp S st.heap.length=some (.var [iv b.words,b.v])∧hp S (st.heap.length+1)=some (.var [iv 0,iv 0,iv 0,iv 0])∧hp S (st.heap.length+2)=some (.var (outM (mixesK b.bk n i++mixK b.bk n i j)))∧st.heap.length≤S.lo∧S.lo≤S.heap.length) (fun j=>b.cs.length - j) ⟨by simp only [↓reduceIte,go_sem,hl1',hv7,mixK];simp,Nat.zero_le _,d0,d1,by simpa [mixK] using d2,hlo,hwf⟩ ?_
 clear d0 d1 d2 ld0 ld1 ld2 hlo hwf hv7
 rintro j tm2 S2 ⟨hv,hj,d0,d1,d2,hlo,hwf⟩ hS2
 simp only [List.map_cons,List.map_nil,List.cons.injEq,and_true] at hv
 obtain ⟨hv9,hv7⟩:=hv
 have hl2:tm2.length=61:=lN hS2 hl1';have j1:tg tm2 1=iv n:=tQ hS2 (bw5 hl1' i1 i2 i6 hv8);have j2:tg tm2 2 = .ptr st.heap.length 0:=tQ hS2 (bw5 hl1' i1 i2 i6 hv8);have j6:tg tm2 6 = .ptr (st.heap.length+2) 0:=tQ hS2 (bw5 hl1' i1 i2 i6 hv8);have j8:tg tm2 8=iv i:=tQ hS2 (bw5 hl1' i1 i2 i6 hv8);clear hS2
 have ld0:=hp_lt d0
 refine go2 (bw5 hl2 hv9 j2 d0 (n4 ld0)) fnil ?_
 refine ⟨decide ((j:Int)<b.cs.length),(sG hl2),fun hbj=>?_,fun hbj=>?_⟩
 ·have hlt:=of_decide_eq_false hbj
  have hin:j=b.cs.length:=by omega
  have hms:=mixesK_succ b.bk n i
  rw [hbl,← hin] at hms
  rw [← hms] at hv7 d2
  refine go2 (bw3 hl2 j8 hwi) fnil ?_
  exact ⟨(sG (bw hl2 hv7)),by omega,d0,d1,d2,hlo,hwf⟩
 have hltj:j<b.cs.length:=by have:=of_decide_eq_true hbj;omega
 have hwj:IntKind.wrap .i64 ((j:Int)+1)=((j+1:Nat):Int):=wrap_nat (n:=j+1) (by omega)
 refine ⟨by omega,?_⟩
 refine go2 hl2 fnil ?_
 refine wp_for [10,7] (fun m vs S=>vs=[iv ((m+1:Nat):Int),.bool (bestF ltM (mixesK b.bk n i++mixK b.bk n i j++mixC' b.bk n i j m)).isSome]∧m≤lines1 b.bk - 1∧hp S st.heap.length=some (.var [iv b.words,b.v])∧hp S (st.heap.length+1)=some (.var [iv 0,iv 0,iv 0,iv 0])∧hp S (st.heap.length+2)=some (.var (outM (mixesK b.bk n i++mixK b.bk n i j++mixC' b.bk n i j m)))∧st.heap.length≤S.lo∧S.lo≤S.heap.length) (fun m=>lines1 b.bk - m) ⟨by simp only [↓reduceIte,go_sem,hl2,hv7,mixC'_0,List.append_nil];first|done|rfl,Nat.zero_le _,d0,d1,by rw [mixC'_0,List.append_nil];exact d2,hlo,hwf⟩ ?_
 clear d0 d1 d2 ld0 hlo hwf hv7
 rintro m tm3 S3 ⟨hv,hm,d0,d1,d2,hlo,hwf⟩ hS3
 simp only [List.map_cons,List.map_nil,List.cons.injEq,and_true] at hv
 obtain ⟨hv10,hv7⟩:=hv
 have hl3:tm3.length=61:=lN hS3 hl2;have k1:tg tm3 1=iv n:=tQ hS3 (bw6 hl2 j1 j2 j6 j8 hv9);have k2:tg tm3 2 = .ptr st.heap.length 0:=tQ hS3 (bw6 hl2 j1 j2 j6 j8 hv9);have k6:tg tm3 6 = .ptr (st.heap.length+2) 0:=tQ hS3 (bw6 hl2 j1 j2 j6 j8 hv9);have k8:tg tm3 8=iv i:=tQ hS3 (bw6 hl2 j1 j2 j6 j8 hv9);have k9:tg tm3 9=iv j:=tQ hS3 (bw6 hl2 j1 j2 j6 j8 hv9);clear hS3
 have ld0:=hp_lt d0
 have ld1:=hp_lt d1
 have ld2:=hp_lt d2
 refine go2 (bw5 hl3 hv10 k2 d0 (n4 ld0)) fnil ?_
 refine ⟨decide (((m+1:Nat):Int)<b.cs[0].ls.length),(sG hl3),fun hbm=>?_,fun hbm=>?_⟩
 ·have hlt:=of_decide_eq_false hbm
  have hin:m=lines1 b.bk - 1:=by omega
  rw [hin,mixC'_all,List.append_assoc,← mixK_succ] at hv7 d2
  refine go2 (bw3 hl3 k9 hwj) fnil ?_
  exact ⟨(sG (bw hl3 hv7)),by omega,d0,d1,d2,hlo,hwf⟩
 have hltm:m+1<lines1 b.bk:=by have:=of_decide_eq_true hbm;omega
 have hwm:IntKind.wrap .i64 (((m+1:Nat):Int)+1)=((m+1+1:Nat):Int):=wrap_nat (n:=m+1+1) (by omega)
 refine ⟨by omega,?_⟩
 have k61:=fun st=>c61 b hB n ((i:Int),(j:Int),((m+1:Nat):Int),0) st
 by_cases hex:i=j∨i=n∨j=n
 ·have hno:mixOk b.bk n ((i:Int),(j:Int),((m+1:Nat):Int),0)=false:=by
   rw [Bool.eq_false_iff]
   intro h
   have:=(mixOk_of hB).1 h
   rcases hex with h|h|h
   ·exact this.ij h
   ·exact this.ni h
   ·exact this.nj h
  rw [hno] at k61
  have hc1:mixC' b.bk n i j (m+1)=mixC' b.bk n i j m:=by unfold mixC';rw [if_pos hex,if_pos hex]
  refine go2 (bw9 hl3 hv10 k1 k2 k8 k9 d0 (n4 ld0) hwm) (bw k61 fnil) ?_
  exact ⟨(sG (bw3 hl3 hv7 hc1)),by omega,(sG (bw d0 (n4 ld0))),(sG (bw d1 (n4 ld1))),by rw [hc1];simp only [↓reduceIte,go_sem,d2,n4 ld2],by simp only [lo_setVar,lo_push];omega,by simp only [lo_setVar,lo_push,len_setVar,len_push];omega⟩
 have hx:MixI b n i j (m+1):=⟨hlti,hltj,fun h=>hex (.inl h),fun h=>hex (.inr (.inl h)),fun h=>hex (.inr (.inr h)),by omega,hltm⟩
 rw [(mixOk_of hB).2 hx] at k61
 have k113:=fun st=>c113 b hB n hn i j (m+1) hx 0 st
 have hc1:mixC' b.bk n i j (m+1)=mixC' b.bk n i j m++[mixOne b.bk n i j m]:=by unfold mixC';rw [if_neg hex,if_neg hex,mixC_succ]
 have hone:mixOne b.bk n i j m=((i:Int),(j:Int),((m+1:Nat):Int),copiedI (mixW b.bk i j (m+1)) (b.bk.copies.getD n [])):=rfl
 have hbs:=bestF_snoc ltM (mixesK b.bk n i++mixK b.bk n i j++mixC' b.bk n i j m) (mixOne b.bk n i j m)
 rw [List.append_assoc,← hc1] at hbs
 generalize hL:mixesK b.bk n i++mixK b.bk n i j++mixC' b.bk n i j m=L at hv7 d2 hbs
 generalize hL':mixesK b.bk n i++mixK b.bk n i j++mixC' b.bk n i j (m+1)=L' at hbs
 generalize copiedI (mixW b.bk i j (m+1)) (b.bk.copies.getD n [])=ch at k113 hone
 cases ho:bestF ltM L with
 | none =>
  rw [ho] at hv7 hbs
  simp only [Option.isSome_none] at hv7
  have hout:outM L'=[iv i,iv j,iv ((m+1:Nat):Int),iv ch]:=by unfold outM;rw [hbs,hone]
  have hsm:(bestF ltM L').isSome=true:=by rw [hbs];rfl
  have houtL:outM L=[iv 0,iv 0,iv 0,iv 0]:=by unfold outM;rw [ho]
  rw [houtL] at d2
  refine go2 (bw13 hl3 hv7 hv10 k1 k2 k6 k8 k9 d0 d2 (n4 ld0) (n4 ld2) hwm) (bw3 k61 k113 fnil) ?_
  exact ⟨by rw [hsm];simp only [↓reduceIte,go_sem,hl3],by omega,(sG (bw3 d0 (n4 ld0) (n4 ld2))),(sG (bw3 d1 (n4 ld1) (n4 ld2))),by rw [hout];simp only [↓reduceIte,go_sem,d2,n4 ld2],by simp only [lo_setVar,lo_push];omega,by simp only [lo_setVar,lo_push,len_setVar,len_push];omega⟩
 | some o =>
  rw [ho] at hv7 hbs
  simp only [Option.isSome_some] at hv7
  have houtL:outM L=enc4 o:=by unfold outM;rw [ho]
  rw [houtL] at d2
  have hsm:(bestF ltM L').isSome=true:=by rw [hbs];simp only;split <;> rfl
  have hlt:ltM (mixOne b.bk n i j m) o=decide (ch<o.2.2.2):=by rw [hone]
  replace hbs:bestF ltM L'=if decide (ch<o.2.2.2)=true then some (mixOne b.bk n i j m) else some o:=by rw [hbs,← hlt]
  cases hd:decide (ch<o.2.2.2)
  ·rw [hd] at hbs
   have hout:outM L'=enc4 o:=by unfold outM;rw [hbs];rfl
   refine go2 (bw14 hl3 hv7 hv10 k1 k2 k6 k8 k9 d0 d2 hd (n4 ld0) (n4 ld2) hwm) (bw3 k61 k113 fnil) ?_
   exact ⟨by rw [hsm];simp only [↓reduceIte,go_sem,hl3,hv7],by omega,(sG (bw3 d0 (n4 ld0) (n4 ld2))),(sG (bw3 d1 (n4 ld1) (n4 ld2))),by rw [hout];simp only [↓reduceIte,go_sem,d2,n4 ld2],by simp only [lo_setVar,lo_push];omega,by simp only [lo_setVar,lo_push,len_setVar,len_push];omega⟩
  ·rw [hd] at hbs
   have hout:outM L'=[iv i,iv j,iv ((m+1:Nat):Int),iv ch]:=by unfold outM;rw [hbs,if_pos rfl,hone]
   refine go2 (bw14 hl3 hv7 hv10 k1 k2 k6 k8 k9 d0 d2 hd (n4 ld0) (n4 ld2) hwm) (bw3 k61 k113 fnil) ?_
   exact ⟨by rw [hsm];simp only [↓reduceIte,go_sem,hl3],by omega,(sG (bw3 d0 (n4 ld0) (n4 ld2))),(sG (bw3 d1 (n4 ld1) (n4 ld2))),by rw [hout];simp only [↓reduceIte,go_sem,d2,n4 ld2],by simp only [lo_setVar,lo_push];omega,by simp only [lo_setVar,lo_push,len_setVar,len_push];omega⟩
end Go.Den.Ve
end
section
namespace Go.Den.Ve
theorem goodB_yes {b:BP} (h:goodB b=true):smallB b=true∧OkB b.bk:=by
 simp only [goodB,Bool.and_eq_true] at h
 exact ⟨h.1,bookB_iff.1 h.2⟩
def anyArg (b:BP) (l1 l2:List Int):Bool:=smallB b&&(decide ((l1.length:Int)≤6)&&decide ((l2.length:Int)≤6))
end Go.Den.Ve
end
section
namespace Go.Den.Ve
end Go.Den.Ve
end
section
namespace Go.Den.Ve
end Go.Den.Ve
end
section
namespace Go.Den.Ve
def allH (X:List (List Int)) (l:List Int):Bool:=X.all fun x=>holdL x l
def allHK (X:List (List Int)) (l:List Int) (k:Nat):Bool:=(X.take k).all fun x=>holdL x l
def ComR (X:List (List Int)) (w:Nat):List Int:=commonR (allH X) [] (linesL w)
end Go.Den.Ve
end
section
namespace Go.Den.Ve
theorem zz4:(([0,0,0,0]:List Int)==[0,0,0,0])=true:=by decide
theorem mixB_bk (b:BP) (n:Nat):mixB b.bk n=bestF ltM (mixesK b.bk n b.cs.length):=by
 have hbl:b.bk.copies.length=b.cs.length:=by simp
 rw [← hbl];rfl
set_option maxHeartbeats 16000000 in
theorem c13 (b:BP) (n:Int) (st:St):Cl EE (.func 13 [] []) [b.pv,iv n] st (.ret (.bool true)) st:=by
 have hb:=b.h
 have k28:=fun st=>c28 b st
 refine cF2 pr13 fn13 (fun tm hl h0 h1=>?_)
 cases hA:smallB b
 ·rw [hA] at k28
  refine go2 (bw3 hl h0 h1) (bw3 k28 c25 fnil) ?_
  exact fQ hl
 rw [hA] at k28
 obtain ⟨hN,hM⟩:=smallB_yes hA
 have k30:=fun st=>c30 b hN (fun c hc x hx=>by have:=hM c hc x hx;omega) st
 have k53:=fun st=>c53 b hN.n n st
 cases hC:cpArg b n
 ·have k59:=fun st=>c59_no b hN n hC st
  cases hK:bookB b.bk
  ·rw [hK] at k30
   refine go2 (bw6 hl h0 h1 zs nee zz4) (bw5 k28 k59 k30 c25 fnil) ?_
   exact fQ hl
  rw [hK] at k30
  rw [cpArg,hK,Bool.true_and] at hC
  rw [hC] at k53
  refine go2 (bw6 hl h0 h1 zs nee zz4) (bw6 k28 k59 k30 k53 c25 fnil) ?_
  exact fQ hl
 obtain ⟨hB,i,rfl,hi⟩:=cpArg_yes hC
 have hin:inN (i:Int) 0 (b.cs.length - 1)=true:=by simp only [inN,Bool.and_eq_true,decide_eq_true_eq];omega
 rw [hin] at k53
 rw [bookB_iff.2 hB] at k30
 have k59:=fun st=>c59_yes b hN hB i hi st
 have k60:=fun st=>c60 b hB i hi st
 have hmb:=mixB_bk b i
 cases hm:mixB b.bk i with
 | none =>
  rw [hm] at hmb
  simp only [hm,Option.isSome_none] at k59 k60
  have ho:outM (mixesK b.bk i b.cs.length)=[iv 0,iv 0,iv 0,iv 0]:=by unfold outM;rw [← hmb]
  rw [ho] at k60
  refine go2 (bw6 hl h0 h1 zs nee zz4) (bw7 k28 k59 k30 k53 k60 c25 fnil) ?_
  exact fQ hl
 | some x =>
  rw [hm] at hmb
  simp only [hm,Option.isSome_some] at k59 k60
  have ho:outM (mixesK b.bk i b.cs.length)=enc4 x:=by unfold outM;rw [← hmb]
  rw [ho] at k60
  have hxx:(([x.1,x.2.1,x.2.2.1,x.2.2.2]:List Int)==[x.1,x.2.1,x.2.2.1,x.2.2.2])=true:=by simp
  refine go2 (bw7 hl h0 h1 zs nee zz4 hxx) (bw7 k28 k59 k30 k53 k60 c25 fnil) ?_
  exact fQ hl
def lexM (x y:T4):Prop:=x.1<y.1∨(x.1=y.1∧(x.2.1<y.2.1∨(x.2.1=y.2.1∧x.2.2.1<y.2.2.1)))
theorem mixC_sorted (b:BK) (n i j m:Nat):(mixC b n i j m).Pairwise lexM:=by
 unfold mixC
 rw [List.pairwise_map]
 refine List.Pairwise.imp ?_ (List.pairwise_lt_range (n:=m))
 intro a c hac
 exact .inr ⟨rfl,.inr ⟨rfl,by simp only [mixOne];omega⟩⟩
theorem mix1_mem {b:BK} {n i j:Nat} {x:T4} (h:x∈mix1 b n i j):x.1=i∧x.2.1=j:=by
 unfold mix1 at h
 split at h
 ·cases h
 ·obtain ⟨c,_,rfl⟩:=List.mem_map.1 h
  exact ⟨rfl,rfl⟩
theorem mix1_sorted (b:BK) (n i j:Nat):(mix1 b n i j).Pairwise lexM:=by
 unfold mix1
 split
 ·exact List.Pairwise.nil
 ·exact mixC_sorted b n i j _
theorem mixK_sorted (b:BK) (n i k:Nat):(mixK b n i k).Pairwise lexM:=by
 unfold mixK
 refine List.pairwise_flatMap.2 ⟨fun j _=>mix1_sorted b n i j,List.Pairwise.imp ?_ (List.pairwise_lt_range (n:=k))⟩
 intro a c hac x hx y hy
 have h1:=mix1_mem hx
 have h2:=mix1_mem hy
 exact .inr ⟨by rw [h1.1,h2.1],.inl (by rw [h1.2,h2.2];omega)⟩
theorem mixK_mem {b:BK} {n i k:Nat} {x:T4} (h:x∈mixK b n i k):x.1=i:=by
 obtain ⟨j,_,h⟩:=List.mem_flatMap.1 h
 exact (mix1_mem h).1
theorem mixes_sorted (b:BK) (n k:Nat):(mixesK b n k).Pairwise lexM:=by
 unfold mixesK
 refine List.pairwise_flatMap.2 ⟨fun i _=>mixK_sorted b n i _,List.Pairwise.imp ?_ (List.pairwise_lt_range (n:=k))⟩
 intro a c hac x hx y hy
 have h1:=mixK_mem hx
 have h2:=mixK_mem hy
 exact .inl (by rw [h1,h2];omega)
theorem mem_mixes {b:BP} {n i j c:Nat} (h:MixI b n i j c):((i:Int),(j:Int),(c:Int),copiedI (mixW b.bk i j c) (b.bk.copies.getD n []))∈mixesK b.bk n b.cs.length:=by
 have hbl:b.bk.copies.length=b.cs.length:=by simp
 refine List.mem_flatMap.2 ⟨i,List.mem_range.2 h.hi,List.mem_flatMap.2 ⟨j,List.mem_range.2 (by rw [hbl];exact h.hj),?_⟩⟩
 unfold mix1
 rw [if_neg (by rintro (e|e|e);exact h.ij e;exact h.ni e;exact h.nj e)]
 refine List.mem_map.2 ⟨c - 1,List.mem_range.2 (by have:=h.c1;have:=h.c2;omega),?_⟩
 unfold mixOne
 have:c - 1+1=c:=by have:=h.c1;omega
 rw [this]
theorem of_mixes {b:BP} (hB:OkB b.bk) {n:Nat} {x:T4} (h:x∈mixesK b.bk n b.cs.length):∃ i j c:Nat,MixI b n i j c∧x=((i:Int),(j:Int),(c:Int),copiedI (mixW b.bk i j c) (b.bk.copies.getD n [])):=by
 have hbl:b.bk.copies.length=b.cs.length:=by simp
 obtain ⟨i,hi,h⟩:=List.mem_flatMap.1 h
 obtain ⟨j,hj,h⟩:=List.mem_flatMap.1 h
 rw [List.mem_range] at hi hj
 unfold mix1 at h
 split at h
 ·cases h
 ·rename_i hex
  obtain ⟨c,hc,rfl⟩:=List.mem_map.1 h
  rw [List.mem_range] at hc
  exact ⟨i,j,c+1,⟨hi,by rw [hbl] at hj;exact hj,fun e=>hex (.inl e),fun e=>hex (.inr (.inl e)),fun e=>hex (.inr (.inr e)),by omega,by omega⟩,rfl⟩
theorem mix_none {b:BP} (hB:OkB b.bk) {n:Nat} (hn:n<b.cs.length) (h:mixB b.bk n=none):b.cs.length<3∨lines1 b.bk<2:=by
 rw [mixB_bk] at h
 have he:=best_none h
 by_cases h1:b.cs.length<3
 ·exact .inl h1
 ·by_cases h2:lines1 b.bk<2
  ·exact .inr h2
  ·exfalso
   obtain ⟨i,j,hi,hj,h3,h4,h5⟩:∃ i j:Nat,i<b.cs.length∧j<b.cs.length∧i≠j∧i≠n∧j≠n:=by
    by_cases n0:n=0
    ·exact ⟨1,2,by omega,by omega,by omega,by omega,by omega⟩
    ·by_cases n1:n=1
     ·exact ⟨0,2,by omega,by omega,by omega,by omega,by omega⟩
     ·exact ⟨0,1,by omega,by omega,by omega,by omega,by omega⟩
   have:=mem_mixes (b:=b) (n:=n) (i:=i) (j:=j) (c:=1) ⟨hi,hj,h3,h4,h5,by omega,by omega⟩
   rw [he] at this
   cases this
theorem mix_best {b:BP} {n:Nat} {x y:T4} (h:mixB b.bk n=some x) (hy:y∈mixesK b.bk n b.cs.length):x∈mixesK b.bk n b.cs.length∧x.2.2.2≤y.2.2.2∧(y.2.2.2=x.2.2.2→¬ lexM y x):=by
 rw [mixB_bk] at h
 obtain ⟨A,B,e,h1,h2⟩:=best_some (m:=fun x:T4=>x.2.2.2) h
 have hs:=mixes_sorted b.bk n b.cs.length
 rw [e] at hs hy ⊢
 have irr:∀ x:T4,¬ lexM x x:=fun x h=>by unfold lexM at h;omega
 refine ⟨by simp,?_,fun he hl=>?_⟩
 ·rcases List.mem_append.1 hy with h|h
  ·exact Int.le_of_lt (h1 y h)
  ·rcases List.mem_cons.1 h with rfl|h
   ·exact Int.le_refl _
   ·exact h2 y h
 ·rcases List.mem_append.1 hy with h|h
  ·have:=h1 y h
   omega
  ·rcases List.mem_cons.1 h with rfl|h
   ·exact irr _ hl
   ·rw [List.pairwise_append] at hs
    have:=(List.pairwise_cons.1 hs.2.1).1 y h
    unfold lexM at this hl
    omega
set_option maxHeartbeats 32000000 in
theorem c14 (b:BP) (n:Int) (y:T4) (st:St):Cl EE (.func 14 [] []) [b.pv,iv n,.agg (enc4 y)] st (.ret (.bool true)) st:=by
 have hb:=b.h
 have k23:=fun st=>c23 b st
 refine cF3 pr14 fn14 (fun tm hl h0 h1 h2=>?_)
 cases hA:goodB b
 ·rw [hA] at k23
  refine go2 (bw4 hl h0 h1 h2) (bw3 k23 c25 fnil) ?_
  exact fQ hl
 rw [hA] at k23
 have hB:=(goodB_yes hA).2
 have hp0:=hB.pos
 have hl1b:=lines1_bk b hp0
 have hC0:=b.cs[0].h
 have k53:=fun st=>c53 b hB.sm.n n st
 cases hI:inN n 0 (b.cs.length - 1)
 ·rw [hI] at k53
  refine go2 (bw4 hl h0 h1 h2) (bw4 k23 k53 c25 fnil) ?_
  exact fQ hl
 rw [hI] at k53
 obtain ⟨_,p,rfl,hp⟩:=cpArg_yes (b:=b) (n:=n) (by rw [cpArg,bookB_iff.2 hB,hI];rfl)
 have k59:=fun st=>c59_yes b hB.sm hB p hp st
 cases hm:mixB b.bk p with
 | none =>
  simp only [hm] at k59
  have hno:=mix_none hB hp hm
  cases g1:decide ((b.cs.length:Int)<3)
  ·have g1':=of_decide_eq_false g1
   have g2:decide ((b.cs[0].ls.length:Int)<2)=true:=decide_eq_true (by omega)
   refine go2 (bw9 hl h0 h1 h2 zs nee zz4 g1 g2) (bw5 k23 k53 k59 c25 fnil) ?_
   exact fQ hl
  ·refine go2 (bw8 hl h0 h1 h2 zs nee zz4 g1) (bw5 k23 k53 k59 c25 fnil) ?_
   exact fQ hl
 | some x =>
  simp only [hm] at k59
  obtain ⟨A,B,eAB,_,_⟩:=best_some (m:=fun x:T4=>x.2.2.2) ((mixB_bk b p).symm.trans hm)
  have hxm:x∈mixesK b.bk p b.cs.length:=by rw [eAB];simp
  obtain ⟨i,j,c,hx,ex⟩:=of_mixes hB hxm
  have k61:=fun st=>c61 b hB p x st
  have hok:mixOk b.bk p x=true:=by rw [ex];exact (mixOk_of hB).2 hx
  rw [hok] at k61
  have k62:∀ st,Cl EE (.func 62 [] []) [b.pv,iv p,.agg (enc4 x)] st (.ret (iv x.2.2.2)) st:=fun st=>by
   have:=c62 b hB p hp i j c hx x.2.2.2 st
   rw [ex]
   rw [ex] at this
   exact this
  have ky:=fun st=>c61 b hB p y st
  cases hy:mixOk b.bk p y
  ·rw [hy] at ky
   refine go2 (bw8 hl h0 h1 h2 zs nee nne zz4) (bw8 k23 k53 k59 k61 k62 ky c25 fnil) ?_
   exact fQ hl
  rw [hy] at ky
  obtain ⟨i',j',c',ey,hy'⟩:=mixOk_yes hB hy
  have k62y:∀ st,Cl EE (.func 62 [] []) [b.pv,iv p,.agg (enc4 y)] st (.ret (iv (copiedI (mixW b.bk i' j' c') (b.bk.copies.getD p [])))) st:=fun st=>by
   have:=c62 b hB p hp i' j' c' hy' y.2.2.2 st
   rw [ey]
   exact this
  obtain ⟨_,hle,hlx⟩:=mix_best hm (mem_mixes hy')
  simp only at hle hlx
  have y1:y.1=i':=by rw [ey]
  have y2:y.2.1=j':=by rw [ey]
  have y3:y.2.2.1=c':=by rw [ey]
  generalize copiedI (mixW b.bk i' j' c') (b.bk.copies.getD p [])=nn at k62y hle hlx
  refine go2 (bw8 hl h0 h1 h2 zs nee nne zz4) (bw8 k23 k53 k59 k61 k62 ky k62y fnil) ?_
  cases gt:decide (nn>x.2.2.2)
  ·have gt':=of_decide_eq_false gt
   have ee:(nn==x.2.2.2)=true:=by rw [beq_iff_eq];omega
   have hl':=hlx (by omega)
   unfold lexM at hl'
   simp only at hl'
   have d1:decide (y.1<x.1)=false:=decide_eq_false (by omega)
   cases d2:(y.1==x.1)
   ·refine go2 (bw6 hl zs d1 d2 gt ee) (bw c25 fnil) ?_
    exact fQ hl
   have d2':=eq_of_beq d2
   have d3:decide (y.2.1<x.2.1)=false:=decide_eq_false (by omega)
   cases d4:(y.2.1==x.2.1)
   ·refine go2 (bw8 hl zs d1 d2 d3 d4 gt ee) (bw c25 fnil) ?_
    exact fQ hl
   have d4':=eq_of_beq d4
   have d5:decide (y.2.2.1<x.2.2.1)=false:=decide_eq_false (by omega)
   refine go2 (bw9 hl zs d1 d2 d3 d4 d5 gt ee) (bw c25 fnil) ?_
   exact fQ hl
  ·cases d1:decide (y.1<x.1)
   case true =>
    refine go2 (bw4 hl zs d1 gt) (bw c25 fnil) ?_
    exact fQ hl
   cases d2:(y.1==x.1)
   ·refine go2 (bw5 hl zs d1 d2 gt) (bw c25 fnil) ?_
    exact fQ hl
   cases d3:decide (y.2.1<x.2.1)
   case true =>
    refine go2 (bw6 hl zs d1 d2 d3 gt) (bw c25 fnil) ?_
    exact fQ hl
   cases d4:(y.2.1==x.2.1)
   ·refine go2 (bw7 hl zs d1 d2 d3 d4 gt) (bw c25 fnil) ?_
    exact fQ hl
   cases d5:decide (y.2.2.1<x.2.2.1)
   ·refine go2 (bw8 hl zs d1 d2 d3 d4 d5 gt) (bw c25 fnil) ?_
    exact fQ hl
   ·refine go2 (bw8 hl zs d1 d2 d3 d4 d5 gt) (bw c25 fnil) ?_
    exact fQ hl
end Go.Den.Ve
end

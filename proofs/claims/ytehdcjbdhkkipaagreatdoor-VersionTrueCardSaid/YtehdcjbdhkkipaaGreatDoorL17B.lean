/- Part of the proof that for every input the function VersionTrue returns true and each argument reads as it did. Texts: VxM. -/
import Derived.Test.YtehdcjbdhkkipaaGreatDoorVJAo
set_option linter.unusedSimpArgs false
set_option linter.unusedVariables false
section
namespace Go.Den.Ve
set_option maxHeartbeats 32000000 in
theorem c17 (b:BP) (n:Int) (T:PV) (t:List SI) (hT:SlOf 1 encSI T t) (st:St):Cl EE (.func 17 [] []) [b.pv,T,iv n] st (.ret (.bool true)) st:=by
 have hb:=b.h
 have Ts:=hT.slen
 have k23:=fun st=>c23 b st
 refine cF3 pr17 fn17 (fun tm hl h0 h1 h2=>?_)
 cases hA:goodB b
 ·rw [hA] at k23
  refine go2 (bw4 hl h0 h1 h2) (bw3 k23 c25 fnil) ?_
  exact fQ hl
 rw [hA] at k23
 have hB:=(goodB_yes hA).2
 have hN:=hB.sm
 have hw:=hB.okW
 have k66:=fun st=>c66 T t hT st
 cases hbr:briefS t
 ·rw [hbr] at k66
  refine go2 (bw4 hl h0 h1 h2) (bw4 k23 k66 c25 fnil) ?_
  exact fQ hl
 rw [hbr] at k66
 have hbr2:=hbr
 simp only [briefS,Bool.and_eq_true,decide_eq_true_eq,List.all_eq_true] at hbr2
 have k67:=fun st=>c67 b hB T t hT (by omega) (fun x hx=>by have:=hbr2.2 x hx;omega) st
 cases htx:txtB b.bk (t.map SI.l)
 ·rw [htx] at k67
  refine go2 (bw4 hl h0 h1 h2) (bw5 k23 k66 k67 c25 fnil) ?_
  exact fQ hl
 rw [htx] at k67
 have k53:=fun st=>c53 b hN.n n st
 cases hI:inN n 0 (b.cs.length - 1)
 ·rw [hI] at k53
  refine go2 (bw4 hl h0 h1 h2) (bw6 k23 k66 k67 k53 c25 fnil) ?_
  exact fQ hl
 rw [hI] at k53
 obtain ⟨_,i,rfl,hi⟩:=cpArg_yes (b:=b) (n:=n) (by rw [cpArg,bookB_iff.2 hB,hI];rfl)
 have hln:=(txt_in htx).1
 have hl4:=hB.l4
 have hc5:=hB.c5
 have hbl:b.bk.copies.length=b.cs.length:=by simp
 have k51:=fun st=>c51_yes b hN hB i hi st
 refine go2 (bw4 hl h0 h1 h2) (bw5 k23 k66 k67 k53 fnil) ?_
 refine cR (bw4 hl h0 h1 h2) (c50_yes b hN hB _) ?_
 rintro v S1 ⟨u,rfl,hR⟩
 have hU:SlOf 1 encL u (wholeT b.bk):=hR.own_sl (fun _=>rfl)
 have b1:hp S1 st.heap.length=some (.var [iv b.words,b.v]):=hR.hp (sG fnil)
 have m1:=hp_lt b1
 have x1:=hR.lo
 have x2:=hR.len
 simp only [lo_push,len_push] at x1 x2
 have hwl:=whole_len b.bk
 have hline:=whole_line hB
 have hU2:=slSI hU
 have hwe:((wholeT b.bk).map SI.of).map SI.l=wholeT b.bk:=by rw [List.map_map];exact List.map_id _
 have hwb:briefS ((wholeT b.bk).map SI.of)=true:=by
  simp only [briefS,Bool.and_eq_true,decide_eq_true_eq,List.all_eq_true,List.length_map]
  refine ⟨by omega,fun x hx=>?_⟩
  obtain ⟨y,hy,rfl⟩:=List.mem_map.1 hx
  have:=line4 (hline y hy)
  show y.length≤6
  omega
 have hwt:txtB b.bk (((wholeT b.bk).map SI.of).map SI.l)=true:=by
  rw [hwe]
  simp only [txtB,Bool.and_eq_true,decide_eq_true_eq,List.all_eq_true]
  exact ⟨hwl,hline⟩
 have j66:=fun st=>c66 u _ hU2 st
 have j67:=fun st=>c67 b hB u _ hU2 (by rw [List.length_map];omega) (fun x hx=>by
  obtain ⟨y,hy,rfl⟩:=List.mem_map.1 hx
  have:=line4 (hline y hy)
  show y.length<_
  omega) st
 rw [hwb] at j66
 rw [hwt] at j67
 refine go2 (bw7 hl h0 h1 h2 b1 (n4 m1) zs) (bw4 k51 j66 j67 fnil) ?_
 refine wopsD_callS (by first|omega|(simp only [lo_push,lo_setVar,len_push,len_setVar];omega)) rfl rfl (by simp only [↓reduceIte,go_sem,hl,h0,h1,h2];first|done|rfl) (fun st1 he=>by simp only [↓reduceIte,go_sem,hl,h0,h1,h2];exact c69 b (by omega) _) ?_
 intro P1 S2 hR2
 have hP1:SlOf 1 encI P1 (starT b.cs.length):=SlOf.of_sl hR2.sl (by simp) rfl (fun _=>rfl)
 have b2:hp S2 st.heap.length=some (.var [iv b.words,b.v]):=hR2.hp (sG (bw b1 (n4 m1)))
 have f2:hp S2 S1.heap.length=some (.var [iv (farLow b.bk i),iv (farHigh b.bk i)]):=hR2.hp (sG fnil)
 have m2:=hp_lt b2
 have mf2:=hp_lt f2
 have y1:=hR2.lo
 have y2:=hR2.len
 simp only [lo_push,len_push,lo_setVar,len_setVar] at y1 y2
 have hK:=bookB_iff.2 hB
 have hst:treeB b.cs.length (starT b.cs.length)=true:=star_tree
 have k68:=fun st=>c68_yes b hN u _ hU2 (by rw [List.length_map];omega) P1 _ hP1 st (by rw [totArg,hK,hwt,hst];rfl)
 have hwtot:=whole_total hB
 rw [hbl] at hwtot
 rw [hwe,hwtot] at k68
 refine go2 (bw8 hl h0 h1 h2 b2 (n4 m2) f2 (n4 mf2)) (bw k68 fnil) ?_
 refine wopsD_callS (by first|omega|(simp only [lo_push,lo_setVar,len_push,len_setVar];omega)) rfl rfl (by simp only [↓reduceIte,go_sem,hl,h0,h1,h2];first|done|rfl) (fun st1 he=>by simp only [↓reduceIte,go_sem,hl,h0,h1,h2];exact c69 b (by omega) _) ?_
 intro P2 S3 hR3
 have hP2:SlOf 1 encI P2 (starT b.cs.length):=SlOf.of_sl hR3.sl (by simp) rfl (fun _=>rfl)
 have b3:hp S3 st.heap.length=some (.var [iv b.words,b.v]):=hR3.hp (sG (bw b2 (n4 m2)))
 have f3:hp S3 S1.heap.length=some (.var [iv (farLow b.bk i),iv (farHigh b.bk i)]):=hR3.hp (sG (bw f2 (n4 mf2)))
 have m3:=hp_lt b3
 have mf3:=hp_lt f3
 have w1:=hR3.lo
 have w2:=hR3.len
 have k68t:=fun st=>c68_yes b hN T t hT (by omega) P2 _ hP2 st (by rw [totArg,hK,htx,hst];rfl)
 obtain ⟨hge,hiff⟩:=true_total hB htx
 rw [hbl] at hge hiff
 have p1:decide (totalI b.bk (t.map SI.l) (starT b.cs.length)<wholeC b.bk)=false:=decide_eq_false (by omega)
 have p2:(wholeC b.bk != wholeC b.bk)=false:=by simp
 refine go2 (bw11 hl h0 h1 h2 b3 (n4 m3) f3 (n4 mf3) zs p1 p2) (bw k68t fnil) ?_
 clear hU2
 have htake:(List.range 0).foldl (fun n i=>n*((leastB b.bk i).length:Int)) 1=1:=rfl
 refine wp_for [21,17,18,19] (fun k vs S=>vs=[iv k,iv (prodK b.bk k),iv (tookK b.bk i (t.map SI.l) k),.bool (inK b.bk (t.map SI.l) k)]∧k≤t.length∧hp S st.heap.length=some (.var [iv b.words,b.v])∧hp S S1.heap.length=some (.var [iv (farLow b.bk i),iv (farHigh b.bk i)])∧hp S S3.heap.length=some (.var [iv (loK b.bk i k),iv (hiK b.bk i k)])∧st.heap.length≤S.lo∧S.lo≤S.heap.length) (fun k=>t.length - k) ⟨(sR hl),Nat.zero_le _,(sG (bw b3 (n4 m3))),(sG (bw f3 (n4 mf3))),(sR fnil),by simp only [lo_push];omega,by simp only [lo_push,len_push];omega⟩ ?_
 rintro k tm1 S ⟨hv,hk,d0,df,da,hlo,hwf⟩ hS
 simp only [List.map_cons,List.map_nil,List.cons.injEq,and_true] at hv
 obtain ⟨hv21,hv17,hv18,hv19⟩:=hv
 have hl1:tm1.length=288:=lN hS hl;have i1:tg tm1 1=T:=tQ hS (bw3 hl h1 h2);have i2:tg tm1 2=iv i:=tQ hS (bw3 hl h1 h2);have i3:tg tm1 3 = .ptr st.heap.length 0:=tQ hS (bw3 hl h1 h2);have i7:tg tm1 7=u:=tQ hS (bw3 hl h1 h2);have i8:tg tm1 8=iv (wholeN b.bk):=tQ hS (bw3 hl h1 h2);have i9:tg tm1 9=iv (wholeC b.bk):=tQ hS (bw3 hl h1 h2);have i11:tg tm1 11 = .ptr S1.heap.length 0:=tQ hS (bw3 hl h1 h2);have i15:tg tm1 15=iv (totalI b.bk (t.map SI.l) (starT b.cs.length)):=tQ hS (bw3 hl h1 h2);have i20:tg tm1 20 = .ptr S3.heap.length 0:=tQ hS (bw3 hl h1 h2);clear hS
 have ld0:=hp_lt d0
 have ldf:=hp_lt df
 have lda:=hp_lt da
 refine go2 (bw4 hl1 hv21 i1 Ts) fnil ?_
 refine ⟨decide ((k:Int)<t.length),(sG hl1),fun hbk=>?_,fun hbk=>?_⟩
 ·have hlt:=of_decide_eq_false hbk
  have hkn:k=lines1 b.bk:=by omega
  rw [hkn] at hv17 hv18 hv19 da
  have hpe:prodK b.bk (lines1 b.bk)=wholeN b.bk:=rfl
  have hle:loK b.bk i (lines1 b.bk)=farLow b.bk i:=rfl
  have hhe:hiK b.bk i (lines1 b.bk)=farHigh b.bk i:=rfl
  rw [hpe] at hv17
  rw [hle,hhe] at da
  have hff:(([farLow b.bk i,farHigh b.bk i]:List Int)==[farLow b.bk i,farHigh b.bk i])=true:=by simp
  cases hin:inK b.bk (t.map SI.l) (lines1 b.bk)
  ·rw [hin] at hv19 hiff
   have q1:decide (totalI b.bk (t.map SI.l) (starT b.cs.length)>wholeC b.bk)=true:=decide_eq_true (by
    have:¬ totalI b.bk (t.map SI.l) (starT b.cs.length)=wholeC b.bk:=fun e=>by cases hiff.1 e
    omega)
   refine go2 (bw17 hl1 hv17 hv18 hv19 i8 i9 i11 i15 i20 df (n4 ldf) da (n4 lda) hff q1 nee zs) (bw c25 fnil) ?_
   exact fQ hl1
  ·rw [hin] at hv19 hiff
   have q1:totalI b.bk (t.map SI.l) (starT b.cs.length)=wholeC b.bk:=hiff.2 rfl
   obtain ⟨g1,g2⟩:=took_far hB hi (t:=t.map SI.l) (Nat.le_refl _) hin
   rw [hle] at g1
   rw [hhe] at g2
   have q2:decide (tookK b.bk i (t.map SI.l) (lines1 b.bk)≥farLow b.bk i)=true:=decide_eq_true (by omega)
   have q3:decide (tookK b.bk i (t.map SI.l) (lines1 b.bk)≤farHigh b.bk i)=true:=decide_eq_true (by omega)
   rw [q1] at i15
   refine go2 (bw18 hl1 hv17 hv18 hv19 i8 i9 i11 i15 i20 df (n4 ldf) da (n4 lda) hff q2 q3 nee zs) (bw c25 fnil) ?_
   exact fQ hl1
 have hlt:k<t.length:=by have:=of_decide_eq_true hbk;omega
 have hk1:k<lines1 b.bk:=by omega
 have hwk:IntKind.wrap .i64 ((k:Int)+1)=((k+1:Nat):Int):=wrap_nat (n:=k+1) (by omega)
 obtain ⟨htk,htl⟩:=true_line htx hlt
 refine ⟨by omega,?_⟩
 refine go2 (bw5 hl1 hv21 i3 d0 (n4 ld0)) fnil ?_
 refine cR (bw3 hl1 hv21 i3) (c42_yes b hN k hB hk1 _) ?_
 rintro v S4 ⟨u4,rfl,hR4⟩
 have hX:SlOf 1 encL u4 (leastB b.bk k):=hR4.own_sl (fun _=>rfl)
 have Xs:=hX.slen
 have d4:=hR4.hp d0
 have e4:=hR4.hp df
 have a4:=hR4.hp da
 have ld4:=hp_lt d4
 have le4:=hp_lt e4
 have la4:=hp_lt a4
 have w1:=hR4.lo
 have w2:=hR4.len
 have hbl2:=leastB_len hB k
 have hX0:0<(leastB b.bk k).length:=by
  have:=leastB_ne b.bk k
  cases h:leastB b.bk k with
  | nil=>exact absurd h this
  | cons x l=>simp
 have r1:decide (((leastB b.bk k).length:Int)<1)=false:=decide_eq_false (by omega)
 have hxl:∀ x∈leastB b.bk k,lineB b.words x=true:=fun x hx=>leastB_line hB hx
 have k40:=fun st=>c40 b hw u4 (leastB b.bk k) hX hxl (leastB_sorted b k) hbl2 st
 have hkw:k<(wholeT b.bk).length:=by omega
 have hwg:=whole_get hkw hX0
 have k27:=fun st=>c27 (elL (leastB b.bk k)[0]) (elL (wholeT b.bk)[k]) (leastB b.bk k)[0] (wholeT b.bk)[k] (el_sl _) (el_sl _) (by have:=line4 (hxl _ (List.getElem_mem hX0));omega) st
 rw [hwg,beq_self_eq_true] at k27
 have hpk:=prodK_succ b.bk k
 have hpi:=prodK_in b hB (k+1)
 have hp4:(121:Int) ^ (k+1)≤121 ^ 4:=by
  have:k=0∨k=1∨k=2∨k=3:=by omega
  rcases this with h|h|h|h <;> rw [h] <;> decide
 have hwp:IntKind.wrap .i64 (prodK b.bk k*((leastB b.bk k).length:Int))=prodK b.bk (k+1):=by rw [← hpk];exact wrap_in (by unfold inI;omega)
 have k41:=fun st=>c41 u4 t[k].v (leastB b.bk k) t[k].l hX t[k].h (by omega) (fun x hx=>by have:=line4 (hxl x hx);omega) st
 rw [any_mem] at k41
 have hik:=inK_succ b.bk (t.map SI.l) k
 rw [htk] at hik
 have z0:((0:Nat):Int)=0:=rfl
 have hti:k<t.length:=hlt
 have hC:=b.cs[i].h
 have hckl:=CP.okl hB (List.getElem_mem hi)
 have hkc:k<b.cs[i].ls.length:=by omega
 have hla:=lnAt_eq b hi hkc
 have hts:=tookK_succ b.bk i (t.map SI.l) k
 rw [htk] at hts
 have hti2:=tookK_in hB hi htx (k:=k+1) (by omega)
 have hfi:=farT_in hB hi (k:=k+1) (by omega)
 have hXw:=b.cs[i].ls[k].h
 have hwl2:=(hckl.2 _ (List.getElem_mem hkc)).1
 have k26:=fun st=>c26 b hN t[k].v b.cs[i].ls[k].w t[k].l b.cs[i].ls[k].l t[k].h hXw st
 have c1:(bookB b.bk&&(lineB b.words t[k].l&&lineB b.words b.cs[i].ls[k].l))=true:=by rw [hK,htl,hwl2];rfl
 rw [if_pos c1] at k26
 have v1:=lev4 htl hwl2
 have r2:decide (((lev t[k].l b.cs[i].ls[k].l:Nat):Int)<0)=false:=decide_eq_false (by omega)
 have r3:decide (((lev t[k].l b.cs[i].ls[k].l:Nat):Int)>4)=false:=decide_eq_false (by omega)
 have hdl:(dists b.bk i k).length=(leastB b.bk k).length:=by simp [dists]
 have hdg:∀ q (h:q<(leastB b.bk k).length),(dists b.bk i k)[q]'(by omega)=((lev (leastB b.bk k)[q] b.cs[i].ls[k].l:Nat):Int):=fun q h=>by simp [dists,hla]
 cases hin:inK b.bk (t.map SI.l) k
 all_goals
  rw [hin] at hv19 hik
  first|rw [Bool.false_and] at hik|rw [Bool.true_and] at hik
  cases hlo:b.cs[i].ls[k].lost
  ·obtain ⟨q1,q2⟩:=far_stepY hB hi hkc hk1 hlo
   have e:takenI t[k].l (lnAt b.bk i k)=((lev t[k].l b.cs[i].ls[k].l:Nat):Int):=by rw [hla];unfold takenI;simp [hlo]
   rw [e] at hts
   rw [hts] at hti2
   rw [q1,q2] at hfi
   refine go2 (bw16 hl1 hv21 hv17 hv19 i1 i2 i3 i7 d4 (n4 ld4) Xs r1 zs hwg hwp hlo) (bw5 k40 k27 k41 k26 fnil) ?_
   refine wp_for [30,28,29] (fun q vs S=>vs=[iv q,iv (((dists b.bk i k).take q).foldl min 4),iv (((dists b.bk i k).take q).foldl max 0)]∧q≤(leastB b.bk k).length∧S=S4) (fun q=>(leastB b.bk k).length - q) ⟨(sR hl1),Nat.zero_le _,rfl⟩ ?_
   rintro q tm2 S5 ⟨hv,hq,rfl⟩ hS2
   simp only [List.map_cons,List.map_nil,List.cons.injEq,and_true] at hv
   obtain ⟨hv30,hv28,hv29⟩:=hv
   have hl2:tm2.length=288:=lN hS2 hl1;have j3:tg tm2 3 = .ptr st.heap.length 0:=tQ hS2 (bw6 hl1 i3 hv18 i20 hv21 hik);have j17:tg tm2 17=iv (prodK b.bk (k+1)):=tQ hS2 (bw6 hl1 i3 hv18 i20 hv21 hik);have j18:tg tm2 18=iv (tookK b.bk i (t.map SI.l) k):=tQ hS2 (bw6 hl1 i3 hv18 i20 hv21 hik);have j19:tg tm2 19 = .bool (inK b.bk (t.map SI.l) (k+1)):=tQ hS2 (bw6 hl1 i3 hv18 i20 hv21 hik);have j20:tg tm2 20 = .ptr S3.heap.length 0:=tQ hS2 (bw6 hl1 i3 hv18 i20 hv21 hik);have j21:tg tm2 21=iv k:=tQ hS2 (bw6 hl1 i3 hv18 i20 hv21 hik);have j22:tg tm2 22=u4:=tQ hS2 (bw6 hl1 i3 hv18 i20 hv21 hik);have j25:tg tm2 25=b.cs[i].ls[k].w:=tQ hS2 (bw6 hl1 i3 hv18 i20 hv21 hik);have j26:tg tm2 26=iv (lev t[k].l b.cs[i].ls[k].l:Nat):=tQ hS2 (bw6 hl1 i3 hv18 i20 hv21 hik);have j27:tg tm2 27=iv 0:=tQ hS2 (bw6 hl1 i3 hv18 i20 hv21 hik);clear hS2
   refine go2 (bw4 hl2 hv30 j22 Xs) fnil ?_
   refine ⟨decide ((q:Int)<(leastB b.bk k).length),(sG hl2),fun hbq=>?_,fun hbq=>?_⟩
   ·have hlt2:=of_decide_eq_false hbq
    have hqn:q=(dists b.bk i k).length:=by omega
    rw [hqn,List.take_length] at hv28 hv29
    have hw1:IntKind.wrap .i64 (tookK b.bk i (t.map SI.l) k+((lev t[k].l b.cs[i].ls[k].l:Nat):Int))=tookK b.bk i (t.map SI.l) (k+1):=by rw [hts];exact wrap_in (by unfold inI;omega)
    have hw2:IntKind.wrap .i64 (loK b.bk i k+(dists b.bk i k).foldl min 4)=loK b.bk i (k+1):=by rw [q1];exact wrap_in (by unfold inI;omega)
    have hw3:IntKind.wrap .i64 (hiK b.bk i k+(dists b.bk i k).foldl max 0)=hiK b.bk i (k+1):=by rw [q2];exact wrap_in (by unfold inI;omega)
    refine go2 (bw19 hl2 hv28 hv29 j17 j18 j19 j20 j21 j26 j27 a4 (n4 la4) zs r2 r3 hw1 hw2 hw3 hwk) fnil ?_
    exact ⟨(sG (bw3 hl2 j17 j19)),by omega,by rw [hp_setVar,if_neg (by omega)];exact d4,by rw [hp_setVar,if_neg (by omega)];exact e4,by rw [hp_setVar,if_pos rfl,if_pos la4],by rw [lo_setVar];omega,by rw [lo_setVar,len_setVar];omega⟩
   have hlt2:q<(leastB b.bk k).length:=by have:=of_decide_eq_true hbq;omega
   have hwq:IntKind.wrap .i64 ((q:Int)+1)=((q+1:Nat):Int):=wrap_nat (n:=q+1) (by omega)
   have hql:=hxl _ (List.getElem_mem hlt2)
   have k26q:=fun st=>c26 b hN (elL (leastB b.bk k)[q]) b.cs[i].ls[k].w (leastB b.bk k)[q] b.cs[i].ls[k].l (el_sl _) hXw st
   rw [if_pos (show (bookB b.bk&&(lineB b.words (leastB b.bk k)[q]&&lineB b.words b.cs[i].ls[k].l))=true by rw [hK,hql,hwl2];rfl)] at k26q
   have v2:=lev4 hql hwl2
   have r4:decide (((lev (leastB b.bk k)[q] b.cs[i].ls[k].l:Nat):Int)<0)=false:=decide_eq_false (by omega)
   have r5:decide (((lev (leastB b.bk k)[q] b.cs[i].ls[k].l:Nat):Int)>4)=false:=decide_eq_false (by omega)
   have hqd:q<(dists b.bk i k).length:=by omega
   have s1:((dists b.bk i k).take (q+1)).foldl min 4=min (((dists b.bk i k).take q).foldl min 4) ((lev (leastB b.bk k)[q] b.cs[i].ls[k].l:Nat):Int):=by
    rw [List.take_succ_eq_append_getElem hqd,List.foldl_append,hdg q hlt2];rfl
   have s2:((dists b.bk i k).take (q+1)).foldl max 0=max (((dists b.bk i k).take q).foldl max 0) ((lev (leastB b.bk k)[q] b.cs[i].ls[k].l:Nat):Int):=by
    rw [List.take_succ_eq_append_getElem hqd,List.foldl_append,hdg q hlt2];rfl
   refine ⟨by omega,?_⟩
   refine go2 (bw15 hl2 hv30 hv28 hv29 j3 j22 j25 d4 (n4 ld4) zs r4 r5 @mm2 @mm2' hwq) (bw k26q fnil) ?_
   exact ⟨(sG (bw3 hl2 s1 s2)),by omega,rfl⟩
  ·obtain ⟨q1,q2⟩:=far_step hi hkc hlo
   have e:takenI t[k].l (lnAt b.bk i k)=0:=by rw [hla];unfold takenI;simp [hlo]
   rw [e,Int.add_zero] at hts
   refine go2 (bw17 hl1 hv21 hv17 hv19 i1 i2 i3 i7 d4 (n4 ld4) Xs r1 zs hwg hwp hlo hwk) (bw4 k40 k27 k41 fnil) ?_
   exact ⟨(sG (bw4 hl1 hv18 hts hik)),by omega,d4,e4,by rw [q1,q2];exact a4,by omega,by omega⟩
end Go.Den.Ve
end

/- Part of the proof that for every input the function VersionMore returns true and each argument reads as it did. Texts: VxH. -/
import Derived.Test.YtehdcjbdhkkipaaGreatDoorVDAp
set_option linter.unusedSimpArgs false
set_option linter.unusedVariables false
section
namespace Go.Den.Ve
def CP.shr (c:CP):CP:=⟨c.v.share,c.ls,c.h.share⟩
theorem cp_share (X:List CP):(X.flatMap encCP).map PV.share=(X.map CP.shr).flatMap encCP:=by
 induction X with
 | nil=>rfl
 | cons x X ih=>show (x.v::X.flatMap encCP).map PV.share=x.v.share::(X.map CP.shr).flatMap encCP;rw [List.map_cons,ih]
theorem cp_cell (X:List CP):(X.flatMap encCP).all PV.isCell=true:=by
 induction X with
 | nil=>rfl
 | cons x X ih=>rw [List.flatMap_cons,List.all_append,ih,Bool.and_true];simp [CP.isCell]
theorem cp_many (X:List CP):(X.flatMap encCP).length=X.length*1:=by
 induction X with
 | nil=>rfl
 | cons x X ih=>rw [List.flatMap_cons,List.length_append,ih,List.length_cons];simp;omega
theorem cp_shr_c (X:List CP):(X.map CP.shr).map CP.c=X.map CP.c:=by rw [List.map_map];rfl
def nextL (i:Nat) (l:List Int) (k:Nat):List LN:=(List.range k).map fun (j:Nat)=>if j=i then ⟨false,l⟩ else ⟨true,[]⟩
theorem nextL_succ (i:Nat) (l:List Int) (k:Nat):nextL i l (k+1)=nextL i l k++[if k=i then ⟨false,l⟩ else ⟨true,[]⟩]:=by simp [nextL,List.range_succ]
theorem cost_more (w:Int) (cs:List (List LN)) (i:Nat) (l:List Int) {m:Nat} (hi:i<m) (x:List Int):cost1 ⟨w,cs++[nextL i l m]⟩ i x=cost1 ⟨w,cs⟩ i x+((lev x l:Nat):Int):=by
 unfold cost1
 rw [List.map_append,List.sum_append_int]
 congr 1
 simp [nextL,takenI,hi]
structure MoreI (b b2:BP) (i:Nat) (l:List Int):Prop where
 w:b2.words=b.words
 cs:b2.cs.map CP.c=b.cs.map CP.c++[nextL i l (lines1 b.bk)]
theorem more_ok {b b2:BP} {i:Nat} {l:List Int} (hB:OkB b.bk) (h:MoreI b b2 i l) (h5:b.cs.length<5) (hl:lineB b.words l=true):OkB b2.bk∧lines1 b2.bk=lines1 b.bk:=by
 have e:b2.bk=⟨b.words,b.cs.map CP.c++[nextL i l (lines1 b.bk)]⟩:=by show (⟨b2.words,b2.cs.map CP.c⟩:BK)=_;rw [h.w,h.cs]
 have hp:=hB.pos
 have e1:lines1 b2.bk=lines1 b.bk:=by
  rw [e]
  unfold lines1
  show ((b.cs.map CP.c++[nextL i l (lines1 b.bk)]).headD []).length=((b.cs.map CP.c).headD []).length
  cases hc:b.cs with
  | nil=>rw [hc] at hp;simp at hp
  | cons c cs=>rfl
 refine ⟨⟨by rw [e];exact hB.w1,by rw [e];exact hB.w3,by rw [e];simp,by rw [e];simp;omega,by rw [e1];exact hB.l1,by rw [e1];exact hB.l4,fun c hc=>?_⟩,e1⟩
 rw [e1]
 rw [e] at hc ⊢
 rcases List.mem_append.1 hc with hc|hc
 ·exact hB.all c hc
 ·rw [List.mem_singleton.1 hc]
  refine ⟨by simp [nextL],fun x hx=>?_⟩
  obtain ⟨j,_,rfl⟩:=List.mem_map.1 hx
  by_cases hj:j=i
  ·rw [if_pos hj];exact ⟨hl,fun h=>by cases h⟩
  ·rw [if_neg hj];exact ⟨lineB_iff.2 ⟨by simp,fun x hx=>by cases hx⟩,fun _=>rfl⟩
theorem more_law {b b2:BP} {i:Nat} {l:List Int} (hB:OkB b.bk) (h:MoreI b b2 i l) (hi:i<lines1 b.bk) (hl:lineB b.words l=true):manyB b.bk i≤manyB b2.bk i∧(∀ x∈leastB b.bk i,manyB b2.bk i≤manyB b.bk i+((lev x l:Nat):Int))∧(l∈leastB b.bk i→manyB b2.bk i=manyB b.bk i∧leastB b2.bk i=[l])∧∀ x∈leastB b2.bk i,lineB b.words x=true:=by
 have e:b2.bk=⟨b.words,b.cs.map CP.c++[nextL i l (lines1 b.bk)]⟩:=by show (⟨b2.words,b2.cs.map CP.c⟩:BK)=_;rw [h.w,h.cs]
 have hc:cost1 b2.bk i=fun x=>cost1 b.bk i x+((lev x l:Nat):Int):=by
  funext x
  rw [e,cost_more _ _ _ _ hi]
 have e1:leastB b2.bk i=leastL (fun x=>cost1 b.bk i x+((lev x l:Nat):Int)) (linesL b.words.toNat):=by
  unfold leastB;rw [hc]
  have:b2.bk.words=b.words:=h.w
  rw [this]
 have e2:manyB b2.bk i=minL (fun x=>cost1 b.bk i x+((lev x l:Nat):Int)) (linesL b.words.toNat):=by
  unfold manyB;rw [hc]
  have:b2.bk.words=b.words:=h.w
  rw [this]
 rw [e1,e2]
 refine ⟨more_min (lines_ne _) (fun x _=>by omega),fun x hx=>more_le hx,fun hm=>?_,fun x hx=>(mem_linesB hB).1 (mem_least.1 hx).1⟩
 refine more_one (lines_sorted _) (z:=l) (fun x _=>⟨by omega,?_⟩) hm
 rw [← lev_zero];omega
set_option maxHeartbeats 32000000 in
theorem c15 (b:BP) (n:Int) (L:PV) (l:List Int) (hL:SlOf 1 encI L l) (st:St):Cl EE (.func 15 [] []) [b.pv,iv n,L] st (.ret (.bool true)) st:=by
 have hb:=b.h
 have s1:=hL.slen
 have k23:=fun st=>c23 b st
 refine cF3 pr15 fn15 (fun tm hl h0 h1 h2=>?_)
 cases hA:goodB b
 ·rw [hA] at k23
  refine go2 (bw4 hl h0 h1 h2) (bw3 k23 c25 fnil) ?_
  exact fQ hl
 rw [hA] at k23
 have hB:=(goodB_yes hA).2
 have hw:=hB.okW
 have k44:=fun st=>c44 b hB n st
 cases hI:inN n 0 (lines1 b.bk - 1)
 ·rw [hI] at k44
  refine go2 (bw4 hl h0 h1 h2) (bw4 k23 k44 c25 fnil) ?_
  exact fQ hl
 rw [hI] at k44
 cases d1:decide ((l.length:Int)>6)
 case true =>
  refine go2 (bw6 hl h0 h1 h2 s1 d1) (bw4 k23 k44 c25 fnil) ?_
  exact fQ hl
 have n1:=of_decide_eq_false d1
 have k24:=fun st=>c24 b.words b.v b.cells b.isCell hw L l hL (by omega) st
 cases e1:lineB b.words l
 ·rw [e1] at k24
  refine go2 (bw6 hl h0 h1 h2 s1 d1) (bw5 k23 k44 k24 c25 fnil) ?_
  exact fQ hl
 rw [e1] at k24
 cases d5:decide ((b.cs.length:Int)≥5)
 case true =>
  refine go2 (bw7 hl h0 h1 h2 s1 d1 d5) (bw5 k23 k44 k24 c25 fnil) ?_
  exact fQ hl
 have n5:=of_decide_eq_false d5
 have hC:lnArg b n=true:=by rw [lnArg,bookB_iff.2 hB,hI];rfl
 obtain ⟨_,i,rfl,hi⟩:=lnArg_yes hC
 have hl4:=hB.l4
 have hl1:=hB.l1
 have hp0:=hB.pos
 have hl1b:=lines1_bk b hp0
 have hC0:=b.cs[0].h
 refine go2 (bw7 hl h0 h1 h2 s1 d1 d5) (bw4 k23 k44 k24 fnil) ?_
 refine wp_for [9,8] (fun k vs S=>∃ v,∃ X:List LP,vs=[iv k,v]∧k≤lines1 b.bk∧X.map LP.ln=nextL i l k∧OwnS st.heap.length S 2 v X.length (X.flatMap encLP)∧hp S st.heap.length=some (.var [iv b.words,b.v])∧hp S (st.heap.length+1)=some (.var [iv b.words,b.v])∧st.heap.length≤S.lo∧S.lo≤S.heap.length) (fun k=>lines1 b.bk - k) ⟨_,[],(sR hl),Nat.zero_le _,rfl,.nil,(sG fnil),(sG fnil),by simp only [lo_push,lo_setVar];omega,by simp only [lo_push,lo_setVar,len_push,len_setVar];omega⟩ ?_
 rintro k tm1 S ⟨v,X,hv,hk,hX,hO,b0,b1,hlo,hwf⟩ hS
 simp only [List.map_cons,List.map_nil,List.cons.injEq,and_true] at hv
 obtain ⟨hv9,hv8⟩:=hv
 have hl1':tm1.length=176:=lN hS hl;have i1:tg tm1 1=iv i:=tQ hS (bw3 hl h1 h2);have i2:tg tm1 2=L:=tQ hS (bw3 hl h1 h2);have i3:tg tm1 3 = .ptr st.heap.length 0:=tQ hS (bw3 hl h1 h2);have i7:tg tm1 7 = .ptr (st.heap.length+1) 0:=tQ hS (bw3 hl h1 h2);clear hS
 have m0:=hp_lt b0
 have m1:=hp_lt b1
 have hXl:X.length=k:=by have:=congrArg List.length hX;simpa [nextL] using this
 refine go2 (bw5 hl1' hv9 i3 b0 (n4 m0)) fnil ?_
 refine ⟨decide ((k:Int)<b.cs[0].ls.length),(sG hl1'),fun hbk=>?_,fun hbk=>?_⟩
 rotate_left
 ·have hlt:k<lines1 b.bk:=by have:=of_decide_eq_true hbk;omega
  have hwk:IntKind.wrap .i64 ((k:Int)+1)=((k+1:Nat):Int):=wrap_nat (n:=k+1) (by omega)
  refine ⟨by omega,?_⟩
  have hns:=nextL_succ i l k
  cases hki:((k:Int)==(i:Int))
  ·rw [if_neg (by have:=beq_eq_false_iff_ne.1 hki;omega),← hX] at hns
   refine go2 (bw5 hl1' hv9 hv8 i1 hki) (bw c63 fnil) ?_
   have hO0:=own_new (z:=[.bool false,.nilslice]) (y:=[.bool true,.nilslice]) hO
   refine wops_append rfl rfl (sR (bw hl1' hv8)) (sR hl1') hO0.push rfl (by simp only [len_push,len_setVar];omega) (by rfl) (by rfl) (by simp only [maxList];omega) ?_
   intro v' s3 hO3 hF3 hk3
   have z1:=hF3.lo
   have z2:=hF3.up
   have z3:=hF3.len
   simp only [lo_push,len_push,lo_setVar,len_setVar] at z1 z2 z3
   refine go2 (bw3 hl1' hv9 hwk) fnil ?_
   refine ⟨v',X++[⟨true,.nilslice,[],.nil⟩],(sG hl1'),by omega,by rw [hns];simp,?_,hk3 _ _ (sG (bw b0 (n4 m0))) (by simp),hk3 _ _ (sG (bw b1 (n4 m1))) (by simp),by omega,by omega⟩
   rw [List.length_append,List.flatMap_append]
   simpa [share_bool,share_nilslice] using hO3
  ·rw [if_pos (by have:=eq_of_beq hki;omega),← hX] at hns
   refine go2 (bw6 hl1' hv9 hv8 i1 i2 hki) (bw c63 fnil) ?_
   refine cR (bw hl1' i2) (c64 L l hL _) ?_
   rintro w s2 ⟨u,rfl,hR⟩
   have hu:=hR.1
   have uc:=sl_cells hu
   have ui:=sl_isCell hu
   have hus:SlOf 1 encI u l:=hR.own_sl (fun _=>rfl)
   have q0:hp s2 S.heap.length=some (.var [.bool true,.nilslice]):=hR.hp (sG fnil)
   have f0:hp s2 st.heap.length=some (.var [iv b.words,b.v]):=hR.hp (sG (bw b0 (n4 m0)))
   have f1:hp s2 (st.heap.length+1)=some (.var [iv b.words,b.v]):=hR.hp (sG (bw b1 (n4 m1)))
   have lq0:=hp_lt q0
   have lf0:=hp_lt f0
   have lf1:=hp_lt f1
   have y1:=hR.lo
   have y2:=hR.len
   simp only [lo_push,len_push,lo_setVar,len_setVar] at y1 y2
   have hO0:=(own_new (z:=[.bool false,.nilslice]) (y:=[.bool true,.nilslice]) hO).hext hR.hext
   have hO1:OwnS st.heap.length (setVar s2 S.heap.length (.var [.bool false,u])) 2 v X.length (X.flatMap encLP):=hO0.setVar (fun b=>by rw [q0];simp)
   refine go2 (bw6 hl1' hv8 uc ui q0 (n4 lq0)) fnil ?_
   refine wops_append rfl rfl (sR (bw hl1' hv8)) (sR hl1') hO1.push rfl (by simp only [len_push,len_setVar];omega) (by rfl) (by simp only [List.all_cons,List.all_nil,share_isCell,ui,isCell_bool,Bool.and_true]) (by simp only [maxList];omega) ?_
   intro v' s3 hO3 hF3 hk3
   have z1:=hF3.lo
   have z2:=hF3.up
   have z3:=hF3.len
   simp only [lo_push,len_push,lo_setVar,len_setVar] at z1 z2 z3
   refine go2 (bw3 hl1' hv9 hwk) fnil ?_
   refine ⟨v',X++[⟨false,u.share,l,hus.share⟩],(sG hl1'),by omega,by rw [hns];simp,?_,hk3 _ _ (by rw [hp_push,len_setVar,if_neg (by omega),hp_setVar,if_neg (by omega)];exact f0) (by simp),hk3 _ _ (by rw [hp_push,len_setVar,if_neg (by omega),hp_setVar,if_neg (by omega)];exact f1) (by simp),by omega,by omega⟩
   rw [List.length_append,List.flatMap_append]
   simpa [share_bool,share_share] using hO3
 have hlt:=of_decide_eq_false hbk
 have hkn:k=lines1 b.bk:=by omega
 subst hkn
 have hvS:SlOf 2 encLP v X:=SlOf.of_sl hO.sl rfl rfl (fun _=>rfl)
 have hvc:=hvS.cells
 have hvi:=hvS.isCell
 have hbs:=b.cs.length
 refine go2 (bw4 hl1' i3 b0 (n4 m0)) fnil ?_
 refine wops_append (m:=S.heap.length) (k:=b.cs.length) rfl rfl (sR hl1') (sR hl1') .nil hb.sl (Nat.le_refl _) (cp_many _) (cp_cell _) (by simp only [maxList];omega) ?_
 intro a1 s1' hO1 hF1 hk1
 rw [cp_share,Nat.zero_add,List.nil_append] at hO1
 have x1:=hF1.len
 have x2:=hF1.lo
 have x3:=hF1.up
 refine go2 (bw4 hl1' hv8 hvc hvi) fnil ?_
 refine wops_append rfl rfl (sR hl1') (sR hl1') hO1.push rfl (by simp only [len_push];omega) (by rfl) (by simp [share_isCell,hvi]) (by simp only [maxList];omega) ?_
 intro a2 s2 hO2 hF2 hk2
 have y1:=hF2.len
 have y2:=hF2.lo
 have y3:=hF2.up
 simp only [lo_push,len_push] at y1 y2 y3
 have hFF:Fr S.heap.length S s2:=(hF1.push x1).trans hF2
 have g0:=hFF.hp b0 (by omega)
 have g1:=hFF.hp b1 (by omega)
 have lg0:=hp_lt g0
 have lg1:=hp_lt g1
 have hO2':OwnS S.heap.length s2 1 a2 (b.cs.map CP.shr++[(⟨v.share,X,hvS.share⟩:CP)]).length ((b.cs.map CP.shr++[(⟨v.share,X,hvS.share⟩:CP)]).flatMap encCP):=by
  rw [List.length_append,List.flatMap_append,List.length_map]
  simpa [share_share] using hO2
 have hb2:SlOf 1 encCP a2 (b.cs.map CP.shr++[(⟨v.share,X,hvS.share⟩:CP)]):=SlOf.of_sl hO2'.sl rfl rfl (fun _=>rfl)
 obtain ⟨b2,hb2w,hb2v,hb2c⟩:∃ b2:BP,b2.words=b.words∧b2.v=a2∧b2.cs=b.cs.map CP.shr++[(⟨v.share,X,hvS.share⟩:CP)]:=⟨⟨b.words,a2,_,hb2⟩,rfl,rfl,rfl⟩
 have hMI:MoreI b b2 i l:=⟨hb2w,by rw [hb2c,List.map_append,cp_shr_c];simp [hX]⟩
 obtain ⟨hB2,hl2⟩:=more_ok hB hMI (by omega) e1
 obtain ⟨w1,w2,w3,w4⟩:=more_law hB hMI hi e1
 have hac:=hb2.cells
 have hai:=hb2.isCell
 refine go2 (bw9 hl1' i3 i7 g0 g1 hac hai (n4 lg0) (n4 lg1)) fnil ?_
 have q0:hp (setVar s2 (st.heap.length+1) (.var [iv b.words,a2])) st.heap.length=some (.var [iv b.words,b.v]):=by simp only [↓reduceIte,go_sem,g0,n4 lg0]
 have q1:hp (setVar s2 (st.heap.length+1) (.var [iv b.words,a2])) (st.heap.length+1)=some (.var [iv b.words,a2]):=by simp only [↓reduceIte,go_sem,n4 lg1]
 refine cR (bw6 hl1' i1 i3 g0 (n4 lg0) (n4 lg1)) (c42_yes b hB.sm i hB hi _) ?_
 rintro z s3 ⟨u,rfl,hR⟩
 have hU:SlOf 1 encL u (leastB b.bk i):=hR.own_sl (fun _=>rfl)
 have r0:=hR.hp q0
 have r1:=hR.hp q1
 have lr0:=hp_lt r0
 have lr1:=hp_lt r1
 have t1:=hR.lo
 have t2:=hR.len
 simp only [lo_setVar,len_setVar] at t1 t2
 have k42:=c42_yes b2 hB2.sm i hB2 (by omega)
 have hbpv:b2.pv = .agg [iv b.words,a2]:=by show PV.agg [iv b2.words,b2.v]=_;rw [hb2w,hb2v]
 rw [hbpv] at k42
 refine go2 (bw5 hl1' i1 i7 r1 (n4 lr1)) fnil ?_
 refine cR (bw5 hl1' i1 i7 r1 (n4 lr1)) (k42 _) ?_
 rintro z s4 ⟨u2,rfl,hR2⟩
 have hU2:SlOf 1 encL u2 (leastB b2.bk i):=hR2.own_sl (fun _=>rfl)
 have v0:=hR2.hp r0
 have lv0:=hp_lt v0
 have t3:=hR2.lo
 have t4:=hR2.len
 have hline:∀ x∈leastB b.bk i,lineB b.words x=true:=fun x hx=>leastB_line hB hx
 have hbl:=leastB_len hB i
 have hbl2:=leastB_len hB2 i
 have k40a:=fun st=>c40 b hw u (leastB b.bk i) hU hline (leastB_sorted b i) hbl st
 have k40b:=fun st=>c40 b hw u2 (leastB b2.bk i) hU2 w4 (leastB_sorted b2 i) hbl2 st
 have mb:=many_bound b hB i hi
 have mb2:=many_bound b2 hB2 i (by omega)
 have p1:decide (manyB b.bk i<0)=false:=decide_eq_false (by omega)
 have p2:decide (manyB b.bk i>100)=false:=decide_eq_false (by omega)
 have p3:decide (manyB b2.bk i<manyB b.bk i)=false:=decide_eq_false (by omega)
 have us:=hU.slen
 have us2:=hU2.slen
 refine go2 (bw8 hl1' i3 v0 zs p1 p2 p3 (n4 lv0)) (bw3 k40a k40b fnil) ?_
 refine wp_for [17] (fun q vs S'=>vs=[iv q]∧q≤(leastB b.bk i).length∧S'=s4) (fun q=>(leastB b.bk i).length - q) ⟨(sR hl1'),Nat.zero_le _,rfl⟩ ?_
 rintro q tm2 S' ⟨hvq,hq,rfl⟩ hS2
 simp only [List.map_cons,List.map_nil,List.cons.injEq,and_true] at hvq
 have hl2':tm2.length=176:=lN hS2 hl1';have j2:tg tm2 2=L:=tQ hS2 (bw3 hl1' i2 i3);have j3:tg tm2 3 = .ptr st.heap.length 0:=tQ hS2 (bw3 hl1' i2 i3);have j11:tg tm2 11=u:=tQ hS2 (bw3 hl1' i2 i3);have j12:tg tm2 12=iv (manyB b.bk i):=tQ hS2 (bw3 hl1' i2 i3);have j14:tg tm2 14=u2:=tQ hS2 (bw3 hl1' i2 i3);have j15:tg tm2 15=iv (manyB b2.bk i):=tQ hS2 (bw3 hl1' i2 i3);clear hS2
 refine go2 (bw4 hl2' hvq j11 us) fnil ?_
 refine ⟨decide ((q:Int)<(leastB b.bk i).length),(sG hl2'),fun hbq=>?_,fun hbq=>?_⟩
 ·have k41:=fun st=>c41 u L (leastB b.bk i) l hU hL (by omega) (fun x hx=>by have:=line4 (hline x hx);omega) st
  rw [any_mem] at k41
  cases hm:decide (l∈leastB b.bk i)
  ·rw [hm] at k41
   refine go2 (bw6 hl2' j2 j11 j12 j14 j15) (bw3 k41 c25 fnil) ?_
   exact fQ hl2'
  ·rw [hm] at k41
   obtain ⟨f1,f2⟩:=w3 (of_decide_eq_true hm)
   rw [f1] at j15
   rw [f2] at hU2 us2
   have k27:=fun st=>c27 (elL l) L l l (el_sl l) hL (by omega) st
   rw [beq_self_eq_true] at k27
   have h01:0<[l].length:=by simp
   have hg1:∀ h:0<[l].length,[l][0]'h=l:=fun _=>rfl
   have us3:u2.slen=some 1:=us2
   have hc1:(((1:Nat):Int)==1)=true:=rfl
   refine go2 (bw11 hl2' j2 j11 j12 j14 j15 us3 nee zs hg1 hc1) (bw4 k41 k27 c25 fnil) ?_
   exact fQ hl2'
 ·have hltq:q<(leastB b.bk i).length:=by have:=of_decide_eq_true hbq;omega
  have hwq:IntKind.wrap .i64 ((q:Int)+1)=((q+1:Nat):Int):=wrap_nat (n:=q+1) (by omega)
  refine ⟨by omega,?_⟩
  have hxq:=hline _ (List.getElem_mem hltq)
  have k26:=fun st=>c26y b hB (elL (leastB b.bk i)[q]) L (leastB b.bk i)[q] l (el_sl _) hL hxq e1 st
  have hv4:=lev4 hxq e1
  have hle:=w2 _ (List.getElem_mem hltq)
  have z1:decide (((lev (leastB b.bk i)[q] l:Nat):Int)<0)=false:=decide_eq_false (by omega)
  have z2:decide (((lev (leastB b.bk i)[q] l:Nat):Int)>4)=false:=decide_eq_false (by omega)
  have ws:IntKind.wrap .i64 (manyB b.bk i+((lev (leastB b.bk i)[q] l:Nat):Int))=manyB b.bk i+((lev (leastB b.bk i)[q] l:Nat):Int):=wrap_in (by unfold inI;omega)
  have z3:decide (manyB b2.bk i>manyB b.bk i+((lev (leastB b.bk i)[q] l:Nat):Int))=false:=decide_eq_false (by omega)
  refine go2 (bw15 hl2' hvq j2 j3 j11 j12 j15 v0 zs z1 z2 z3 ws hwq (n4 lv0)) (bw k26 fnil) ?_
  exact ⟨(sG hl2'),by omega,rfl⟩
end Go.Den.Ve
end

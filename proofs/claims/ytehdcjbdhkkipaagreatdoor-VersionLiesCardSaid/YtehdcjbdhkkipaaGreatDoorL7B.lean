/- Part of the proof that for every input the function VersionLies returns true and each argument reads as it did. Texts: VxC, VxCb. -/
import Derived.Test.YtehdcjbdhkkipaaGreatDoorVBAo
set_option linter.unusedSimpArgs false
set_option linter.unusedVariables false
section
namespace Go.Den.Ve
theorem word_nat {b:BP} (hB:OkB b.bk):∃ w:Nat,b.words=w∧b.words.toNat=w∧1≤w∧w≤3:=by
 have h1:=hB.w1
 have h3:=hB.w3
 have hbw:b.bk.words=b.words:=rfl
 exact ⟨b.words.toNat,by omega,rfl,by omega,by omega⟩
theorem between_len {w:Nat} (hw:w≤3) (l m:List Int):(betweenL w l m).length≤121:=Nat.le_trans (List.length_filter_le _ _) (lines_len w hw)
theorem mem_between {b:BP} (hB:OkB b.bk) {w:Nat} (hw:b.words=w) {l m x:List Int}:x∈betweenL w l m↔lineB b.words x=true∧lev l x+lev x m=lev l m:=by
 rw [betweenL,List.mem_filter,betB,decide_eq_true_iff]
 have:=mem_linesB (b:=b.bk) hB (l:=x)
 have hbw:b.bk.words=b.words:=rfl
 rw [hbw,hw,Int.toNat_natCast] at this
 rw [this,hw]
end Go.Den.Ve
end
section
namespace Go.Den.Ve
theorem any_mem {X:List (List Int)} {l:List Int}:(X.any fun x=>x==l)=decide (l∈X):=by
 rw [Bool.eq_iff_iff,List.any_eq_true,decide_eq_true_iff]
 constructor
 ·rintro ⟨x,hx,e⟩
  rw [← eq_of_beq e];exact hx
 ·exact fun h=>⟨l,h,by simp⟩
theorem bbs:((false==false)=true)∧((true==true)=true):=by decide
set_option maxHeartbeats 16000000 in
theorem c7 (b:BP) (L1 L2 L3:PV) (l1 l2 l3:List Int) (hL1:SlOf 1 encI L1 l1) (hL2:SlOf 1 encI L2 l2) (hL3:SlOf 1 encI L3 l3) (st:St):Cl EE (.func 7 [] []) [b.pv,L1,L2,L3] st (.ret (.bool true)) st:=by
 have hb:=b.h
 have s1:=hL1.slen
 have s2:=hL2.slen
 have s3:=hL3.slen
 have k23:=fun st=>c23 b st
 refine cF4 pr7 fn7 (fun tm hl h0 h1 h2 h3=>?_)
 cases hA:goodB b
 ·rw [hA] at k23
  refine go2 (bw5 hl h0 h1 h2 h3) (bw3 k23 c25 fnil) ?_
  exact fQ hl
 rw [hA] at k23
 have hB:=(goodB_yes hA).2
 have hw:=hB.okW
 cases d1:decide ((l1.length:Int)>6)
 case true =>
  refine go2 (bw9 hl h0 h1 h2 h3 s1 s2 s3 d1) (bw3 k23 c25 fnil) ?_
  exact fQ hl
 have n1:=of_decide_eq_false d1
 cases d2:decide ((l2.length:Int)>6)
 case true =>
  refine go2 (bw10 hl h0 h1 h2 h3 s1 s2 s3 d1 d2) (bw3 k23 c25 fnil) ?_
  exact fQ hl
 have n2:=of_decide_eq_false d2
 cases d3:decide ((l3.length:Int)>6)
 case true =>
  refine go2 (bw11 hl h0 h1 h2 h3 s1 s2 s3 d1 d2 d3) (bw3 k23 c25 fnil) ?_
  exact fQ hl
 have n3:=of_decide_eq_false d3
 have k1:=fun st=>c24 b.words b.v b.cells b.isCell hw L1 l1 hL1 (by omega) st
 have k2:=fun st=>c24 b.words b.v b.cells b.isCell hw L2 l2 hL2 (by omega) st
 have k3:=fun st=>c24 b.words b.v b.cells b.isCell hw L3 l3 hL3 (by omega) st
 cases e1:lineB b.words l1
 ·rw [e1] at k1
  refine go2 (bw11 hl h0 h1 h2 h3 s1 s2 s3 d1 d2 d3) (bw4 k23 k1 c25 fnil) ?_
  exact fQ hl
 rw [e1] at k1
 cases e2:lineB b.words l2
 ·rw [e2] at k2
  refine go2 (bw11 hl h0 h1 h2 h3 s1 s2 s3 d1 d2 d3) (bw5 k23 k1 k2 c25 fnil) ?_
  exact fQ hl
 rw [e2] at k2
 cases e3:lineB b.words l3
 ·rw [e3] at k3
  refine go2 (bw11 hl h0 h1 h2 h3 s1 s2 s3 d1 d2 d3) (bw6 k23 k1 k2 k3 c25 fnil) ?_
  exact fQ hl
 rw [e3] at k3
 obtain ⟨w,hwd,hwn,hw1,hw3⟩:=word_nat hB
 have hC:argB b l1 l2=true:=by rw [argB,bookB_iff.2 hB,e1,e2];rfl
 have hD:argB b l1 l3=true:=by rw [argB,bookB_iff.2 hB,e1,e3];rfl
 refine go2 (bw11 hl h0 h1 h2 h3 s1 s2 s3 d1 d2 d3) (bw5 k23 k1 k2 k3 fnil) ?_
 refine cR (bw4 hl h0 h1 h2) (c37_yes b hB.sm L1 L2 l1 l2 hL1 hL2 _ hC) ?_
 rintro v S1 ⟨u,rfl,hR⟩
 rw [hwn] at hR
 have hU:SlOf 1 encL u (betweenL w l1 l2):=hR.own_sl (fun _=>rfl)
 have b1:hp S1 st.heap.length=some (.var [iv b.words,b.v]):=hR.hp (sG fnil)
 have m1:=hp_lt b1
 have x1:=hR.lo
 have x2:=hR.len
 simp only [lo_push,len_push] at x1 x2
 have hbl:=between_len hw3 l1 l2
 have q1:=fun st=>c26y b hB L1 L2 l1 l2 hL1 hL2 e1 e2 st
 have q2:=fun st=>c26y b hB L1 L3 l1 l3 hL1 hL3 e1 e3 st
 have q3:=fun st=>c26y b hB L3 L2 l3 l2 hL3 hL2 e3 e2 st
 have v1:=lev4 e1 e3
 have v2:=lev4 e3 e2
 have hmem:∀ x∈betweenL w l1 l2,lineB b.words x=true:=fun x hx=>((mem_between hB hwd).1 hx).1
 have hsort:(betweenL w l1 l2).Pairwise (fun x y=>before x y=true):=(lines_sorted w).sublist List.filter_sublist
 have k40:=fun st=>c40 b hw u (betweenL w l1 l2) hU hmem hsort hbl st
 have hN1:∀ x∈betweenL w l1 l2,x.length<1000000:=fun x hx=>by have:=line4 (hmem x hx);omega
 have m41a:=fun st=>c41 u L1 (betweenL w l1 l2) l1 hU hL1 (by omega) hN1 st
 have m41b:=fun st=>c41 u L2 (betweenL w l1 l2) l2 hU hL2 (by omega) hN1 st
 have m41c:=fun st=>c41 u L3 (betweenL w l1 l2) l3 hU hL3 (by omega) hN1 st
 rw [any_mem,decide_eq_true ((mem_between hB hwd).2 ⟨e1,by rw [lev_self];omega⟩)] at m41a
 rw [any_mem,decide_eq_true ((mem_between hB hwd).2 ⟨e2,by rw [lev_self];omega⟩)] at m41b
 have hm3:decide (l3∈betweenL w l1 l2)=decide (lev l1 l3+lev l3 l2=lev l1 l2):=by
  rw [decide_eq_decide,mem_between hB hwd]
  exact ⟨fun h=>h.2,fun h=>⟨e3,h⟩⟩
 rw [any_mem,hm3] at m41c
 have p1:decide (((lev l1 l3:Nat):Int)<0)=false:=decide_eq_false (by omega)
 have p2:decide (((lev l3 l2:Nat):Int)<0)=false:=decide_eq_false (by omega)
 have p3:decide (((lev l1 l3:Nat):Int)>4)=false:=decide_eq_false (by omega)
 have p4:decide (((lev l3 l2:Nat):Int)>4)=false:=decide_eq_false (by omega)
 have ws:IntKind.wrap .i64 (((lev l1 l3:Nat):Int)+((lev l3 l2:Nat):Int))=((lev l1 l3+lev l3 l2:Nat):Int):=by rw [wrap_in (by unfold inI;omega)];omega
 have hbe:(((lev l1 l3+lev l3 l2:Nat):Int)==((lev l1 l2:Nat):Int))=decide (lev l1 l3+lev l3 l2=lev l1 l2):=by
  rw [Bool.eq_iff_iff,beq_iff_eq,decide_eq_true_iff];omega
 have hbn:(((lev l1 l3+lev l3 l2:Nat):Int) != ((lev l1 l2:Nat):Int))=!decide (lev l1 l3+lev l3 l2=lev l1 l2):=by
  rw [bne,hbe]
 cases hq:decide (lev l1 l3+lev l3 l2=lev l1 l2)
 ·rw [hq] at m41c hbe hbn
  refine go2 (bw16 hl h0 h1 h2 h3 b1 (n4 m1) zs p1 p2 p3 p4 ws hbe hbn bbs) (bw9 q1 q2 q3 k40 m41a m41b m41c c25 fnil) ?_
  exact fQ hl
 rw [hq] at m41c hbe hbn
 have hq':=of_decide_eq_true hq
 refine go2 (bw16 hl h0 h1 h2 h3 b1 (n4 m1) zs p1 p2 p3 p4 ws hbe hbn bbs) (bw9 q1 q2 q3 k40 m41a m41b m41c c25 fnil) ?_
 refine cR (bw5 hl h0 h1 h3 b1) (c37_yes b hB.sm L1 L3 l1 l3 hL1 hL3 _ hD) ?_
 rintro v S2 ⟨u2,rfl,hR2⟩
 rw [hwn] at hR2
 have hU2:SlOf 1 encL u2 (betweenL w l1 l3):=hR2.own_sl (fun _=>rfl)
 have b2:hp S2 st.heap.length=some (.var [iv b.words,b.v]):=hR2.hp b1
 have m2:=hp_lt b2
 have y1:=hR2.lo
 have y2:=hR2.len
 have hbl2:=between_len hw3 l1 l3
 have hmem2:∀ x∈betweenL w l1 l3,lineB b.words x=true:=fun x hx=>((mem_between hB hwd).1 hx).1
 have hsort2:(betweenL w l1 l3).Pairwise (fun x y=>before x y=true):=(lines_sorted w).sublist List.filter_sublist
 have k40b:=fun st=>c40 b hw u2 (betweenL w l1 l3) hU2 hmem2 hsort2 hbl2 st
 have hall:∀ x∈betweenL w l1 l3,x∈betweenL w l1 l2:=fun x hx=>by
  obtain ⟨g1,g2⟩:=(mem_between hB hwd).1 hx
  refine (mem_between hB hwd).2 ⟨g1,?_⟩
  have t1:=lev_tri l1 x l2
  have t2:=lev_tri x l3 l2
  omega
 have us:=hU2.slen
 refine go2 (bw4 hl b2 (n4 m2) zs) (bw k40b fnil) ?_
 refine wp_for [19] (fun i vs S=>vs=[iv i]∧i≤(betweenL w l1 l3).length∧S=S2) (fun i=>(betweenL w l1 l3).length - i) ⟨(sR hl),Nat.zero_le _,rfl⟩ ?_
 rintro i tm1 S ⟨hv,hi,rfl⟩ hS
 simp only [List.map_cons,List.map_nil,List.cons.injEq,and_true] at hv
 have hl1:tm1.length=179:=lN hS hl;have i9:tg tm1 9=u:=tQ hS hl;have i17:tg tm1 17=u2:=tQ hS hl;clear hS
 refine go2 (bw4 hl1 hv i17 us) fnil ?_
 refine ⟨decide ((i:Int)<(betweenL w l1 l3).length),(sG hl1),fun hb=>?_,fun hb=>?_⟩
 ·refine go2 hl1 (bw c25 fnil) ?_
  exact fQ hl1
 ·have hlt:i<(betweenL w l1 l3).length:=by have:=of_decide_eq_true hb;omega
  have hw1:IntKind.wrap .i64 ((i:Int)+1)=((i+1:Nat):Int):=wrap_nat (n:=i+1) (by omega)
  refine ⟨by omega,?_⟩
  have m41:=fun st=>c41 u (elL (betweenL w l1 l3)[i]) (betweenL w l1 l2) (betweenL w l1 l3)[i] hU (el_sl _) (by omega) hN1 st
  rw [any_mem,decide_eq_true (hall _ (List.getElem_mem hlt))] at m41
  refine go2 (bw5 hl1 hv i9 i17 hw1) (bw m41 fnil) ?_
  exact ⟨(sG hl1),by omega,rfl⟩
end Go.Den.Ve
end

/- Part of the proofs of laws of the package version. Texts: VxJ. -/
import Derived.Test.YtehdcjbdhkkipaaGreatDoorVIAo
set_option linter.unusedSimpArgs false
set_option linter.unusedVariables false
section
namespace Go.Den.Ve
theorem best_tree {b:BP} {t:List SI} {o:List Int×Int} (h:bestF (fun x y:List Int×Int=>decide (x.2<y.2)) (treesT b.bk (t.map SI.l))=some o):treeB b.cs.length o.1=true∧o.2=totalI b.bk (t.map SI.l) o.1∧∀ tr,treeB b.cs.length tr=true→o.2≤totalI b.bk (t.map SI.l) tr∧(totalI b.bk (t.map SI.l) tr=o.2→bef tr o.1=false):=by
 have hbl:b.bk.copies.length=b.cs.length:=by simp
 obtain ⟨A,B,e,h1,h2⟩:=best_some (m:=fun x:List Int×Int=>x.2) h
 have hs:(treesT b.bk (t.map SI.l)).Pairwise (fun x y=>bef x.1 y.1=true):=by
  unfold treesT
  rw [List.pairwise_map]
  exact trees_sorted _
 have hm:o∈treesT b.bk (t.map SI.l):=by rw [e];simp
 obtain ⟨tr,htr,rfl⟩:=List.mem_map.1 hm
 rw [mem_trees,hbl] at htr
 refine ⟨htr,rfl,fun y hy=>?_⟩
 have hym:(y,totalI b.bk (t.map SI.l) y)∈treesT b.bk (t.map SI.l):=List.mem_map.2 ⟨y,mem_trees.2 (by rw [hbl];exact hy),rfl⟩
 rw [e] at hs hym
 rcases List.mem_append.1 hym with hy'|hy'
 ·have h3:=h1 _ hy'
  simp only at h3
  exact ⟨Int.le_of_lt h3,fun h4=>by simp only at h4;omega⟩
 ·rcases List.mem_cons.1 hy' with hy'|hy'
  ·cases hy'
   exact ⟨Int.le_refl _,fun _=>bef_irr _⟩
  ·have h3:=h2 _ hy'
   simp only at h3
   refine ⟨h3,fun _=>?_⟩
   rw [List.pairwise_append] at hs
   exact bef_asym _ _ ((List.pairwise_cons.1 hs.2.1).1 _ hy')
set_option maxHeartbeats 32000000 in
theorem c19 (b:BP) (T P:PV) (t:List SI) (tr:List Int) (hT:SlOf 1 encSI T t) (hP:SlOf 1 encI P tr) (st:St):Cl EE (.func 19 [] []) [b.pv,T,P] st (.ret (.bool true)) st:=by
 have hb:=b.h
 have hTs:=hT.slen
 have hPs:=hP.slen
 have k23:=fun st=>c23 b st
 have k66:=fun st=>c66 T t hT st
 refine cF3 pr19 fn19 (fun tm hl h0 h1 h2=>?_)
 cases hA:goodB b
 ·rw [hA] at k23
  refine go2 (bw4 hl h0 h1 h2) (bw3 k23 c25 fnil) ?_
  exact fQ hl
 rw [hA] at k23
 have hB:=(goodB_yes hA).2
 have hw:=hB.okW
 cases hBr:briefS t
 ·rw [hBr] at k66
  refine go2 (bw4 hl h0 h1 h2) (bw4 k23 k66 c25 fnil) ?_
  exact fQ hl
 rw [hBr] at k66
 have htN:t.length≤6∧∀ x∈t,x.l.length≤6:=by
  simp only [briefS,Bool.and_eq_true,decide_eq_true_eq,List.all_eq_true] at hBr
  exact hBr
 have k67:=fun st=>c67 b hB T t hT (by omega) (fun x hx=>by have:=htN.2 x hx;omega) st
 cases ht:txtB b.bk (t.map SI.l)
 ·rw [ht] at k67
  refine go2 (bw4 hl h0 h1 h2) (bw5 k23 k66 k67 c25 fnil) ?_
  exact fQ hl
 rw [ht] at k67
 cases d7:decide ((tr.length:Int)>7)
 case true =>
  refine go2 (bw6 hl h0 h1 h2 hPs d7) (bw5 k23 k66 k67 c25 fnil) ?_
  exact fQ hl
 have hd7:=of_decide_eq_false d7
 have k72:=fun st=>c72 b hB.sm.n P tr hP (by omega) st
 cases hTr:treeB b.cs.length tr
 ·rw [hTr] at k72
  refine go2 (bw6 hl h0 h1 h2 hPs d7) (bw6 k23 k66 k67 k72 c25 fnil) ?_
  exact fQ hl
 rw [hTr] at k72
 obtain ⟨htl',hti,_⟩:=tree_in hTr
 have htl:=(txt_in ht).1
 have hl4:=hB.l4
 have hc5:b.cs.length≤5:=by have:=hB.c5;simpa using this
 have hbk:=bookB_iff.2 hB
 refine go2 (bw6 hl h0 h1 h2 hPs d7) (bw5 k23 k66 k67 k72 fnil) ?_
 refine cR (bw3 hl h0 h1) (c70_yes b hB.sm T t hT (by omega) _ (by rw [tvArg,hbk,ht];rfl)) ?_
 rintro v S1 ⟨o,ho,rfl,rfl⟩
 obtain ⟨ho1,ho2,ho3⟩:=best_tree ho
 obtain ⟨hol,hoi,_⟩:=tree_in ho1
 have hE:=el_sl o.1
 have hEs:=hE.slen
 have hEc:=el_cells o.1
 have k68:=fun st=>c68_yes b hB.sm T t hT (by omega) P tr hP st (by rw [totArg,hbk,ht,hTr];rfl)
 have k68o:=fun st=>c68_yes b hB.sm T t hT (by omega) (elL o.1) o.1 hE st (by rw [totArg,hbk,ht,ho1];rfl)
 have k72o:=fun st=>c72 b hB.sm.n (elL o.1) o.1 hE (by omega) st
 rw [ho1] at k72o
 rw [← ho2] at k68o
 obtain ⟨hle,hbf⟩:=ho3 tr hTr
 have p1:((o.1.length:Int) != b.cs.length)=false:=by rw [hol];simp
 have p2:decide (totalI b.bk (t.map SI.l) tr<o.2)=false:=decide_eq_false (by omega)
 have k49:=fun st=>c49 P (elL o.1) tr o.1 hP hE (by omega) st
 refine go2 (bw10 hl h0 h1 h2 zs nne p1 p2 hEs hEc) (bw4 k68 k68o k72o fnil) ?_
 refine wops_merge (fun tm S=>tm.length=185∧tg tm 1=T∧tg tm 2=P∧tg tm 3 = .ptr st.heap.length 0∧tg tm 10=iv (totalI b.bk (t.map SI.l) tr)∧tg tm 108 = .bool false∧S=({ heap:=st.heap,lo:=st.heap.length }:St).push (.var [iv b.words,b.v])) ?_ ?_
 ·cases hq:(totalI b.bk (t.map SI.l) tr==o.2)
  ·refine go2 (bw hl hq) fnil ?_
   exact ⟨(sG hl),(sG (bw hl h1)),(sG (bw hl h2)),(sG hl),(sG hl),(sG hl),rfl⟩
  ·rw [hbf (eq_of_beq hq)] at k49
   refine go2 (bw3 hl h2 hq) (bw k49 fnil) ?_
   exact ⟨(sG hl),(sG (bw hl h1)),(sG (bw hl h2)),(sG hl),(sG hl),(sG hl),rfl⟩
 clear hl h0 h1 h2 tm
 rintro tm S ⟨hl,h1,h2,h3,h10,h108,rfl⟩
 refine go2 (bw hl h108) fnil ?_
 refine wp_for [15,14] (fun i vs S=>vs=[iv i,iv (totalK b t tr i)]∧i≤tr.length∧S=({ heap:=st.heap,lo:=st.heap.length }:St).push (.var [iv b.words,b.v])) (fun i=>tr.length - i) ⟨(sR hl),Nat.zero_le _,rfl⟩ ?_
 rintro i tm1 S ⟨hv,hi,rfl⟩ hS
 simp only [List.map_cons,List.map_nil,List.cons.injEq,and_true] at hv
 obtain ⟨hv15,hv14⟩:=hv
 have hl1:tm1.length=185:=lN hS hl;have i1:tg tm1 1=T:=tQ hS (bw5 hl h1 h2 h3 h10);have i2:tg tm1 2=P:=tQ hS (bw5 hl h1 h2 h3 h10);have i3:tg tm1 3 = .ptr st.heap.length 0:=tQ hS (bw5 hl h1 h2 h3 h10);have i10:tg tm1 10=iv (totalI b.bk (t.map SI.l) tr):=tQ hS (bw5 hl h1 h2 h3 h10);clear hS
 refine go2 (bw4 hl1 hv15 i2 hPs) fnil ?_
 refine ⟨decide ((i:Int)<tr.length),(sG hl1),fun hbi=>?_,fun hbi=>?_⟩
 ·have hlt:=of_decide_eq_false hbi
  have hin:i=tr.length:=by omega
  rw [hin,totalK_all] at hv14
  refine go2 (bw4 hl1 hv14 i10 nee) (bw c25 fnil) ?_
  exact fQ hl1
 have hlt:i<tr.length:=by have:=of_decide_eq_true hbi;omega
 have hwi:IntKind.wrap .i64 ((i:Int)+1)=((i+1:Nat):Int):=wrap_nat (n:=i+1) (by omega)
 refine ⟨by omega,?_⟩
 have hn:i<b.cs.length:=by omega
 have on:=CP.okl hB (List.getElem_mem hn)
 have hCn:=b.cs[i].h
 have hx:=hti _ (List.getElem_mem hlt)
 have hg:tr.getD i 0=tr[i]:=getD_in hlt
 have hts:=totalK_succ b t tr i
 rw [hg,takes_from] at hts
 have htin:=totalK_in b hB t ht htl' hti (k:=i) (by omega)
 refine go2 hl1 fnil ?_
 refine wp_for [16,14] (fun k vs S=>vs=[iv k,iv (totalK b t tr i+copiedK (fromL b t tr[i]) (b.bk.copies.getD i []) k)]∧k≤lines1 b.bk∧S=({ heap:=st.heap,lo:=st.heap.length }:St).push (.var [iv b.words,b.v])) (fun k=>lines1 b.bk - k) ⟨by simp only [↓reduceIte,go_sem,hl1,hv14];simp [copiedK],Nat.zero_le _,rfl⟩ ?_
 clear hv14
 rintro k tm2 S ⟨hv,hk,rfl⟩ hS2
 simp only [List.map_cons,List.map_nil,List.cons.injEq,and_true] at hv
 obtain ⟨hv16,hv14⟩:=hv
 have hl2:tm2.length=185:=lN hS2 hl1;have j1:tg tm2 1=T:=tQ hS2 (bw5 hl1 i1 i2 i3 hv15);have j2:tg tm2 2=P:=tQ hS2 (bw5 hl1 i1 i2 i3 hv15);have j3:tg tm2 3 = .ptr st.heap.length 0:=tQ hS2 (bw5 hl1 i1 i2 i3 hv15);have j15:tg tm2 15=iv i:=tQ hS2 (bw5 hl1 i1 i2 i3 hv15);clear hS2
 refine go2 (bw4 hl2 hv16 j1 hTs) fnil ?_
 refine ⟨decide ((k:Int)<t.length),(sG hl2),fun hbk'=>?_,fun hbk'=>?_⟩
 ·have hltk:=of_decide_eq_false hbk'
  have hkn:k=lines1 b.bk:=by omega
  rw [hkn,← copy_len b hB hn,copiedK_all,← hts] at hv14
  refine go2 (bw3 hl2 j15 hwi) fnil ?_
  exact ⟨(sG (bw hl2 hv14)),by omega,rfl⟩
 have hltk:k<lines1 b.bk:=by have:=of_decide_eq_true hbk';omega
 have hkt:k<t.length:=by omega
 have hkn:k<b.cs[i].ls.length:=by omega
 have hwk:IntKind.wrap .i64 ((k:Int)+1)=((k+1:Nat):Int):=wrap_nat (n:=k+1) (by omega)
 refine ⟨by omega,?_⟩
 have hXn:=b.cs[i].ls[k].h
 have hXt:=t[k].h
 have hs:=copiedK_succ (fromL b t tr[i]) (b.bk.copies.getD i []) k
 rw [copy_ln b hn hkn] at hs
 have hin2:=fromK_in b hB t ht hx.1 hx.2 hn (k:=k+1) (by omega)
 have hline:=from_line b hB t ht hx.1 hx.2 hltk
 have hx2:=(on.2 _ (List.getElem_mem hkn)).1
 cases hlo:b.cs[i].ls[k].lost
 case true =>
  have h0t:takenI ((fromL b t tr[i]).getD k []) b.cs[i].ls[k].ln=0:=by unfold takenI;simp [hlo]
  rw [h0t,Int.add_zero] at hs
  cases d:decide (tr[i]≥0)
  ·refine go2 (bw9 hl2 hv16 j1 j2 j3 j15 d hlo hwk) fnil ?_
   exact ⟨(sG (bw3 hl2 hv14 hs)),by omega,rfl⟩
  ·obtain ⟨q,hq⟩:∃ q:Nat,tr[i]=q:=⟨tr[i].toNat,by have:=of_decide_eq_true d;omega⟩
   have hql:q<b.cs.length:=by omega
   have oq:=CP.okl hB (List.getElem_mem hql)
   have hCq:=b.cs[q].h
   have hkq:k<b.cs[q].ls.length:=by omega
   have d':decide ((q:Int)≥0)=true:=decide_eq_true (by omega)
   refine go2 (bw10 hl2 hv16 j1 j2 j3 j15 hq d' hlo hwk) fnil ?_
   exact ⟨(sG (bw3 hl2 hv14 hs)),by omega,rfl⟩
 have hlv:takenI ((fromL b t tr[i]).getD k []) b.cs[i].ls[k].ln=((lev ((fromL b t tr[i]).getD k []) b.cs[i].ls[k].l:Nat):Int):=by unfold takenI;simp [hlo]
 rw [hlv] at hs
 have h4:=lev4 hline hx2
 have w2:=wrap_in (n:=totalK b t tr i+copiedK (fromL b t tr[i]) (b.bk.copies.getD i []) k+((lev ((fromL b t tr[i]).getD k []) b.cs[i].ls[k].l:Nat):Int)) (by unfold inI;omega)
 rw [Int.add_assoc,← hs] at w2
 replace w2:IntKind.wrap .i64 (totalK b t tr i+copiedK (fromL b t tr[i]) (b.bk.copies.getD i []) k+((lev ((fromL b t tr[i]).getD k []) b.cs[i].ls[k].l:Nat):Int))=totalK b t tr i+copiedK (fromL b t tr[i]) (b.bk.copies.getD i []) (k+1):=by rw [Int.add_assoc,← hs];exact w2
 cases d:decide (tr[i]≥0)
 ·have hd:=of_decide_eq_false d
  have hm:=from_t b t hkt (p:=tr[i]) (by omega)
  rw [hm] at hline h4 w2
  have k26:=fun st=>c26y b hB t[k].v b.cs[i].ls[k].w t[k].l b.cs[i].ls[k].l hXt hXn hline hx2 st
  have z1:decide (((lev t[k].l b.cs[i].ls[k].l:Nat):Int)<0)=false:=decide_eq_false (by omega)
  have z2:decide (((lev t[k].l b.cs[i].ls[k].l:Nat):Int)>4)=false:=decide_eq_false (by omega)
  refine go2 (bw14 hl2 hv16 hv14 j1 j2 j3 j15 d hlo hwk w2 z1 z2 zs) (bw k26 fnil) ?_
  exact ⟨(sG hl2),by omega,rfl⟩
 ·obtain ⟨q,hq⟩:∃ q:Nat,tr[i]=q:=⟨tr[i].toNat,by have:=of_decide_eq_true d;omega⟩
  have hql:q<b.cs.length:=by omega
  have oq:=CP.okl hB (List.getElem_mem hql)
  have hCq:=b.cs[q].h
  have hkq:k<b.cs[q].ls.length:=by omega
  have d':decide ((q:Int)≥0)=true:=decide_eq_true (by omega)
  have hm:(fromL b t tr[i]).getD k []=b.cs[q].ls[k].l:=by rw [hq];exact from_c b t hql hkq
  have hXq:=b.cs[q].ls[k].h
  rw [hm] at hline h4 w2
  rw [hq] at hv14 w2
  have k26:=fun st=>c26y b hB b.cs[q].ls[k].w b.cs[i].ls[k].w b.cs[q].ls[k].l b.cs[i].ls[k].l hXq hXn hline hx2 st
  have z1:decide (((lev b.cs[q].ls[k].l b.cs[i].ls[k].l:Nat):Int)<0)=false:=decide_eq_false (by omega)
  have z2:decide (((lev b.cs[q].ls[k].l b.cs[i].ls[k].l:Nat):Int)>4)=false:=decide_eq_false (by omega)
  refine go2 (bw15 hl2 hv16 hv14 j1 j2 j3 j15 hq d' hlo hwk w2 z1 z2 zs) (bw k26 fnil) ?_
  exact ⟨(sG (bw hl2 hq)),by omega,rfl⟩
end Go.Den.Ve
end

/- Part of the proofs of laws of the package version. Texts: VwE, VxA, VxB. -/
import Derived.Test.YtehdcjbdhkkipaaGreatDoorVCAo
set_option linter.unusedSimpArgs false
set_option linter.unusedVariables false
section
namespace Go.Den.Ve
theorem CP.okl {b:BP} (h:OkB b.bk) {c:CP} (hc:c∈b.cs):c.ls.length=lines1 b.bk∧∀ x∈c.ls,lineB b.words x.l=true∧(x.lost=true→x.l=[]):=by
 obtain ⟨h1,h2⟩:=h.all c.c (List.mem_map.2 ⟨c,hc,rfl⟩)
 exact ⟨by simpa using h1,fun x hx=>h2 x.ln (List.mem_map.2 ⟨x,hx,rfl⟩)⟩
theorem line4 {w:Int} {l:List Int} (h:lineB w l=true):l.length≤4:=(lineB_iff.1 h).1
theorem c26y (b:BP) (hB:OkB b.bk) (L1 L2:PV) (l1 l2:List Int) (hL1:SlOf 1 encI L1 l1) (hL2:SlOf 1 encI L2 l2) (h1:lineB b.words l1=true) (h2:lineB b.words l2=true) (st:St):Cl EE (.func 26 [] []) [b.pv,L1,L2] st (.ret (.tuple [iv (lev l1 l2:Nat),iv 0])) st:=by
 have:=c26 b hB.sm L1 L2 l1 l2 hL1 hL2 st
 rw [if_pos (by rw [bookB_iff.2 hB,h1,h2];rfl)] at this
 exact this
theorem lev4 {w:Int} {l m:List Int} (h1:lineB w l=true) (h2:lineB w m=true):lev l m≤4:=by
 have:=lev_max l m
 have:=line4 h1
 have:=line4 h2
 omega
def costK (b:BK) (i:Nat) (l:List Int) (k:Nat):Int:=((b.copies.take k).map fun c=>takenI l (c.getD i ⟨true,[]⟩)).sum
theorem costK_succ (b:BP) (i:Nat) (l:List Int) {k:Nat} (hk:k<b.cs.length) (hi:i<b.cs[k].ls.length):costK b.bk i l (k+1)=costK b.bk i l k+takenI l b.cs[k].ls[i].ln:=by
 unfold costK
 have hk':k<b.bk.copies.length:=by simpa using hk
 rw [List.take_succ_eq_append_getElem hk',List.map_append,List.sum_append_int,List.map_singleton,List.sum_singleton]
 congr 2
 have:b.bk.copies[k]=b.cs[k].c:=by simp
 rw [this,List.getD_eq_getElem?_getD,List.getElem?_map,List.getElem?_eq_getElem hi];rfl
theorem taken4 {w:Int} {l:List Int} {x:LP} (h1:lineB w l=true) (h2:lineB w x.l=true):0≤takenI l x.ln∧takenI l x.ln≤4:=by
 refine ⟨taken_nn _ _,?_⟩
 unfold takenI
 have:=lev4 h1 h2
 split
 ·omega
 ·show ((lev l x.l:Nat):Int)≤4
  omega
theorem costK_in (b:BP) (hB:OkB b.bk) {i:Nat} (hi:i<lines1 b.bk) {l:List Int} (hl:lineB b.words l=true):∀ {k:Nat},k≤b.cs.length→0≤costK b.bk i l k∧costK b.bk i l k≤4*k
 | 0,_=>by simp [costK]
 | k+1,hk=>by
  have h1:=costK_in b hB hi hl (k:=k) (by omega)
  have hc:=CP.okl hB (List.getElem_mem (h:=show k<b.cs.length by omega))
  have hik:i<b.cs[k].ls.length:=by omega
  have h2:=taken4 (x:=b.cs[k].ls[i]) hl (hc.2 _ (List.getElem_mem hik)).1
  rw [costK_succ b i l (by omega) hik]
  omega
def briefS (X:List SI):Bool:=decide (X.length≤6)&&X.all fun x=>decide (x.l.length≤6)
end Go.Den.Ve
end
section
namespace Go.Den.Ve
theorem goodB_yes {b:BP} (h:goodB b=true):smallB b=true∧OkB b.bk:=by
 simp only [goodB,Bool.and_eq_true] at h
 exact ⟨h.1,bookB_iff.1 h.2⟩
def anyArg (b:BP) (l1 l2:List Int):Bool:=smallB b&&(decide ((l1.length:Int)≤6)&&decide ((l2.length:Int)≤6))
end Go.Den.Ve
end
section
namespace Go.Den.Ve
theorem z0:((0:Nat):Int)=0:=rfl
theorem argB_yes {b:BP} {l m:List Int} (h:argB b l m=true):OkB b.bk∧lineB b.words l=true∧lineB b.words m=true:=by
 simp only [argB,Bool.and_eq_true] at h
 exact ⟨bookB_iff.1 h.1,h.2.1,h.2.2⟩
set_option maxHeartbeats 16000000 in
theorem c4 (b:BP) (L1 L2:PV) (l1 l2:List Int) (hL1:SlOf 1 encI L1 l1) (hL2:SlOf 1 encI L2 l2) (st:St):Cl EE (.func 4 [] []) [b.pv,L1,L2] st (.ret (.bool true)) st:=by
 have hb:=b.h
 have s1:=hL1.slen
 have s2:=hL2.slen
 have k28:=fun st=>c28 b st
 refine cF3 pr4 fn4 (fun tm hl h0 h1 h2=>?_)
 cases hA:smallB b
 ·rw [hA] at k28
  refine go2 (bw4 hl h0 h1 h2) (bw3 k28 c25 fnil) ?_
  exact fQ hl
 rw [hA] at k28
 obtain ⟨hN,hM⟩:=smallB_yes hA
 cases d1:decide ((l1.length:Int)>6)
 case true =>
  refine go2 (bw7 hl h0 h1 h2 s1 s2 d1) (bw3 k28 c25 fnil) ?_
  exact fQ hl
 have n1:=of_decide_eq_false d1
 cases d2:decide ((l2.length:Int)>6)
 case true =>
  refine go2 (bw8 hl h0 h1 h2 s1 s2 d1 d2) (bw3 k28 c25 fnil) ?_
  exact fQ hl
 have n2:=of_decide_eq_false d2
 have k30:=fun st=>c30 b hN (fun c hc x hx=>by have:=hM c hc x hx;omega) st
 cases hC:argB b l1 l2
 ·have k29:=fun st=>c29_no b hN L1 L2 l1 l2 hL1 hL2 st hC
  cases hK:bookB b.bk
  ·rw [hK] at k30
   refine go2 (bw11 hl h0 h1 h2 s1 s2 d1 d2 zs nee z0) (bw5 k28 k29 k30 c25 fnil) ?_
   exact fQ hl
  have hw:=(bookB_iff.1 hK).okW
  have k1:=fun st=>c24 b.words b.v b.cells b.isCell hw L1 l1 hL1 (by omega) st
  have k2:=fun st=>c24 b.words b.v b.cells b.isCell hw L2 l2 hL2 (by omega) st
  rw [hK] at k30
  cases e1:lineB b.words l1
  ·rw [e1] at k1
   refine go2 (bw11 hl h0 h1 h2 s1 s2 d1 d2 zs nee z0) (bw6 k28 k29 k30 k1 c25 fnil) ?_
   exact fQ hl
  rw [e1] at k1
  cases e2:lineB b.words l2
  ·rw [e2] at k2
   refine go2 (bw11 hl h0 h1 h2 s1 s2 d1 d2 zs nee z0) (bw7 k28 k29 k30 k1 k2 c25 fnil) ?_
   exact fQ hl
  rw [argB,hK,e1,e2] at hC
  cases hC
 obtain ⟨hB,e1,e2⟩:=argB_yes hC
 have hw:=hB.okW
 have k1:=fun st=>c24 b.words b.v b.cells b.isCell hw L1 l1 hL1 (by omega) st
 have k2:=fun st=>c24 b.words b.v b.cells b.isCell hw L2 l2 hL2 (by omega) st
 rw [e1] at k1
 rw [e2] at k2
 rw [bookB_iff.2 hB] at k30
 have k32:=fun st=>c32 L1 L2 l1 l2 hL1 hL2 (by omega) (by omega) st
 have q4:=lev4 e1 e2
 refine go2 (bw8 hl h0 h1 h2 s1 s2 d1 d2) (bw k28 fnil) ?_
 refine cR (bw4 hl h0 h1 h2) (c29_yes b hN L1 L2 l1 l2 hL1 hL2 _ hC) ?_
 rintro v S1 ⟨u,rfl,hR⟩
 have hU:SlOf 2 enc2 u (stepsL l1 l2):=hR.own_sl (fun _=>rfl)
 have b1:hp S1 st.heap.length=some (.var [iv b.words,b.v]):=hR.hp (sG fnil)
 have m1:=hp_lt b1
 have x1:=hR.lo
 have x2:=hR.len
 simp only [lo_push,len_push] at x1 x2
 refine go2 (bw6 hl h0 h1 h2 b1 (n4 m1)) (bw5 k30 k1 k2 k32 fnil) ?_
 refine cR (bw3 hl h1 h2) (c31 L1 L2 l1 l2 (lev l1 l2:Nat) hL1 hL2 (by omega) (by omega) (by omega) (by omega) _) ?_
 rintro v S2 ⟨w,rfl,hR2⟩
 rw [stepsR_lev] at hR2 ⊢
 have hW:SlOf 2 enc2 w (stepsL l1 l2):=hR2.own_sl (fun _=>rfl)
 have y1:=hR2.lo
 have y2:=hR2.len
 have hln:=(steps_led l1 l2).len
 have k33:=fun st=>c33 u w (stepsL l1 l2) (stepsL l1 l2) hU hW (by omega) st
 rw [beq_self_eq_true] at k33
 refine go2 (bw5 hl zs nee @isS @isN) (bw3 k33 c25 fnil) ?_
 exact fQ hl
set_option maxHeartbeats 16000000 in
theorem c5 (b:BP) (L1 L2 F:PV) (l1 l2:List Int) (s:List Sp) (hL1:SlOf 1 encI L1 l1) (hL2:SlOf 1 encI L2 l2) (hF:SlOf 2 enc2 F s) (st:St):Cl EE (.func 5 [] []) [b.pv,L1,L2,F] st (.ret (.bool true)) st:=by
 have hb:=b.h
 have s1:=hL1.slen
 have s2:=hL2.slen
 have s3:=hF.slen
 have k23:=fun st=>c23 b st
 refine cF4 pr5 fn5 (fun tm hl h0 h1 h2 h3=>?_)
 cases hA:goodB b
 ·rw [hA] at k23
  refine go2 (bw5 hl h0 h1 h2 h3) (bw3 k23 c25 fnil) ?_
  exact fQ hl
 rw [hA] at k23
 have hB:=(goodB_yes hA).2
 have hw:=hB.okW
 cases d1:decide ((l1.length:Int)>6)
 case true =>
  refine go2 (bw9 hl h0 h1 h2 h3 s1 s2 s3 d1) (bw3 k23 c25 fnil) ?_
  exact fQ hl
 have n1:=of_decide_eq_false d1
 cases d2:decide ((l2.length:Int)>6)
 case true =>
  refine go2 (bw10 hl h0 h1 h2 h3 s1 s2 s3 d1 d2) (bw3 k23 c25 fnil) ?_
  exact fQ hl
 have n2:=of_decide_eq_false d2
 have k1:=fun st=>c24 b.words b.v b.cells b.isCell hw L1 l1 hL1 (by omega) st
 have k2:=fun st=>c24 b.words b.v b.cells b.isCell hw L2 l2 hL2 (by omega) st
 cases e1:lineB b.words l1
 ·rw [e1] at k1
  refine go2 (bw10 hl h0 h1 h2 h3 s1 s2 s3 d1 d2) (bw4 k23 k1 c25 fnil) ?_
  exact fQ hl
 rw [e1] at k1
 cases e2:lineB b.words l2
 ·rw [e2] at k2
  refine go2 (bw10 hl h0 h1 h2 h3 s1 s2 s3 d1 d2) (bw5 k23 k1 k2 c25 fnil) ?_
  exact fQ hl
 rw [e2] at k2
 cases d3:decide ((s.length:Int)>10)
 case true =>
  refine go2 (bw11 hl h0 h1 h2 h3 s1 s2 s3 d1 d2 d3) (bw5 k23 k1 k2 c25 fnil) ?_
  exact fQ hl
 have n3:=of_decide_eq_false d3
 have hC:argB b l1 l2=true:=by rw [argB,bookB_iff.2 hB,e1,e2];rfl
 refine go2 (bw11 hl h0 h1 h2 h3 s1 s2 s3 d1 d2 d3) (bw4 k23 k1 k2 fnil) ?_
 refine cR (bw4 hl h0 h1 h2) (c29_yes b hB.sm L1 L2 l1 l2 hL1 hL2 _ hC) ?_
 rintro v S1 ⟨u,rfl,hR⟩
 have hU:SlOf 2 enc2 u (stepsL l1 l2):=hR.own_sl (fun _=>rfl)
 have b1:hp S1 st.heap.length=some (.var [iv b.words,b.v]):=hR.hp (sG fnil)
 have m1:=hp_lt b1
 have x1:=hR.lo
 have x2:=hR.len
 simp only [lo_push,len_push] at x1 x2
 have hled:=steps_led l1 l2
 have hln:=hled.len
 have g1:=line4 e1
 have g2:=line4 e2
 have k26:=fun st=>c26y b hB L1 L2 l1 l2 hL1 hL2 e1 e2 st
 have kS:=fun st=>c34 u L1 L2 (stepsL l1 l2) l1 l2 hU hL1 hL2 (by omega) (by omega) (by omega) st
 rw [hled.is] at kS
 have kC:=fun st=>c35 u (stepsL l1 l2) hU (by omega) st
 rw [steps_cost] at kC
 have kT:=fun st=>c34 F L1 L2 s l1 l2 hF hL1 hL2 (by omega) (by omega) (by omega) st
 have kD:=fun st=>c35 F s hF (by omega) st
 have kE:=fun st=>c36 F u s (stepsL l1 l2) hF hU (by omega) st
 have us:=hU.slen
 have z8:decide (((stepsL l1 l2).length:Int)>8)=false:=decide_eq_false (by omega)
 cases hT:ledL s l1 l2
 ·rw [hT] at kT
  refine go2 (bw11 hl h0 h1 h2 h3 b1 (n4 m1) zs nne us z8) (bw7 k26 kS kC kT kD c25 fnil) ?_
  exact fQ hl
 have hLd:=led_of hT
 have hcost:=hLd.cost
 rw [hT] at kT
 cases g:decide (((costL s:Nat):Int)>((lev l1 l2:Nat):Int))
 case true =>
  refine go2 (bw12 hl h0 h1 h2 h3 b1 (n4 m1) zs nne us z8 g) (bw7 k26 kS kC kT kD c25 fnil) ?_
  exact fQ hl
 have hg:=of_decide_eq_false g
 have hsoon:=steps_first hLd (by omega)
 have he:(((costL s:Nat):Int)==((lev l1 l2:Nat):Int))=true:=by rw [beq_iff_eq];omega
 rw [hsoon] at kE
 refine go2 (bw13 hl h0 h1 h2 h3 b1 (n4 m1) zs nne us z8 g he) (bw8 k26 kS kC kT kD kE c25 fnil) ?_
 exact fQ hl
end Go.Den.Ve
end

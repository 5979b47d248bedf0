/- Part of the proof that for every input the function VersionBetweens returns true and each argument reads as it did. Texts: VxC. -/
import Derived.Test.YtehdcjbdhkkipaaGreatDoorVBAo
set_option linter.unusedSimpArgs false
set_option linter.unusedVariables false
section
namespace Go.Den.Ve
theorem z0':((0:Nat):Int)=0:=rfl
theorem argB_yes' {b:BP} {l m:List Int} (h:argB b l m=true):OkB b.bk∧lineB b.words l=true∧lineB b.words m=true:=by
 simp only [argB,Bool.and_eq_true] at h
 exact ⟨bookB_iff.1 h.1,h.2.1,h.2.2⟩
theorem word_nat {b:BP} (hB:OkB b.bk):∃ w:Nat,b.words=w∧b.words.toNat=w∧1≤w∧w≤3:=by
 have h1:=hB.w1
 have h3:=hB.w3
 have hbw:b.bk.words=b.words:=rfl
 exact ⟨b.words.toNat,by omega,rfl,by omega,by omega⟩
theorem between_len {w:Nat} (hw:w≤3) (l m:List Int):(betweenL w l m).length≤121:=Nat.le_trans (List.length_filter_le _ _) (lines_len w hw)
theorem mem_between {b:BP} (hB:OkB b.bk) {w:Nat} (hw:b.words=w) {l m x:List Int}:x∈betweenL w l m↔lineB b.words x=true∧lev l x+lev x m=lev l m:=by
 rw [betweenL,List.mem_filter,betB,decide_eq_true_iff]
 have:=mem_linesB (b:=b.bk) hB (l:=x)
 have hbw:b.bk.words=b.words:=rfl
 rw [hbw,hw,Int.toNat_natCast] at this
 rw [this,hw]
set_option maxHeartbeats 16000000 in
theorem c6 (b:BP) (L1 L2:PV) (l1 l2:List Int) (hL1:SlOf 1 encI L1 l1) (hL2:SlOf 1 encI L2 l2) (st:St):Cl EE (.func 6 [] []) [b.pv,L1,L2] st (.ret (.bool true)) st:=by
 have hb:=b.h
 have s1:=hL1.slen
 have s2:=hL2.slen
 have k28:=fun st=>c28 b st
 refine cF3 pr6 fn6 (fun tm hl h0 h1 h2=>?_)
 cases hA:smallB b
 ·rw [hA] at k28
  refine go2 (bw4 hl h0 h1 h2) (bw3 k28 c25 fnil) ?_
  exact fQ hl
 rw [hA] at k28
 obtain ⟨hN,hM⟩:=smallB_yes hA
 cases d1:decide ((l1.length:Int)>6)
 case true =>
  refine go2 (bw7 hl h0 h1 h2 s1 s2 d1) (bw3 k28 c25 fnil) ?_
  exact fQ hl
 have n1:=of_decide_eq_false d1
 cases d2:decide ((l2.length:Int)>6)
 case true =>
  refine go2 (bw8 hl h0 h1 h2 s1 s2 d1 d2) (bw3 k28 c25 fnil) ?_
  exact fQ hl
 have n2:=of_decide_eq_false d2
 have k30:=fun st=>c30 b hN (fun c hc x hx=>by have:=hM c hc x hx;omega) st
 cases hC:argB b l1 l2
 ·have k37:=fun st=>c37_no b hN L1 L2 l1 l2 hL1 hL2 st hC
  cases hK:bookB b.bk
  ·rw [hK] at k30
   refine go2 (bw11 hl h0 h1 h2 s1 s2 d1 d2 zs nee z0') (bw5 k28 k37 k30 c25 fnil) ?_
   exact fQ hl
  have hw:=(bookB_iff.1 hK).okW
  have k1:=fun st=>c24 b.words b.v b.cells b.isCell hw L1 l1 hL1 (by omega) st
  have k2:=fun st=>c24 b.words b.v b.cells b.isCell hw L2 l2 hL2 (by omega) st
  rw [hK] at k30
  cases e1:lineB b.words l1
  ·rw [e1] at k1
   refine go2 (bw11 hl h0 h1 h2 s1 s2 d1 d2 zs nee z0') (bw6 k28 k37 k30 k1 c25 fnil) ?_
   exact fQ hl
  rw [e1] at k1
  cases e2:lineB b.words l2
  ·rw [e2] at k2
   refine go2 (bw11 hl h0 h1 h2 s1 s2 d1 d2 zs nee z0') (bw7 k28 k37 k30 k1 k2 c25 fnil) ?_
   exact fQ hl
  rw [argB,hK,e1,e2] at hC
  cases hC
 obtain ⟨hB,e1,e2⟩:=argB_yes' hC
 obtain ⟨w,hwd,hwn,hw1,hw3⟩:=word_nat hB
 have hw:=hB.okW
 have k1:=fun st=>c24 b.words b.v b.cells b.isCell hw L1 l1 hL1 (by omega) st
 have k2:=fun st=>c24 b.words b.v b.cells b.isCell hw L2 l2 hL2 (by omega) st
 rw [e1] at k1
 rw [e2] at k2
 rw [bookB_iff.2 hB] at k30
 refine go2 (bw8 hl h0 h1 h2 s1 s2 d1 d2) (bw k28 fnil) ?_
 refine cR (bw4 hl h0 h1 h2) (c37_yes b hN L1 L2 l1 l2 hL1 hL2 _ hC) ?_
 rintro v S1 ⟨u,rfl,hR⟩
 rw [hwn] at hR
 have hU:SlOf 1 encL u (betweenL w l1 l2):=hR.own_sl (fun _=>rfl)
 have b1:hp S1 st.heap.length=some (.var [iv b.words,b.v]):=hR.hp (sG fnil)
 have m1:=hp_lt b1
 have x1:=hR.lo
 have x2:=hR.len
 simp only [lo_push,len_push] at x1 x2
 refine go2 (bw7 hl h0 h1 h2 b1 (n4 m1) zs) (bw4 k30 k1 k2 fnil) ?_
 refine cT (bw6 hl h0 h1 h2 b1 zs) (c39 b hB w hwd L1 L2 l1 l2 hL1 hL2 e1 e2 _) ?_
 intro V2 S2 hR2
 have hV2:SlOf 1 encL V2 (betweenL w l1 l2):=slL hR2
 have y1:=hR2.lo
 have y2:=hR2.len
 have hbl:=between_len hw3 l1 l2
 have k38:=fun st=>c38 u V2 ((betweenL w l1 l2).map SI.of) ((betweenL w l1 l2).map SI.of) (slSI hU) (slSI hV2) (by rw [List.length_map];omega) (fun x hx=>by
  obtain ⟨y,hy,rfl⟩:=List.mem_map.1 hx
  have:=line4 ((mem_between hB hwd).1 hy).1
  show y.length<_
  omega) st
 rw [beq_self_eq_true] at k38
 refine go2 (bw3 hl zs nee) (bw3 k38 c25 fnil) ?_
 exact fQ hl
end Go.Den.Ve
end

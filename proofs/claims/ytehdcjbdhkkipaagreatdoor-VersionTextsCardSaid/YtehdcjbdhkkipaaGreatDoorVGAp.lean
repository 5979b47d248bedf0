/- Part of the proofs of laws of the package version. Texts: VxG. -/
import Derived.Test.YtehdcjbdhkkipaaGreatDoorVGAo
set_option linter.unusedSimpArgs false
set_option linter.unusedVariables false
section
namespace Go.Den.Ve
theorem zz2:(([0,0]:List Int)==[0,0])=true:=by decide
theorem whole_line {b:BP} (hB:OkB b.bk):∀ x∈wholeT b.bk,lineB b.words x=true:=fun x hx=>by
 obtain ⟨i,hi,rfl⟩:=List.mem_map.1 hx
 have hne:=leastB_ne b.bk i
 cases h:leastB b.bk i with
 | nil=>exact absurd h hne
 | cons y l=>exact leastB_line hB (i:=i) (by rw [h];simp)
theorem whole_len (b:BK):(wholeT b).length=lines1 b:=by simp [wholeT]
set_option maxHeartbeats 16000000 in
theorem c10 (b:BP) (n:Int) (st:St):Cl EE (.func 10 [] []) [b.pv,iv n] st (.ret (.bool true)) st:=by
 have hb:=b.h
 have k28:=fun st=>c28 b st
 refine cF2 pr10 fn10 (fun tm hl h0 h1=>?_)
 cases hA:smallB b
 ·rw [hA] at k28
  refine go2 (bw3 hl h0 h1) (bw3 k28 c25 fnil) ?_
  exact fQ hl
 rw [hA] at k28
 obtain ⟨hN,hM⟩:=smallB_yes hA
 have k30:=fun st=>c30 b hN (fun c hc x hx=>by have:=hM c hc x hx;omega) st
 have k53:=fun st=>c53 b hN.n n st
 cases hK:bookB b.bk
 ·have k50:=fun st=>c50_no b hN hK st
  have k51:=fun st=>c51_no b hN n (by rw [cpArg,hK];rfl) st
  rw [hK] at k30
  refine go2 (bw7 hl h0 h1 zs nee zz2 z0') (bw6 k28 k50 k51 k30 c25 fnil) ?_
  exact fQ hl
 have hB:=bookB_iff.1 hK
 have hl4:=hB.l4
 rw [hK] at k30
 have hline:=whole_line hB
 have hwl:=whole_len b.bk
 refine go2 (bw3 hl h0 h1) (bw k28 fnil) ?_
 refine cR (bw hl h0) (c50_yes b hN hB _) ?_
 rintro v S1 ⟨u,rfl,hR⟩
 have hU:SlOf 1 encL u (wholeT b.bk):=hR.own_sl (fun _=>rfl)
 have b1:hp S1 st.heap.length=some (.var [iv b.words,b.v]):=hR.hp (sG fnil)
 have m1:=hp_lt b1
 have x1:=hR.lo
 have x2:=hR.len
 simp only [lo_push,len_push] at x1 x2
 cases hI:inN n 0 (b.cs.length - 1)
 ·have k51:=fun st=>c51_no b hN n (by rw [cpArg,hK,hI];rfl) st
  rw [hI] at k53
  refine go2 (bw5 hl h0 h1 b1 (n4 m1)) (bw3 k51 k30 fnil) ?_
  refine cR (bw4 hl h0 b1 (n4 m1)) (c52 b hB _) ?_
  rintro v S2 ⟨u2,rfl,hR2⟩
  have hU2:SlOf 1 encL u2 (wholeT b.bk):=hR2.own_sl (fun _=>rfl)
  have b2:hp S2 st.heap.length=some (.var [iv b.words,b.v]):=hR2.hp (sG (bw b1 (n4 m1)))
  have b3:hp S2 S1.heap.length=some (.var [iv 0,iv 0]):=hR2.hp (sG fnil)
  have m2:=hp_lt b2
  have m3:=hp_lt b3
  have y1:=hR2.lo
  have y2:=hR2.len
  simp only [lo_push,len_push,lo_setVar,len_setVar] at y1 y2
  have k38:=fun st=>c38 u u2 ((wholeT b.bk).map SI.of) ((wholeT b.bk).map SI.of) (slSI hU) (slSI hU2) (by rw [List.length_map];omega) (fun x hx=>by
   obtain ⟨y,hy,rfl⟩:=List.mem_map.1 hx
   have:=line4 (hline y hy)
   show y.length<_
   omega) st
  rw [beq_self_eq_true] at k38
  refine go2 (bw11 hl h0 h1 b2 b3 (n4 m2) (n4 m3) zs nee nne zz2) (bw4 k38 k53 c25 fnil) ?_
  exact fQ hl
 ·obtain ⟨_,i,rfl,hi⟩:=cpArg_yes (b:=b) (n:=n) (by rw [cpArg,hK,hI];rfl)
  have k51:=fun st=>c51_yes b hN hB i hi st
  have k54:=fun st=>c54 b hB i hi st
  rw [hI] at k53
  refine go2 (bw5 hl h0 h1 b1 (n4 m1)) (bw3 k51 k30 fnil) ?_
  refine cR (bw4 hl h0 b1 (n4 m1)) (c52 b hB _) ?_
  rintro v S2 ⟨u2,rfl,hR2⟩
  have hU2:SlOf 1 encL u2 (wholeT b.bk):=hR2.own_sl (fun _=>rfl)
  have b2:hp S2 st.heap.length=some (.var [iv b.words,b.v]):=hR2.hp (sG (bw b1 (n4 m1)))
  have b3:hp S2 S1.heap.length=some (.var [iv (farLow b.bk i),iv (farHigh b.bk i)]):=hR2.hp (sG fnil)
  have m2:=hp_lt b2
  have m3:=hp_lt b3
  have y1:=hR2.lo
  have y2:=hR2.len
  simp only [lo_push,len_push,lo_setVar,len_setVar] at y1 y2
  have k38:=fun st=>c38 u u2 ((wholeT b.bk).map SI.of) ((wholeT b.bk).map SI.of) (slSI hU) (slSI hU2) (by rw [List.length_map];omega) (fun x hx=>by
   obtain ⟨y,hy,rfl⟩:=List.mem_map.1 hx
   have:=line4 (hline y hy)
   show y.length<_
   omega) st
  rw [beq_self_eq_true] at k38
  have hff:(([farLow b.bk i,farHigh b.bk i]:List Int)==[farLow b.bk i,farHigh b.bk i])=true:=by simp
  refine go2 (bw11 hl h0 h1 b2 b3 (n4 m2) (n4 m3) zs nee nne hff) (bw5 k38 k53 k54 c25 fnil) ?_
  exact fQ hl
end Go.Den.Ve
end

/- Part of the proof that for every input the function VersionFound returns true and each argument reads as it did. Texts: VxQ. -/
import Derived.Test.YtehdcjbdhkkipaaGreatDoorVMBc
import Derived.Test.YtehdcjbdhkkipaaGreatDoorVMBb
set_option linter.unusedSimpArgs false
set_option linter.unusedVariables false
section
namespace Go.Den.Ve
theorem mostK_succ{f:List Int→Int}{X:List (List Int)}{k:Nat}(hk:k<X.length):(X.take (k+1)).foldl (fun m w=>max m (f w)) 0=max ((X.take k).foldl (fun m w=>max m (f w)) 0) (f X[k]):=by
 rw[List.take_succ_eq_append_getElem hk,List.foldl_append];rfl
set_option maxHeartbeats 32000000 in
theorem c12(b:BP)(n i:Int)(L:PV)(l:List Int)(hL:SlOf 1 encI L l)(st:St):Cl EE (.func 12 [] []) [b.pv,L,iv n,iv i] st (.ret (.bool true)) st:=by
 have hb:=b.h
 have Ls:=hL.slen
 have k23:=fun st=>c23 b st
 refine cF4 pr12 fn12 (fun tm hl h0 h1 h2 h3=>?_)
 cases hA:goodB b
 ·rw[hA] at k23
  refine go2 (bw5 hl h0 h1 h2 h3) (bw3 k23 c25 fnil) ?_
  exact fQ hl
 rw[hA] at k23
 have hB:=(goodB_yes hA).2
 have hN:=hB.sm
 have hw:OkW b.words:=hB.okW
 cases d6:decide ((l.length:Int)>6)
 case true =>
  refine go2 (bw7 hl h0 h1 h2 h3 Ls d6) (bw3 k23 c25 fnil) ?_
  exact fQ hl
 have k24:=fun st=>c24 b.words b.v b.cells b.isCell hw L l hL (by have:=of_decide_eq_false d6;omega) st
 cases hLn:lineB b.words l
 ·rw[hLn] at k24
  refine go2 (bw7 hl h0 h1 h2 h3 Ls d6) (bw4 k23 k24 c25 fnil) ?_
  exact fQ hl
 rw[hLn] at k24
 have k53:=fun n st=>c53 b hN.n n st
 have k44:=fun n st=>c44 b hB n st
 cases hI:inN n 0 (b.cs.length - 1)
 ·refine go2 (bw8 hl h0 h1 h2 h3 Ls d6 hI) (bw5 k23 k24 k53 c25 fnil) ?_
  exact fQ hl
 cases hJ:inN i 0 (lines1 b.bk - 1)
 ·refine go2 (bw9 hl h0 h1 h2 h3 Ls d6 hI hJ) (bw6 k23 k24 k53 k44 c25 fnil) ?_
  exact fQ hl
 obtain⟨N,rfl,hNn⟩:∃ N:Nat,n=N∧N<b.cs.length:=by
  simp only[inN,Bool.and_eq_true,decide_eq_true_eq] at hI
  exact⟨n.toNat,by omega,by omega⟩
 obtain⟨I,rfl,hIi⟩:∃ I:Nat,i=I∧I<lines1 b.bk:=by
  simp only[inN,Bool.and_eq_true,decide_eq_true_eq] at hJ
  exact⟨i.toNat,by omega,by omega⟩
 have hbl:b.bk.copies.length=b.cs.length:=by simp
 have hlen:∀ c∈b.cs,c.ls.length=lines1 b.bk:=fun c hc=>by
  have:=(hB.all c.c (List.mem_map.2 ⟨_,hc,rfl⟩)).1
  simpa using this
 have hNl:=hlen _ (List.getElem_mem hNn)
 have hIl:I<b.cs[N].ls.length:=by omega
 have hCN:=b.cs[N].h
 have k55:=fun st=>c55_yes b hN hB st
 have n0:((0:Int) != 0)=false:=rfl
 cases hq:askB b.bk with
 | none =>
  rw[hq] at k55
  simp only at k55
  have hlo:=ask_none hq (n:=N) (i:=I) (by omega) hIi
  rw[lnAt_eq b hNn hIl] at hlo
  have hlo':b.cs[N].ls[I].lost=false:=hlo
  have n5:((5:Int) != 0)=true:=rfl
  refine go2 (bw12 hl h0 h1 h2 h3 Ls d6 hI hJ n5 hlo' @beq_self_eq_true.{0}) (bw7 k23 k24 k53 k44 k55 c25 fnil) ?_
  exact fQ hl
 | some x =>
  obtain⟨c,q,rfl,hc,hqi,hlost,hall⟩:=ask_some hq
  rw[hq] at k55
  simp only at k55
  have hcb:c<b.cs.length:=by omega
  have hcl:=hlen _ (List.getElem_mem hcb)
  have hql:q<b.cs[c].ls.length:=by omega
  have hCc:=b.cs[c].h
  have hIc:inN (c:Int) 0 (b.cs.length - 1)=true:=by simp only[inN,Bool.and_eq_true,decide_eq_true_eq];omega
  have hJc:inN (q:Int) 0 (lines1 b.bk - 1)=true:=by simp only[inN,Bool.and_eq_true,decide_eq_true_eq];omega
  have hlq:=hlost
  rw[lnAt_eq b hcb hql] at hlq
  have hlq':b.cs[c].ls[q].lost=true:=hlq
  have hfl:=found_le hB (by omega) hqi hlost hLn
  refine go2 (bw14 hl h0 h1 h2 h3 Ls d6 hI hJ hIc hJc n0 hlq' @beq_self_eq_true.{0}) (bw6 k23 k24 k53 k44 k55 fnil) ?_
  refine cR (bw hl h1) (c57 b hB c q hcb hqi L l hL _) ?_
  rintro v S1 ⟨f1,rfl,hf1,hK1⟩
  have hF1:OkB f1.bk:=by rw[hf1];exact found_ok hB (by omega) hLn
  have hf1h:=f1.h
  have b1:hp S1 st.heap.length=some (.var [iv b.words,b.v]):=hK1.hp (sG fnil)
  have q1:=hK1.2
  have q2:=hK1.len
  simp only[lo_push,len_push] at q1 q2
  refine go2 hl fnil ?_
  refine cR hl (c50_yes f1 hF1.sm hF1 _) ?_
  rintro v S2 ⟨u,rfl,hR2⟩
  rw[hf1]
  have b2:hp S2 st.heap.length=some (.var [iv b.words,b.v]):=hR2.hp b1
  have m2:=hp_lt b2
  have q3:=hR2.lo
  have q4:=hR2.len
  have p1:decide (wholeN (foundB b.bk c q l)<1)=false:=decide_eq_false (by omega)
  have p2:decide (wholeN (foundB b.bk c q l)>leftB b.bk q)=false:=decide_eq_false (by omega)
  cases hlo:b.cs[N].ls[I].lost
  ·refine go2 (bw11 hl h0 h1 h2 h3 b2 (n4 m2) n0 p1 p2 hlo) (bw c25 fnil) ?_
   exact fQ hl
  have hlostN:(lnAt b.bk N I).lost=true:=by rw[lnAt_eq b hNn hIl];exact hlo
  have hcase:=hall N I (by omega) hIi hlostN
  obtain⟨w,hwd⟩:∃ w:Nat,b.words=w:=⟨b.words.toNat,by have:=hw.lo;omega⟩
  have hw3:w≤3:=by have:=hw.hi;omega
  have hw1:1≤w:=by have:=hw.lo;omega
  have e2:b.bk.words.toNat=w:=by show b.words.toNat=w;omega
  have hmost:=found_most hB (n:=N) (i:=I) (by omega) hIi hlostN
  rw[e2] at hmost
  have hlines:=lines_len w hw3
  refine go2 (bw11 hl h0 h1 h2 h3 b2 (n4 m2) n0 p1 p2 hlo) fnil ?_
  refine cR (bw hl b2) (c58 b w hwd hw1 hw3 _) ?_
  intro V S3 hR3
  have hV:SlOf 1 encL V (linesL w):=slL hR3
  have hVs:=hV.slen
  have b3:hp S3 st.heap.length=some (.var [iv b.words,b.v]):=hR3.hp b2
  have q5:=hR3.lo
  have q6:=hR3.len
  try simp only[lo_push,len_push] at q5 q6
  refine go2 hl fnil ?_
  by_cases hIq:I=q
  ·have e1:((I:Int) != (q:Int))=false:=by rw[hIq];simp
   have e3:((I:Int)==(q:Int))=true:=by rw[hIq];simp
   have e4:decide ((N:Int)≥(c:Int))=true:=by
    rw[hIq] at hcase
    rw[decide_eq_true_iff]
    omega
   refine wp_for [19,17] (fun k vs S=>vs=[iv k,iv 0]∧k=0∧hp S st.heap.length=some (.var [iv b.words,b.v])∧st.heap.length≤S.lo∧S.lo≤S.heap.length) (fun k=>k) ⟨(sR hl),rfl,b3,by omega,by omega⟩ ?_
   rintro k tm1 S ⟨hv,rfl,a0,hlo1,hwf⟩ hS
   obtain⟨hv19,hv17⟩:=mv2 hv
   have hl1:tm1.length=209:=lN hS hl;have i2:tg tm1 2=iv N:=tQ hS (bw3 hl h2 h3);have i3:tg tm1 3=iv I:=tQ hS (bw3 hl h2 h3);have i9:tg tm1 9=iv c:=tQ hS (bw3 hl h2 h3);have i10:tg tm1 10=iv q:=tQ hS (bw3 hl h2 h3);have i11:tg tm1 11=iv (leftB b.bk q):=tQ hS (bw3 hl h2 h3);have i18:tg tm1 18=V:=tQ hS (bw3 hl h2 h3);clear hS
   cases hz:decide (((0:Nat):Int)<((linesL w).length:Int))
   ·refine go2 (bw12 hl1 hv19 hv17 i2 i3 i9 i10 i11 i18 hVs hz e1) fnil ?_
    refine⟨false,(sG (bw3 hl1 hz e1)),fun _=>?_,fun h=>by cases h⟩
    refine go2 (bw9 hl1 hv17 i2 i3 i9 i10 i11 e3 e4) (bw c25 fnil) ?_
    exact fQ hl1
   ·refine go2 (bw12 hl1 hv19 hv17 i2 i3 i9 i10 i11 i18 hVs hz e1) fnil ?_
    refine⟨false,(sG (bw3 hl1 hz e1)),fun _=>?_,fun h=>by cases h⟩
    refine go2 (bw9 hl1 hv17 i2 i3 i9 i10 i11 e3 e4) (bw c25 fnil) ?_
    exact fQ hl1
  ·have e1:((I:Int) != (q:Int))=true:=by simp;omega
   have e3:((I:Int)==(q:Int))=false:=by simp;omega
   refine wp_for [19,17] (fun k vs S=>vs=[iv k,iv (((linesL w).take k).foldl (fun m x=>max m (wholeN (foundB b.bk N I x))) 0)]∧k≤(linesL w).length∧hp S st.heap.length=some (.var [iv b.words,b.v])∧st.heap.length≤S.lo∧S.lo≤S.heap.length) (fun k=>(linesL w).length - k) ⟨(sR hl),Nat.zero_le _,b3,by omega,by omega⟩ ?_
   rintro k tm1 S ⟨hv,hk,a0,hlo1,hwf⟩ hS
   obtain⟨hv19,hv17⟩:=mv2 hv
   have hl1:tm1.length=209:=lN hS hl;have i2:tg tm1 2=iv N:=tQ hS (bw3 hl h2 h3);have i3:tg tm1 3=iv I:=tQ hS (bw3 hl h2 h3);have i4:tg tm1 4 = .ptr st.heap.length 0:=tQ hS (bw3 hl h2 h3);have i9:tg tm1 9=iv c:=tQ hS (bw3 hl h2 h3);have i10:tg tm1 10=iv q:=tQ hS (bw3 hl h2 h3);have i11:tg tm1 11=iv (leftB b.bk q):=tQ hS (bw3 hl h2 h3);have i18:tg tm1 18=V:=tQ hS (bw3 hl h2 h3);clear hS
   have m0:=hp_lt a0
   cases hz:decide ((k:Int)<((linesL w).length:Int))
   ·have hkn:k=(linesL w).length:=by have:=of_decide_eq_false hz;omega
    rw[hkn,List.take_length,hmost] at hv17
    refine go2 (bw12 hl1 hv19 hv17 i2 i3 i9 i10 i11 i18 hVs hz e1) fnil ?_
    refine⟨false,(sG (bw hl1 hz)),fun _=>?_,fun h=>by cases h⟩
    rcases hcase with h|⟨h,hpos⟩
    ·have p3:decide (leftB b.bk I>leftB b.bk q)=true:=decide_eq_true h
     refine go2 (bw10 hl1 hv17 i2 i3 i9 i10 i11 e1 e3 p3) (bw c25 fnil) ?_
     exact fQ hl1
    ·have p3:decide (leftB b.bk I>leftB b.bk q)=false:=decide_eq_false (by omega)
     have p4:(leftB b.bk I==leftB b.bk q)=true:=by rw[h];simp
     rcases hpos with hpos|⟨hpos,hpos2⟩
     ·have p5:decide ((N:Int)>(c:Int))=true:=decide_eq_true (by omega)
      refine go2 (bw12 hl1 hv17 i2 i3 i9 i10 i11 e1 e3 p3 p4 p5) (bw c25 fnil) ?_
      exact fQ hl1
     ·have p5:decide ((N:Int)>(c:Int))=false:=decide_eq_false (by omega)
      have p6:((N:Int)==(c:Int))=true:=by rw[hpos];simp
      have p7:decide ((I:Int)>(q:Int))=true:=decide_eq_true (by omega)
      refine go2 (bw14 hl1 hv17 i2 i3 i9 i10 i11 e1 e3 p3 p4 p5 p6 p7) (bw c25 fnil) ?_
      exact fQ hl1
   ·have hlt:k<(linesL w).length:=by have:=of_decide_eq_true hz;omega
    have hwk:=wS k (by omega)
    have hxm:lineB b.words (linesL w)[k]=true:=(mem_linesB hB).1 (by rw[e2];exact List.getElem_mem hlt)
    have hfw:=found_le hB (n:=N) (by omega) hIi hlostN hxm
    have hms:=mostK_succ (f:=fun x=>wholeN (foundB b.bk N I x)) hlt
    try simp only at hms
    have p1:decide (wholeN (foundB b.bk N I (linesL w)[k])<1)=false:=decide_eq_false (by omega)
    refine go2 (bw12 hl1 hv19 hv17 i2 i3 i9 i10 i11 i18 hVs hz e1) fnil ?_
    refine⟨true,(sG (bw hl1 hz)),(fun h=>by cases h),fun _=>?_⟩
    refine⟨by omega,?_⟩
    refine go2 (bw7 hl1 hv19 i2 i3 i4 i18 a0) fnil ?_
    refine wopsD_callR rfl rfl (sR hl1) (by simp only[↓reduceIte,go_sem,hl1];exact c57 b hB N I hNn hIi _ (linesL w)[k] (el_sl _) _) ?_
    rintro v T1 ⟨f2,rfl,hf2,hK2⟩ ft
    have hF2:OkB f2.bk:=by rw[hf2];exact found_ok hB (by omega) hxm
    have hf2h:=f2.h
    have c1:=hK2.hp a0
    have r1:=hK2.2
    have r2:=hK2.len
    try simp only at r1 r2
    refine go2 hl1 fnil ?_
    refine wopsD_callR rfl rfl (sR hl1) (by simp only[↓reduceIte,go_sem,hl1];exact c50_yes f2 hF2.sm hF2 _) ?_
    rintro v T2 ⟨u2,rfl,hR4⟩ ft2
    rw[hf2]
    have c2:=hR4.hp c1
    have r3:=hR4.lo
    have r4:=hR4.len
    try simp only at r3 r4
    refine go2 (bw7 hl1 hv19 hv17 n0 p1 @mm2 hwk) fnil ?_
    exact⟨(sG (bw hl1 hms)),by omega,c2,by simp only;omega,by simp only;omega⟩
end Go.Den.Ve
end

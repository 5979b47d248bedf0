/- Part of the proofs of laws of the package version. Texts: VxD, VxE. -/
import Derived.Test.YtehdcjbdhkkipaaGreatDoorVDAo
set_option linter.unusedSimpArgs false
set_option linter.unusedVariables false
section
namespace Go.Den.Ve
def allH (X:List (List Int)) (l:List Int):Bool:=X.all fun x=>holdL x l
def allHK (X:List (List Int)) (l:List Int) (k:Nat):Bool:=(X.take k).all fun x=>holdL x l
theorem allHK_succ {X:List (List Int)} {l:List Int} {k:Nat} (h:k<X.length):allHK X l (k+1)=(allHK X l k&&holdL X[k] l):=by
 rw [allHK,List.take_succ_eq_append_getElem h,List.all_append,← allHK];simp
theorem allHK_all (X:List (List Int)) (l:List Int):allHK X l X.length=allH X l:=by rw [allHK,List.take_length];rfl
def ComR (X:List (List Int)) (w:Nat):List Int:=commonR (allH X) [] (linesL w)
set_option maxHeartbeats 4000000 in
theorem c46 (b:BP) (w:Nat) (hwd:b.words=w) (hw1:1≤w) (hw3:w≤3) (F:PV) (X:List (List Int)) (hF:SlOf 1 encL F X) (hN:X.length<1000000) (hNX:∀ x∈X,x.length<1000) (st:St):ClR EE (.func 46 [] []) [b.pv,F] st (RetW st (ComR X w).length ((ComR X w).flatMap encI)):=by
 have hb:=b.h
 have hFs:=hF.slen
 have hll:=lines_len w (by omega)
 refine cG2 pr46 fn46 (fun tm hl h0 h1=>?_)
 refine go2 (bw hl h0) fnil ?_
 refine cR (bw hl h0) (c58 b w hwd (by omega) (by omega) _) ?_
 intro V s1 hR
 have hV:SlOf 1 encL V (linesL w):=slL hR
 have hVs:=hV.slen
 have z1:=hR.lo
 have z2:=hR.len
 simp only [lo_push,len_push] at z1 z2
 refine go2 hl fnil ?_
 refine wp_for [7,6] (fun i vs S=>∃ out,vs=[iv i,elL out]∧i≤(linesL w).length∧ComR X w=commonR (allH X) out ((linesL w).drop i)∧S=s1) (fun i=>(linesL w).length - i) ⟨[],(sR hl),Nat.zero_le _,rfl,rfl⟩ ?_
 rintro i tm1 S ⟨out,hv,hi,hc,rfl⟩ hS
 simp only [List.map_cons,List.map_nil,List.cons.injEq,and_true] at hv
 obtain ⟨hv7,hv6⟩:=hv
 have hl1:tm1.length=50:=lN hS hl;have i1:tg tm1 1=F:=tQ hS (bw hl h1);have i5:tg tm1 5=V:=tQ hS (bw hl h1);clear hS
 have hE:=(el_sl out).slen
 refine go2 (bw4 hl1 hv7 i5 hVs) fnil ?_
 refine ⟨decide ((i:Int)<(linesL w).length),(sG hl1),fun hbi=>?_,fun hbi=>?_⟩
 ·have hlt:=of_decide_eq_false hbi
  rw [List.drop_eq_nil_of_le (by omega),commonR] at hc
  refine go2 (bw hl1 hv6) fnil ?_
  refine fX (elL out) (bw hl1 hv6) ?_
  rw [hc]
  exact finish_sl (el_sl out).sl (by omega) (fun m=>lowL_of fun c hc=>ints_lowC _ m c hc)
 have hlt:i<(linesL w).length:=by have:=of_decide_eq_true hbi;omega
 have hwi:IntKind.wrap .i64 ((i:Int)+1)=((i+1:Nat):Int):=wrap_nat (n:=i+1) (by omega)
 refine ⟨by omega,?_⟩
 have hli:=(el_sl (linesL w)[i]).slen
 have hl4:=(mem_lines.1 (List.getElem_mem hlt)).1
 rw [List.drop_eq_getElem_cons hlt,commonR] at hc
 have hgt:decide ((((linesL w)[i].length:Nat):Int)>((out.length:Nat):Int))=decide ((linesL w)[i].length>out.length):=by rw [decide_eq_decide];omega
 refine go2 (bw6 hl1 hv7 hv6 i5 hE hli) fnil ?_
 refine wp_for [9,8] (fun k vs S'=>vs=[iv k,.bool (decide ((((linesL w)[i].length:Nat):Int)>((out.length:Nat):Int))&&allHK X (linesL w)[i] k)]∧k≤X.length∧S'=S) (fun k=>X.length - k) ⟨by simp only [↓reduceIte,go_sem,hl1,allHK];simp,Nat.zero_le _,rfl⟩ ?_
 rintro k tm2 S2 ⟨hv,hk,rfl⟩ hS2
 simp only [List.map_cons,List.map_nil,List.cons.injEq,and_true] at hv
 obtain ⟨hv9,hv8⟩:=hv
 have hl2:tm2.length=50:=lN hS2 hl1;have j1:tg tm2 1=F:=tQ hS2 (bw5 hl1 i1 i5 hv6 hv7);have j5:tg tm2 5=V:=tQ hS2 (bw5 hl1 i1 i5 hv6 hv7);have j6:tg tm2 6=elL out:=tQ hS2 (bw5 hl1 i1 i5 hv6 hv7);have j7:tg tm2 7=iv i:=tQ hS2 (bw5 hl1 i1 i5 hv6 hv7);clear hS2
 refine go2 (bw4 hl2 hv9 j1 hFs) fnil ?_
 refine ⟨decide ((k:Int)<X.length),(sG hl2),fun hbk=>?_,fun hbk=>?_⟩
 ·have hltk:=of_decide_eq_false hbk
  have hkn:k=X.length:=by omega
  rw [hkn,allHK_all,hgt] at hv8
  cases hq:(decide ((linesL w)[i].length>out.length)&&allH X (linesL w)[i])
  ·rw [hq] at hv8
   rw [hq,if_neg (by simp)] at hc
   refine go2 (bw4 hl2 hv8 j7 hwi) fnil ?_
   exact ⟨out,(sG (bw hl2 j6)),by omega,hc,rfl⟩
  ·rw [hq] at hv8
   rw [hq,if_pos rfl] at hc
   refine go2 (bw5 hl2 hv8 j5 j7 hwi) fnil ?_
   exact ⟨(linesL w)[i],(sG hl2),by omega,hc,rfl⟩
 have hltk:k<X.length:=by have:=of_decide_eq_true hbk;omega
 have hwk:IntKind.wrap .i64 ((k:Int)+1)=((k+1:Nat):Int):=wrap_nat (n:=k+1) (by omega)
 refine ⟨by omega,?_⟩
 have hsu:=allHK_succ (l:=(linesL w)[i]) hltk
 cases hq:(decide ((((linesL w)[i].length:Nat):Int)>((out.length:Nat):Int))&&allHK X (linesL w)[i] k)
 ·rw [hq] at hv8
  have hq2:(decide ((((linesL w)[i].length:Nat):Int)>((out.length:Nat):Int))&&allHK X (linesL w)[i] (k+1))=false:=by rw [hsu,← Bool.and_assoc,hq];rfl
  refine go2 (bw4 hl2 hv8 hv9 hwk) fnil ?_
  exact ⟨by rw [hq2];simp only [↓reduceIte,go_sem,hl2],by omega,rfl⟩
 ·rw [hq] at hv8
  have hq2:(decide ((((linesL w)[i].length:Nat):Int)>((out.length:Nat):Int))&&allHK X (linesL w)[i] (k+1))=holdL X[k] (linesL w)[i]:=by rw [hsu,← Bool.and_assoc,hq];rfl
  have k48:=fun st=>c48 (elL (linesL w)[i]) (elL X[k]) (linesL w)[i] X[k] (el_sl _) (el_sl _) (hNX _ (List.getElem_mem hltk)) (by omega) st
  refine go2 (bw7 hl2 hv8 hv9 j1 j5 j7 hwk) (bw k48 fnil) ?_
  exact ⟨by rw [hq2];simp only [↓reduceIte,go_sem,hl2],by omega,rfl⟩
theorem comR_is {b:BP} {w i:Nat} (hwn:b.words.toNat=w):ComR (leastB b.bk i) w=commonB b.bk i:=by
 have h:=commonR_eq (w:=w) (P:=allH (leastB b.bk i)) (by
  rw [allH,List.all_eq_true]
  exact fun x _=>hold_nil x)
 have hbw:b.bk.words=b.words:=rfl
 rw [ComR,h,commonB,hbw,hwn]
 rfl
theorem leastB_line {b:BP} (hB:OkB b.bk) {i:Nat} {x:List Int} (h:x∈leastB b.bk i):lineB b.words x=true:=(mem_linesB hB).1 (mem_least.1 h).1
theorem leastB_len {b:BP} (hB:OkB b.bk) (i:Nat):(leastB b.bk i).length≤121:=by
 have h3:=hB.w3
 refine Nat.le_trans (List.length_filter_le _ _) (lines_len _ (by omega))
theorem leastB_sorted (b:BP) (i:Nat):(leastB b.bk i).Pairwise (fun x y=>before x y=true):=(lines_sorted _).sublist List.filter_sublist
theorem common_facts {b:BP} (hB:OkB b.bk) (i:Nat):Longest (allH (leastB b.bk i)) (linesL b.words.toNat) (commonB b.bk i):=common_is (by
  rw [allH,List.all_eq_true]
  exact fun x _=>hold_nil x)
set_option maxHeartbeats 16000000 in
theorem c8 (b:BP) (n:Int) (st:St):Cl EE (.func 8 [] []) [b.pv,iv n] st (.ret (.bool true)) st:=by
 have hb:=b.h
 have k28:=fun st=>c28 b st
 refine cF2 pr8 fn8 (fun tm hl h0 h1=>?_)
 cases hA:smallB b
 ·rw [hA] at k28
  refine go2 (bw3 hl h0 h1) (bw3 k28 c25 fnil) ?_
  exact fQ hl
 rw [hA] at k28
 obtain ⟨hN,hM⟩:=smallB_yes hA
 have k30:=fun st=>c30 b hN (fun c hc x hx=>by have:=hM c hc x hx;omega) st
 cases hC:lnArg b n
 ·have k42:=fun st=>c42_no b hN n hC st
  have k43:=fun st=>c43_no b hN n hC st
  cases hK:bookB b.bk
  ·rw [hK] at k30
   refine go2 (bw6 hl h0 h1 zs nee z0') (bw6 k28 k42 k43 k30 c25 fnil) ?_
   exact fQ hl
  have hB:=bookB_iff.1 hK
  rw [hK] at k30
  have k44:=fun st=>c44 b hB n st
  rw [lnArg,hK,Bool.true_and] at hC
  rw [hC] at k44
  refine go2 (bw6 hl h0 h1 zs nee z0') (bw7 k28 k42 k43 k30 k44 c25 fnil) ?_
  exact fQ hl
 obtain ⟨hB,i,rfl,hi⟩:=lnArg_yes hC
 obtain ⟨w,hwd,hwn,hw1,hw3⟩:=word_nat hB
 have k44:=fun st=>c44 b hB i st
 have hin:inN (i:Int) 0 (lines1 b.bk - 1)=true:=by simp only [inN,Bool.and_eq_true,decide_eq_true_eq];omega
 rw [hin] at k44
 rw [bookB_iff.2 hB] at k30
 refine go2 (bw3 hl h0 h1) (bw k28 fnil) ?_
 refine cR (bw3 hl h0 h1) (c42_yes b hN i hB hi _) ?_
 rintro v S1 ⟨u,rfl,hR⟩
 have hU:SlOf 1 encL u (leastB b.bk i):=hR.own_sl (fun _=>rfl)
 have b1:hp S1 st.heap.length=some (.var [iv b.words,b.v]):=hR.hp (sG fnil)
 have m1:=hp_lt b1
 have x1:=hR.lo
 have x2:=hR.len
 simp only [lo_push,len_push] at x1 x2
 refine go2 (bw5 hl h0 h1 b1 (n4 m1)) fnil ?_
 refine cR (bw4 hl h0 h1 b1) (c43_yes b hN i hB hi _) ?_
 rintro v S2 ⟨u2,rfl,hR2⟩
 have hU2:SlOf 1 encI u2 (commonB b.bk i):=hR2.own_sl (fun _=>rfl)
 have b2:hp S2 st.heap.length=some (.var [iv b.words,b.v]):=hR2.hp b1
 have m2:=hp_lt b2
 have y1:=hR2.lo
 have y2:=hR2.len
 refine go2 (bw5 hl h0 h1 b2 (n4 m2)) (bw3 k30 k44 fnil) ?_
 refine cR (bw4 hl h0 h1 b2) (c45 b hB i hi _) ?_
 rintro v S3 ⟨u3,rfl,hR3⟩
 have hU3:SlOf 1 encL u3 (leastB b.bk i):=hR3.own_sl (fun _=>rfl)
 have b3:hp S3 st.heap.length=some (.var [iv b.words,b.v]):=hR3.hp b2
 have m3:=hp_lt b3
 have z1:=hR3.lo
 have z2:=hR3.len
 have hbl:=leastB_len hB i
 have hline:∀ x∈leastB b.bk i,x.length≤4:=fun x hx=>line4 (leastB_line hB hx)
 have k38:=fun st=>c38 u u3 ((leastB b.bk i).map SI.of) ((leastB b.bk i).map SI.of) (slSI hU) (slSI hU3) (by rw [List.length_map];omega) (fun x hx=>by
  obtain ⟨y,hy,rfl⟩:=List.mem_map.1 hx
  have:=hline y hy
  show y.length<_
  omega) st
 rw [beq_self_eq_true] at k38
 refine go2 (bw5 hl b3 zs nee (n4 m3)) (bw k38 fnil) ?_
 refine cT (bw4 hl b3 zs nee) (c46 b w hwd hw1 hw3 u3 (leastB b.bk i) hU3 (by omega) (fun x hx=>by have:=hline x hx;omega) _) ?_
 intro u4 S4 hR4
 rw [comR_is hwn] at hR4
 have hU4:SlOf 1 encI u4 (commonB b.bk i):=hR4.own_sl (fun _=>rfl)
 have t1:=hR4.lo
 have t2:=hR4.len
 have hcl:=(mem_lines.1 (common_facts hB i).mem).1
 have k27:=fun st=>c27 u2 u4 (commonB b.bk i) (commonB b.bk i) hU2 hU4 (by omega) st
 rw [beq_self_eq_true] at k27
 refine go2 (bw3 hl zs nee) (bw3 k27 c25 fnil) ?_
 exact fQ hl
end Go.Den.Ve
end
section
namespace Go.Den.Ve
theorem mem_leastB {b:BP} (hB:OkB b.bk) {i:Nat} {x:List Int}:x∈leastB b.bk i↔lineB b.words x=true∧cost1 b.bk i x=manyB b.bk i:=by
 rw [leastB,mem_least,mem_linesB hB];rfl
theorem manyB_le {b:BP} (hB:OkB b.bk) (i:Nat) {x:List Int} (h:lineB b.words x=true):manyB b.bk i≤cost1 b.bk i x:=minL_le x ((mem_linesB hB).2 h)
set_option maxHeartbeats 16000000 in
theorem c9 (b:BP) (n:Int) (L:PV) (l:List Int) (hL:SlOf 1 encI L l) (st:St):Cl EE (.func 9 [] []) [b.pv,iv n,L] st (.ret (.bool true)) st:=by
 have hb:=b.h
 have s1:=hL.slen
 have k23:=fun st=>c23 b st
 refine cF3 pr9 fn9 (fun tm hl h0 h1 h2=>?_)
 cases hA:goodB b
 ·rw [hA] at k23
  refine go2 (bw4 hl h0 h1 h2) (bw3 k23 c25 fnil) ?_
  exact fQ hl
 rw [hA] at k23
 have hB:=(goodB_yes hA).2
 have hw:=hB.okW
 have k44:=fun st=>c44 b hB n st
 cases hI:inN n 0 (lines1 b.bk - 1)
 ·rw [hI] at k44
  refine go2 (bw4 hl h0 h1 h2) (bw4 k23 k44 c25 fnil) ?_
  exact fQ hl
 rw [hI] at k44
 cases d1:decide ((l.length:Int)>6)
 case true =>
  refine go2 (bw6 hl h0 h1 h2 s1 d1) (bw4 k23 k44 c25 fnil) ?_
  exact fQ hl
 have n1:=of_decide_eq_false d1
 have k24:=fun st=>c24 b.words b.v b.cells b.isCell hw L l hL (by omega) st
 cases e1:lineB b.words l
 ·rw [e1] at k24
  refine go2 (bw6 hl h0 h1 h2 s1 d1) (bw5 k23 k44 k24 c25 fnil) ?_
  exact fQ hl
 rw [e1] at k24
 have hC:lnArg b n=true:=by rw [lnArg,bookB_iff.2 hB,hI];rfl
 obtain ⟨_,i,rfl,hi⟩:=lnArg_yes hC
 obtain ⟨w,hwd,hwn,hw1,hw3⟩:=word_nat hB
 refine go2 (bw6 hl h0 h1 h2 s1 d1) (bw4 k23 k44 k24 fnil) ?_
 refine cR (bw3 hl h0 h1) (c42_yes b hB.sm i hB hi _) ?_
 rintro v S1 ⟨u,rfl,hR⟩
 have hU:SlOf 1 encL u (leastB b.bk i):=hR.own_sl (fun _=>rfl)
 have b1:hp S1 st.heap.length=some (.var [iv b.words,b.v]):=hR.hp (sG fnil)
 have m1:=hp_lt b1
 have x1:=hR.lo
 have x2:=hR.len
 simp only [lo_push,len_push] at x1 x2
 refine go2 (bw5 hl h0 h1 b1 (n4 m1)) fnil ?_
 refine cR (bw4 hl h0 h1 b1) (c43_yes b hB.sm i hB hi _) ?_
 rintro v S2 ⟨u2,rfl,hR2⟩
 have hU2:SlOf 1 encI u2 (commonB b.bk i):=hR2.own_sl (fun _=>rfl)
 have b2:hp S2 st.heap.length=some (.var [iv b.words,b.v]):=hR2.hp b1
 have m2:=hp_lt b2
 have y1:=hR2.lo
 have y2:=hR2.len
 have us:=hU.slen
 have us2:=hU2.slen
 have hbl:=leastB_len hB i
 have hline:∀ x∈leastB b.bk i,lineB b.words x=true:=fun x hx=>leastB_line hB hx
 have hne:0<(leastB b.bk i).length:=by have:=leastB_ne b.bk i;cases h:leastB b.bk i with
  | nil=>exact absurd h this
  | cons x l=>simp
 have hcf:=common_facts hB i
 have hcl:=(mem_lines.1 hcf.mem).1
 have p1:decide (((leastB b.bk i).length:Int)<1)=false:=decide_eq_false (by omega)
 have p2:decide (((commonB b.bk i).length:Int)>4)=false:=decide_eq_false (by omega)
 have k40:=fun st=>c40 b hw u (leastB b.bk i) hU hline (leastB_sorted b i) hbl st
 have hl4:=line4 e1
 refine go2 (bw11 hl h0 h1 h2 b2 (n4 m2) us us2 p1 p2 zs) (bw k40 fnil) ?_
 refine wp_for [14,12,13] (fun k vs S=>vs=[iv k,.bool (allHK (leastB b.bk i) l k),.bool true]∧k≤(leastB b.bk i).length∧S=S2) (fun k=>(leastB b.bk i).length - k) ⟨(sR hl),Nat.zero_le _,rfl⟩ ?_
 rintro k tm1 S ⟨hv,hk,rfl⟩ hS
 simp only [List.map_cons,List.map_nil,List.cons.injEq,and_true] at hv
 obtain ⟨hv14,hv12,hv13⟩:=hv
 have hl1:tm1.length=150:=lN hS hl;have i1:tg tm1 1=iv i:=tQ hS (bw3 hl h1 h2);have i2:tg tm1 2=L:=tQ hS (bw3 hl h1 h2);have i3:tg tm1 3 = .ptr st.heap.length 0:=tQ hS (bw3 hl h1 h2);have i7:tg tm1 7=u:=tQ hS (bw3 hl h1 h2);have i8:tg tm1 8=iv (manyB b.bk i):=tQ hS (bw3 hl h1 h2);have i10:tg tm1 10=u2:=tQ hS (bw3 hl h1 h2);clear hS
 refine go2 (bw4 hl1 hv14 i7 us) fnil ?_
 refine ⟨decide ((k:Int)<(leastB b.bk i).length),(sG hl1),fun hbk=>?_,fun hbk=>?_⟩
 ·have hlt:=of_decide_eq_false hbk
  have hkn:k=(leastB b.bk i).length:=by omega
  rw [hkn,allHK_all] at hv12
  have k47:=fun st=>c47 b hB i hi L l hL e1 st
  have k41:=fun st=>c41 u L (leastB b.bk i) l hU hL (by omega) (fun x hx=>by have:=line4 (hline x hx);omega) st
  have hmem:decide (l∈leastB b.bk i)=(cost1 b.bk i l==manyB b.bk i):=by
   rw [Bool.eq_iff_iff,decide_eq_true_iff,mem_leastB hB,beq_iff_eq]
   exact ⟨fun h=>h.2,fun h=>⟨e1,h⟩⟩
  rw [any_mem,hmem] at k41
  have hle:=manyB_le hB i e1
  have p3:decide (cost1 b.bk i l<manyB b.bk i)=false:=decide_eq_false (by omega)
  have p4:((cost1 b.bk i l==manyB b.bk i)==(cost1 b.bk i l==manyB b.bk i))=true:=by simp
  cases hq:allH (leastB b.bk i) l
  ·rw [hq] at hv12
   refine go2 (bw13 hl1 hv12 hv13 i1 i2 i3 i7 i8 i10 b2 (n4 m2) p3 p4) (bw4 k47 k41 c25 fnil) ?_
   exact fQ hl1
  rw [hq] at hv12
  cases hs1:decide ((l.length:Int)<(commonB b.bk i).length)
  case true =>
   refine go2 (bw16 hl1 hv12 hv13 i1 i2 i3 i7 i8 i10 b2 (n4 m2) p3 p4 s1 us2 hs1) (bw4 k47 k41 c25 fnil) ?_
   exact fQ hl1
  have hbest:=hcf.best l ((mem_linesB hB).2 e1) hq
  have hs1':=of_decide_eq_false hs1
  have hll:l.length=(commonB b.bk i).length∧bef l (commonB b.bk i)=false:=by
   rcases hbest with h|⟨h,h2|h2⟩
   ·omega
   ·exact ⟨h,by rw [h2,bef_irr]⟩
   ·exact ⟨h,bef_asym _ _ h2⟩
  have p5:((l.length:Int)==(commonB b.bk i).length)=true:=by rw [beq_iff_eq];omega
  have k49:=fun st=>c49 L u2 l (commonB b.bk i) hL hU2 (by omega) st
  rw [hll.2] at k49
  refine go2 (bw17 hl1 hv12 hv13 i1 i2 i3 i7 i8 i10 b2 (n4 m2) p3 p4 s1 us2 hs1 p5) (bw5 k47 k41 k49 c25 fnil) ?_
  exact fQ hl1
 have hlt:k<(leastB b.bk i).length:=by have:=of_decide_eq_true hbk;omega
 have hwk:IntKind.wrap .i64 ((k:Int)+1)=((k+1:Nat):Int):=wrap_nat (n:=k+1) (by omega)
 refine ⟨by omega,?_⟩
 have hxm:=List.getElem_mem hlt
 have hxl:=hline _ hxm
 have k47:=fun st=>c47 b hB i hi (elL (leastB b.bk i)[k]) (leastB b.bk i)[k] (el_sl _) hxl st
 rw [((mem_leastB hB).1 hxm).2] at k47
 have kA:=fun st=>c48 L (elL (leastB b.bk i)[k]) l (leastB b.bk i)[k] hL (el_sl _) (by have:=line4 hxl;omega) (by omega) st
 have kB:=fun st=>c48 u2 (elL (leastB b.bk i)[k]) (commonB b.bk i) (leastB b.bk i)[k] hU2 (el_sl _) (by have:=line4 hxl;omega) (by omega) st
 have hhc:holdL (leastB b.bk i)[k] (commonB b.bk i)=true:=by
  have:=hcf.is
  rw [allH,List.all_eq_true] at this
  exact this _ hxm
 rw [hhc] at kB
 have hsu:=allHK_succ (l:=l) hlt
 cases hq:allHK (leastB b.bk i) l k
 ·rw [hq] at hv12 hsu
  rw [Bool.false_and] at hsu
  refine go2 (bw14 hl1 hv14 hv12 hv13 i1 i2 i3 i7 i8 i10 b2 (n4 m2) nne hwk) (bw3 k47 kB fnil) ?_
  exact ⟨by rw [hsu];simp only [↓reduceIte,go_sem,hl1],by omega,rfl⟩
 ·rw [hq] at hv12 hsu
  rw [Bool.true_and] at hsu
  refine go2 (bw14 hl1 hv14 hv12 hv13 i1 i2 i3 i7 i8 i10 b2 (n4 m2) nne hwk) (bw4 k47 kA kB fnil) ?_
  exact ⟨by rw [hsu];simp only [↓reduceIte,go_sem,hl1],by omega,rfl⟩
end Go.Den.Ve
end

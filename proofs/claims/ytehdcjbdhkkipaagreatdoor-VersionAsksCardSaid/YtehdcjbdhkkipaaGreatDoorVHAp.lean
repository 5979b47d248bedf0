/- Part of the proofs of laws of the package version. Texts: VwM, VxK. -/
import Derived.Test.YtehdcjbdhkkipaaGreatDoorVHAo
import Derived.Test.YtehdcjbdhkkipaaGreatDoorVHAl
set_option linter.unusedSimpArgs false
set_option linter.unusedVariables false
section
namespace Go.Den.Ve
theorem best_snoc {α:Type} (bt:α→α→Bool) (X:List α) (x:α):bestF bt (X++[x])=some (match bestF bt X with
  | none=>x
  | some o=>if bt x o then x else o):=by
 unfold bestF
 rw [List.foldl_append,List.foldl_cons,List.foldl_nil]
 cases List.foldl _ none X
 ·rfl
 ·simp only
  split <;> rfl
def askE (o:Option T3):T3:=match o with
 | none=>(-1,-1,0)
 | some x=>x
abbrev askK (X:List T3):T3:=askE (bestF (fun x y:T3=>decide (x.2.2<y.2.2)) X)
theorem lostK_mem {b:BK} {n k:Nat} {x:T3} (h:x∈lostK b n k):0≤x.1:=by
 unfold lostK at h
 obtain ⟨i,_,hi⟩:=List.mem_flatMap.1 h
 unfold lost1 at hi
 split at hi
 ·rw [List.mem_singleton.1 hi];exact Int.natCast_nonneg _
 ·cases hi
theorem lostsK_mem {b:BK} {n:Nat} {x:T3} (h:x∈lostsK b n):0≤x.1:=by
 obtain ⟨c,_,hc⟩:=List.mem_flatMap.1 h
 exact lostK_mem hc
theorem ask_step {X:List T3} (hX:∀ x∈X,0≤x.1) (x:T3):askK (X++[x])=if (decide ((askK X).1<0) || decide (x.2.2<(askK X).2.2))=true then x else askK X:=by
 unfold askK
 rw [best_snoc]
 cases h:bestF (fun x y:T3=>decide (x.2.2<y.2.2)) X with
 | none=>simp [askE]
 | some o =>
  have:=hX o (by obtain ⟨A,B,e,_⟩:=best_some (m:=fun x:T3=>x.2.2) h;rw [e];simp)
  have e:decide (o.1<0)=false:=decide_eq_false (by omega)
  show (if decide (x.2.2<o.2.2)=true then x else o)=if (decide (o.1<0) || decide (x.2.2<o.2.2))=true then x else o
  rw [e,Bool.false_or]
set_option maxHeartbeats 8000000 in
theorem c56 (b:BP) (hB:OkB b.bk) (st:St):Cl EE (.func 56 [] []) [b.pv] st (.ret (.tuple [iv (askE (askB b.bk)).1,iv (askE (askB b.bk)).2.1,iv (askE (askB b.bk)).2.2])) st:=by
 have hb:=b.h
 have hw3:=hB.w3
 obtain ⟨w,hw⟩:∃ w:Nat,b.words=w:=⟨b.words.toNat,by have hw:OkW b.words:=hB.okW;have:=hw.lo;omega⟩
 have hw1:=hB.w1
 have hbw:b.bk.words=b.words:=rfl
 have hp0:=hB.pos
 have hN1:=lines1_bk b hp0
 have hl4:=hB.l4
 have hc5:=hB.c5
 have hbl:b.bk.copies.length=b.cs.length:=by simp
 refine cF1 pr56 fn56 (fun tm hl h0=>?_)
 refine go2 (bw hl h0) fnil ?_
 refine cR (bw hl h0) (c106 b w hw (by omega) (by omega) _) ?_
 intro T s1 hR
 have hT:SlOf 1 encL T ((linesL w).map (wayR (linesL w))):=slL hR
 have d0:hp s1 st.heap.length=some (.var [iv b.words,b.v]):=hR.hp (sG fnil)
 have z1:=hR.lo
 have z2:=hR.len
 simp only [lo_push,len_push] at z1 z2
 refine go2 hl fnil ?_
 refine wp_for [7,6] (fun k vs S=>∃ v,vs=[iv k,v]∧k≤lines1 b.bk∧OwnS st.heap.length S 1 v k (((List.range k).map (leftB b.bk)).flatMap encI)∧hp S st.heap.length=some (.var [iv b.words,b.v])∧st.heap.length≤S.lo∧S.lo≤S.heap.length) (fun k=>lines1 b.bk - k) ⟨_,(sR hl),Nat.zero_le _,.nil,d0,by omega,by omega⟩ ?_
 clear d0
 rintro k tm1 S ⟨v,hv,hk,hO,d0,hlo,hwf⟩ hS
 simp only [List.map_cons,List.map_nil,List.cons.injEq,and_true] at hv
 obtain ⟨hv7,hv6⟩:=hv
 have hl1:tm1.length=74:=lN hS hl;have i1:tg tm1 1 = .ptr st.heap.length 0:=tQ hS (bw hl h0);have i5:tg tm1 5=T:=tQ hS (bw hl h0);clear hS
 have ld0:=hp_lt d0
 refine go2 (bw5 hl1 hv7 i1 d0 (n4 ld0)) fnil ?_
 refine ⟨decide ((k:Int)<lines1 b.bk),(sG (bw hl1 hN1)),fun hbk=>?_,fun hbk=>?_⟩
 ·have hlt:=of_decide_eq_false hbk
  have hkn:k=lines1 b.bk:=by omega
  rw [hkn] at hO
  have hV:SlOf 1 encI v ((List.range (lines1 b.bk)).map (leftB b.bk)):=SlOf.of_sl hO.sl (by simp) rfl (fun _=>rfl)
  have hVs:=hV.slen
  have hVl:((List.range (lines1 b.bk)).map (leftB b.bk)).length=lines1 b.bk:=by simp
  clear hO
  refine go2 hl1 fnil ?_
  refine wp_for [11,8,9,10] (fun n vs S'=>vs=[iv n,iv (askK (lostsK b.bk n)).1,iv (askK (lostsK b.bk n)).2.1,iv (askK (lostsK b.bk n)).2.2]∧n≤b.cs.length∧hp S' st.heap.length=some (.var [iv b.words,b.v])∧st.heap.length≤S'.lo∧S'.lo≤S'.heap.length) (fun n=>b.cs.length - n) ⟨(sR hl1),Nat.zero_le _,d0,hlo,hwf⟩ ?_
  clear d0 hlo hwf
  rintro n tm2 S2 ⟨hv,hn,d0,hlo,hwf⟩ hS2
  simp only [List.map_cons,List.map_nil,List.cons.injEq,and_true] at hv
  obtain ⟨hv11,hv8,hv9,hv10⟩:=hv
  have hl2:tm2.length=74:=lN hS2 hl1;have j1:tg tm2 1 = .ptr st.heap.length 0:=tQ hS2 (bw3 hl1 i1 hv6);have j6:tg tm2 6=v:=tQ hS2 (bw3 hl1 i1 hv6);clear hS2
  have ld0:=hp_lt d0
  refine go2 (bw5 hl2 hv11 j1 d0 (n4 ld0)) fnil ?_
  refine ⟨decide ((n:Int)<b.cs.length),(sG hl2),fun hbn=>?_,fun hbn=>?_⟩
  ·have hlt2:=of_decide_eq_false hbn
   have hnn:n=b.cs.length:=by omega
   have he:askK (lostsK b.bk n)=askE (askB b.bk):=by rw [hnn,← hbl];rfl
   rw [he] at hv8 hv9 hv10
   refine go2 (bw4 hl2 hv8 hv9 hv10) fnil ?_
   exact fY hl2
  have hlt2:n<b.cs.length:=by have:=of_decide_eq_true hbn;omega
  have hwn:IntKind.wrap .i64 ((n:Int)+1)=((n+1:Nat):Int):=wrap_nat (n:=n+1) (by omega)
  have hln:b.cs[n].ls.length=lines1 b.bk:=(CP.okl hB (List.getElem_mem hlt2)).1
  have hC:=b.cs[n].h
  refine ⟨by omega,?_⟩
  refine go2 hl2 fnil ?_
  refine wp_for [12,8,9,10] (fun i vs S'=>vs=[iv i,iv (askK (lostsK b.bk n++lostK b.bk n i)).1,iv (askK (lostsK b.bk n++lostK b.bk n i)).2.1,iv (askK (lostsK b.bk n++lostK b.bk n i)).2.2]∧i≤lines1 b.bk∧hp S' st.heap.length=some (.var [iv b.words,b.v])∧st.heap.length≤S'.lo∧S'.lo≤S'.heap.length) (fun i=>lines1 b.bk - i) ⟨by simp only [↓reduceIte,go_sem,hl2,hv8,hv9,hv10];simp only [lostK,List.range_zero,List.flatMap_nil,List.append_nil];rfl,Nat.zero_le _,d0,hlo,hwf⟩ ?_
  clear d0 hlo hwf hv8 hv9 hv10 ld0
  rintro i tm3 S3 ⟨hv,hi,d0,hlo,hwf⟩ hS3
  simp only [List.map_cons,List.map_nil,List.cons.injEq,and_true] at hv
  obtain ⟨hv12,hv8,hv9,hv10⟩:=hv
  have hl3:tm3.length=74:=lN hS3 hl2;have k1:tg tm3 1 = .ptr st.heap.length 0:=tQ hS3 (bw4 hl2 j1 j6 hv11);have k6:tg tm3 6=v:=tQ hS3 (bw4 hl2 j1 j6 hv11);have k11:tg tm3 11=iv n:=tQ hS3 (bw4 hl2 j1 j6 hv11);clear hS3
  have ld0:=hp_lt d0
  refine go2 (bw5 hl3 hv12 k6 hVs hVl) fnil ?_
  refine ⟨decide ((i:Int)<lines1 b.bk),(sG hl3),fun hbi=>?_,fun hbi=>?_⟩
  ·have hlt3:=of_decide_eq_false hbi
   have hin:i=lines1 b.bk:=by omega
   have he:lostsK b.bk n++lostK b.bk n i=lostsK b.bk (n+1):=by rw [hin,← lostsK_succ]
   rw [he] at hv8 hv9 hv10
   refine go2 (bw3 hl3 k11 hwn) fnil ?_
   exact ⟨(sG (bw4 hl3 hv8 hv9 hv10)),by omega,d0,hlo,hwf⟩
  have hlt3:i<lines1 b.bk:=by have:=of_decide_eq_true hbi;omega
  have hwi:IntKind.wrap .i64 ((i:Int)+1)=((i+1:Nat):Int):=wrap_nat (n:=i+1) (by omega)
  have hil:i<b.cs[n].ls.length:=by omega
  have hla:=lnAt_eq b hlt2 hil
  have hiv:i<((List.range (lines1 b.bk)).map (leftB b.bk)).length:=by omega
  have hlg:((List.range (lines1 b.bk)).map (leftB b.bk))[i]=leftB b.bk i:=by simp
  have hmem:∀ x∈lostsK b.bk n++lostK b.bk n i,0≤x.1:=fun x hx=>(List.mem_append.1 hx).elim lostsK_mem lostK_mem
  have hst:=ask_step hmem ((n:Int),(i:Int),leftB b.bk i)
  have hsu:=lostK_succ b.bk n i
  refine ⟨by omega,?_⟩
  cases hlo2:b.cs[n].ls[i].lost
  ·have hf1:lost1 b.bk n i=[]:=by rw [lost1,hla];simp [hlo2]
   rw [hf1,List.append_nil] at hsu
   refine go2 (bw8 hl3 hv12 k1 k11 hlo2 hwi d0 (n4 ld0)) fnil ?_
   exact ⟨(sG (bw5 hl3 hv8 hv9 hv10 hsu)),by omega,d0,hlo,hwf⟩
  have hf1:lost1 b.bk n i=[((n:Int),(i:Int),leftB b.bk i)]:=by rw [lost1,hla];simp [hlo2]
  rw [hf1] at hsu
  have hsa:lostsK b.bk n++lostK b.bk n (i+1)=(lostsK b.bk n++lostK b.bk n i)++[((n:Int),(i:Int),leftB b.bk i)]:=by rw [hsu,List.append_assoc]
  rw [← hsa] at hst
  cases p1:decide ((askK (lostsK b.bk n++lostK b.bk n i)).1<0)
  ·cases p2:decide (leftB b.bk i<(askK (lostsK b.bk n++lostK b.bk n i)).2.2)
   ·rw [p1,if_neg (by simp only [p2];decide)] at hst
    refine go2 (bw14 hl3 hv12 hv8 hv10 k1 k6 k11 hlo2 hlg p1 p2 hwi d0 (n4 ld0)) fnil ?_
    exact ⟨(sG (bw5 hl3 hv8 hv9 hv10 hst)),by omega,d0,hlo,hwf⟩
   ·rw [p1,if_pos (by simp only [p2];decide)] at hst
    refine go2 (bw14 hl3 hv12 hv8 hv10 k1 k6 k11 hlo2 hlg p1 p2 hwi d0 (n4 ld0)) fnil ?_
    exact ⟨(sG (bw hl3 hst)),by omega,d0,hlo,hwf⟩
  ·rw [p1,if_pos (by rfl)] at hst
   refine go2 (bw13 hl3 hv12 hv8 hv10 k1 k6 k11 hlo2 hlg p1 hwi d0 (n4 ld0)) fnil ?_
   exact ⟨(sG (bw hl3 hst)),by omega,d0,hlo,hwf⟩
 have hlt:k<lines1 b.bk:=by have:=of_decide_eq_true hbk;omega
 have hwk:IntKind.wrap .i64 ((k:Int)+1)=((k+1:Nat):Int):=wrap_nat (n:=k+1) (by omega)
 refine ⟨by omega,?_⟩
 have kc:=fun st=>c107 b hB w hw k hlt T hT st
 refine go2 (bw7 hl1 hv7 hv6 i1 i5 d0 (n4 ld0)) (bw kc fnil) ?_
 refine wops_append rfl rfl (sR (bw hl1 hv6)) (sR hl1) hO.push rfl (by simp only [len_push];omega) (by rfl) (by rfl) (by simp only [maxList];omega) ?_
 intro v' s3 hO3 hF3 hk3
 have y1:=hF3.lo
 have y2:=hF3.up
 have y3:=hF3.len
 simp only [lo_push,len_push] at y1 y2 y3
 refine go2 (bw3 hl1 hv7 hwk) fnil ?_
 refine ⟨v',(sG hl1),by omega,?_,hk3 _ _ (sG (bw d0 (n4 ld0))) (by simp),by omega,by omega⟩
 rw [List.range_succ,List.map_append,List.flatMap_append]
 simpa [share_int] using hO3
end Go.Den.Ve
end
section
namespace Go.Den.Ve
theorem askB_mem {b:BK} {x:T3} (h:askB b=some x):0≤x.1:=by
 obtain ⟨A,B,e,_⟩:=best_some (m:=fun x:T3=>x.2.2) h
 exact lostsK_mem (b:=b) (n:=b.copies.length) (by rw [e];simp)
set_option maxHeartbeats 16000000 in
theorem c11 (b:BP) (st:St):Cl EE (.func 11 [] []) [b.pv] st (.ret (.bool true)) st:=by
 have hb:=b.h
 have k28:=fun st=>c28 b st
 refine cF1 pr11 fn11 (fun tm hl h0=>?_)
 cases hA:smallB b
 ·rw [hA] at k28
  refine go2 (bw hl h0) (bw3 k28 c25 fnil) ?_
  exact fQ hl
 rw [hA] at k28
 obtain ⟨hN,hM⟩:=smallB_yes hA
 have k30:=fun st=>c30 b hN (fun c hc x hx=>by have:=hM c hc x hx;omega) st
 cases hK:bookB b.bk
 ·have k55:=fun st=>c55_no b hN hK st
  rw [hK] at k30
  refine go2 (bw5 hl h0 zs nee @beq_self_eq_true.{0}) (bw5 k28 k55 k30 c25 fnil) ?_
  exact fQ hl
 have hB:=bookB_iff.1 hK
 rw [hK] at k30
 have k55:=fun st=>c55_yes b hN hB st
 have k56:=fun st=>c56 b hB st
 cases hq:askB b.bk with
 | none =>
  rw [hq] at k55 k56
  simp only [askE] at k56
  refine go2 (bw5 hl h0 zs nee @beq_self_eq_true.{0}) (bw6 k28 k55 k30 k56 c25 fnil) ?_
  exact fQ hl
 | some x =>
  rw [hq] at k55 k56
  simp only [askE] at k56
  have h0x:=askB_mem hq
  have p1:decide (x.1<0)=false:=decide_eq_false (by omega)
  refine go2 (bw5 hl h0 zs p1 @beq_self_eq_true.{0}) (bw6 k28 k55 k30 k56 c25 fnil) ?_
  exact fQ hl
end Go.Den.Ve
end

/- Part of the proofs of laws of the package version. Texts: VwA, VwE, VwF, VwG, VwB, VwC, VwD, VwH, VwK, VwL. -/
import Derived.Test.YtehdcjbdhkkipaaGreatDoorVHAl
import Derived.Test.YtehdcjbdhkkipaaGreatDoorVHAg
set_option linter.unusedSimpArgs false
set_option linter.unusedVariables false
section
namespace Go.Den.Ve
theorem levC (a b:Int) (l m:List Int):lev (a::l) (b::m)=if a=b then lev l m else 1+min (lev l m) (min (lev l (b::m)) (lev (a::l) m)):=by
 by_cases e:a=b
 ·subst e;rw [if_pos rfl,lev_keep]
 ·rw [if_neg e,lev_other e]
set_option maxHeartbeats 4000000 in
theorem c32n:∀ (n:Nat) (L M:PV) (l m:List Int),SlOf 1 encI L l→SlOf 1 encI M m→l.length+m.length≤n→n≤1000→∀ st,Cl EE (.func 32 [] []) [L,M] st (.ret (iv (lev l m:Nat))) st:=by
 intro n
 induction n with
 | zero =>
  intro L M l m hL hM hn _ st
  have hLs:=hL.slen
  have hMs:=hM.slen
  have z1:((l.length:Int)==0)=true:=by simp;cases l <;> simp at hn ⊢
  have hl0:l=[]:=by cases l <;> simp at hn ⊢
  rw [hl0,lev_nil]
  refine cF2 pr32 fn32 (fun tm hl h0 h1=>?_)
  refine go2 (bw6 hl h0 h1 hLs hMs z1) fnil ?_
  exact fQ hl
 | succ n ih =>
  intro L M l m hL hM hn hn2 st
  have hLs:=hL.slen
  have hMs:=hM.slen
  refine cF2 pr32 fn32 (fun tm hl h0 h1=>?_)
  cases hz:((l.length:Int)==0)
  case true =>
   have hl0:l=[]:=by have:=eq_of_beq hz;cases l with
    | nil=>rfl
    | cons a l=>simp at this;omega
   rw [hl0,lev_nil]
   refine go2 (bw6 hl h0 h1 hLs hMs hz) fnil ?_
   exact fQ hl
  cases hy:((m.length:Int)==0)
  case true =>
   have hm0:m=[]:=by have:=eq_of_beq hy;cases m with
    | nil=>rfl
    | cons a l=>simp at this;omega
   rw [hm0,lev_len]
   refine go2 (bw7 hl h0 h1 hLs hMs hz hy) fnil ?_
   exact fQ hl
  have hl0:0<l.length:=by have:=beq_eq_false_iff_ne.1 hz;omega
  have hm0:0<m.length:=by have:=beq_eq_false_iff_ne.1 hy;omega
  have el:l=l[0]::l.tail:=by cases l with
   | nil=>simp at hl0
   | cons a l=>rfl
  have em:m=m[0]::m.tail:=by cases m with
   | nil=>simp at hm0
   | cons a l=>rfl
  have etl:(l.drop 1).take (l.length - 1)=l.tail:=by rw [List.drop_one,List.take_of_length_le (by simp)]
  have etm:(m.drop 1).take (m.length - 1)=m.tail:=by rw [List.drop_one,List.take_of_length_le (by simp)]
  have hlev:=levC l[0] m[0] l.tail m.tail
  rw [← el,← em] at hlev
  have hltl:l.tail.length=l.length - 1:=by simp
  have hmtl:m.tail.length=m.length - 1:=by simp
  have hz0:((0:Nat):Int)=0:=rfl
  refine go2 (bw7 hl h0 h1 hLs hMs hz hy) fnil ?_
  refine wopsD_slice (n:=1) (m:=l.length) (by simp only [];omega) rfl rfl (sR hl) hL (by rfl) (by simp only [↓reduceIte,go_sem,hl,bound];first|done|rfl) (by omega) (by omega) ?_
  intro T1 hT1
  rw [etl] at hT1
  refine go2 (bw3 hl h0 h1) fnil ?_
  refine wopsD_slice (n:=1) (m:=m.length) (by simp only [];omega) rfl rfl (sR hl) hM (by rfl) (by simp only [↓reduceIte,go_sem,hl,bound];first|done|rfl) (by omega) (by omega) ?_
  intro T2 hT2
  rw [etm] at hT2
  have k1:=fun st=>ih T1 T2 l.tail m.tail hT1 hT2 (by omega) (by omega) st
  cases hx:(l[0]==m[0])
  ·have hne:=beq_eq_false_iff_ne.1 hx
   rw [if_neg hne] at hlev
   have b1:=lev_max l.tail m.tail
   have b2:=lev_max l.tail m
   have b3:=lev_max l m.tail
   refine go2 (bw4 hl h0 h1 hx) (bw k1 fnil) ?_
   refine wopsD_slice (n:=1) (m:=l.length) (by simp only [];omega) rfl rfl (sR hl) hL (by rfl) (by simp only [↓reduceIte,go_sem,hl,bound];first|done|rfl) (by omega) (by omega) ?_
   intro T3 hT3
   rw [etl] at hT3
   have k2:=fun st=>ih T3 M l.tail m hT3 hM (by omega) (by omega) st
   refine go2 (bw3 hl h0 h1) (bw k2 fnil) ?_
   refine wopsD_slice (n:=1) (m:=m.length) (by simp only [];omega) rfl rfl (sR hl) hM (by rfl) (by simp only [↓reduceIte,go_sem,hl,bound];first|done|rfl) (by omega) (by omega) ?_
   intro T4 hT4
   rw [etm] at hT4
   have k3:=fun st=>ih L T4 l m.tail hL hT4 (by omega) (by omega) st
   have hw:IntKind.wrap .i64 (1+((min (lev l.tail m.tail) (min (lev l.tail m) (lev l m.tail)):Nat):Int))=((lev l m:Nat):Int):=by
    rw [hlev]
    exact wrap1 (by omega)
   refine go2 (bw5 hl h0 h1 hw mm3N) (bw k3 fnil) ?_
   exact fQ hl
  ·rw [if_pos (eq_of_beq hx)] at hlev
   rw [hlev]
   refine go2 (bw4 hl h0 h1 hx) (bw k1 fnil) ?_
   exact fQ hl
theorem c32 (L M:PV) (l m:List Int) (hL:SlOf 1 encI L l) (hM:SlOf 1 encI M m) (hl:l.length≤100) (hm:m.length≤100) (st:St):Cl EE (.func 32 [] []) [L,M] st (.ret (iv (lev l m:Nat))) st:=c32n 200 L M l m hL hM (by omega) (by omega) st
end Go.Den.Ve
end
section
namespace Go.Den.Ve
theorem CP.okl {b:BP} (h:OkB b.bk) {c:CP} (hc:c∈b.cs):c.ls.length=lines1 b.bk∧∀ x∈c.ls,lineB b.words x.l=true∧(x.lost=true→x.l=[]):=by
 obtain ⟨h1,h2⟩:=h.all c.c (List.mem_map.2 ⟨c,hc,rfl⟩)
 exact ⟨by simpa using h1,fun x hx=>h2 x.ln (List.mem_map.2 ⟨x,hx,rfl⟩)⟩
theorem line4 {w:Int} {l:List Int} (h:lineB w l=true):l.length≤4:=(lineB_iff.1 h).1
theorem lev4 {w:Int} {l m:List Int} (h1:lineB w l=true) (h2:lineB w m=true):lev l m≤4:=by
 have:=lev_max l m
 have:=line4 h1
 have:=line4 h2
 omega
def costK (b:BK) (i:Nat) (l:List Int) (k:Nat):Int:=((b.copies.take k).map fun c=>takenI l (c.getD i ⟨true,[]⟩)).sum
theorem costK_all (b:BK) (i:Nat) (l:List Int):costK b i l b.copies.length=cost1 b i l:=by rw [costK,List.take_length];rfl
theorem costK_succ (b:BP) (i:Nat) (l:List Int) {k:Nat} (hk:k<b.cs.length) (hi:i<b.cs[k].ls.length):costK b.bk i l (k+1)=costK b.bk i l k+takenI l b.cs[k].ls[i].ln:=by
 unfold costK
 have hk':k<b.bk.copies.length:=by simpa using hk
 rw [List.take_succ_eq_append_getElem hk',List.map_append,List.sum_append_int,List.map_singleton,List.sum_singleton]
 congr 2
 have:b.bk.copies[k]=b.cs[k].c:=by simp
 rw [this,List.getD_eq_getElem?_getD,List.getElem?_map,List.getElem?_eq_getElem hi];rfl
theorem taken4 {w:Int} {l:List Int} {x:LP} (h1:lineB w l=true) (h2:lineB w x.l=true):0≤takenI l x.ln∧takenI l x.ln≤4:=by
 refine ⟨taken_nn _ _,?_⟩
 unfold takenI
 have:=lev4 h1 h2
 split
 ·omega
 ·show ((lev l x.l:Nat):Int)≤4
  omega
theorem costK_in (b:BP) (hB:OkB b.bk) {i:Nat} (hi:i<lines1 b.bk) {l:List Int} (hl:lineB b.words l=true):∀ {k:Nat},k≤b.cs.length→0≤costK b.bk i l k∧costK b.bk i l k≤4*k
 | 0,_=>by simp [costK]
 | k+1,hk=>by
  have h1:=costK_in b hB hi hl (k:=k) (by omega)
  have hc:=CP.okl hB (List.getElem_mem (h:=show k<b.cs.length by omega))
  have hik:i<b.cs[k].ls.length:=by omega
  have h2:=taken4 (x:=b.cs[k].ls[i]) hl (hc.2 _ (List.getElem_mem hik)).1
  rw [costK_succ b i l (by omega) hik]
  omega
def briefS (X:List SI):Bool:=decide (X.length≤6)&&X.all fun x=>decide (x.l.length≤6)
theorem ints_lowC (l:List Int) (m:Nat) (c:PV) (hc:c∈l.flatMap encI):PV.low m c=true:=encI_low _ _ _ hc
end Go.Den.Ve
end
section
namespace Go.Den.Ve
def growN (w:Nat) (l:List Int):List (List Int):=(List.range w).map fun (x:Nat)=>l++[(x:Int)]
theorem lists_grow (w:Nat):∀ k,listsL w (k+1)=(listsL w k).flatMap (growN w)
 | 0=>by
  simp only [listsL,growN,List.flatMap_cons,List.flatMap_nil,List.append_nil,List.nil_append,List.map_cons,List.map_nil]
  induction List.range w with
  | nil=>rfl
  | cons x l ih=>rw [List.flatMap_cons,ih];rfl
 | k+1=>by
  have ih:=lists_grow w k
  have e:listsL w (k+1+1)=(List.range w).flatMap fun (x:Nat)=>(listsL w (k+1)).map fun l=>(x:Int)::l:=rfl
  have e2:listsL w (k+1)=(List.range w).flatMap fun (x:Nat)=>(listsL w k).map fun l=>(x:Int)::l:=rfl
  rw [e]
  conv=>rhs;rw [e2]
  rw [List.flatMap_assoc]
  congr 1
  funext x
  rw [ih,List.map_flatMap,List.flatMap_map]
  congr 1
  funext l
  simp only [growN,List.map_map]
  rfl
def preL (w k:Nat):List (List Int):=(List.range k).flatMap (listsL w)
theorem preL_succ (w k:Nat):preL w (k+1)=preL w k++listsL w k:=by simp [preL,List.range_succ]
theorem preL_all (w:Nat):preL w 5=linesL w:=rfl
theorem preL_len {w:Nat} (hw:w≤3):∀ k,(preL w k).length≤3 ^ k
 | 0=>by simp [preL]
 | k+1=>by
  have h:=preL_len hw k
  rw [preL_succ,List.length_append,lists_pow]
  have h2:w ^ k≤3 ^ k:=Nat.pow_le_pow_left hw k
  have:3 ^ (k+1)=3*3 ^ k:=by rw [Nat.pow_succ];omega
  omega
theorem preL_at {w k m:Nat} (hm:m<(listsL w k).length):(preL w k).length+m<(preL w (k+1)).length:=by rw [preL_succ,List.length_append];omega
theorem preL_get {w k m:Nat} (hm:m<(listsL w k).length) (h:(preL w k).length+m<(preL w (k+1)).length):(preL w (k+1))[(preL w k).length+m]=(listsL w k)[m]:=by
 have e:=preL_succ w k
 simp only [e]
 rw [List.getElem_append_right (by omega)]
 congr 1;omega
theorem growN_take (w:Nat) (l:List Int) {x:Nat} (hx:x<w):(growN w l).take (x+1)=(growN w l).take x++[l++[(x:Int)]]:=by
 have hl:x<(growN w l).length:=by simp [growN,hx]
 rw [List.take_succ_eq_append_getElem hl]
 simp [growN]
def outA (w k m x:Nat):List (List Int):=preL w (k+1)++(((listsL w k).take m).flatMap (growN w)++(growN w ((listsL w k).getD m [])).take x)
theorem outA_len {w k m x:Nat} (hw:w≤3) (hk:k≤3):(outA w k m x).length≤500:=by
 have h1:=preL_len hw (k+1)
 have h2:3 ^ (k+1)≤3 ^ 4:=Nat.pow_le_pow_right (by omega) (by omega)
 have h3:((listsL w k).take m).flatMap (growN w) <+: listsL w (k+1):=by
  rw [lists_grow]
  conv=>rhs;rw [← List.take_append_drop m (listsL w k),List.flatMap_append]
  exact List.prefix_append _ _
 have h4:=h3.length_le
 rw [lists_pow] at h4
 have h5:w ^ (k+1)≤3 ^ (k+1):=Nat.pow_le_pow_left hw _
 have h6:((growN w ((listsL w k).getD m [])).take x).length≤3:=by
  rw [List.length_take];simp [growN];omega
 simp only [outA,List.length_append]
 omega
theorem outA_x {w k m x:Nat} (hx:x<w) (hm:m<(listsL w k).length):outA w k m (x+1)=outA w k m x++[(listsL w k)[m]++[(x:Int)]]:=by
 have e:(listsL w k).getD m []=(listsL w k)[m]:=by rw [List.getD_eq_getElem?_getD,List.getElem?_eq_getElem hm];rfl
 simp only [outA,e]
 rw [growN_take w _ hx]
 simp only [List.append_assoc]
theorem outA_m {w k m:Nat} (hm:m<(listsL w k).length):outA w k (m+1) 0=outA w k m w:=by
 have e:(listsL w k).getD m []=(listsL w k)[m]:=by rw [List.getD_eq_getElem?_getD,List.getElem?_eq_getElem hm];rfl
 simp only [outA,e]
 rw [List.take_succ_eq_append_getElem hm,List.flatMap_append,List.flatMap_singleton,List.take_of_length_le (l:=growN w (listsL w k)[m]) (by simp [growN])]
 simp
theorem outA_0 (w k:Nat):outA w k 0 0=preL w (k+1):=by simp [outA]
theorem outA_end (w k:Nat):outA w k (listsL w k).length 0=preL w (k+2):=by
 simp only [outA,List.take_length,List.take_zero,List.append_nil]
 rw [preL_succ w (k+1),lists_grow]
set_option maxHeartbeats 8000000 in
theorem c58 (b:BP) (w:Nat) (hwb:b.words=w) (hw1:1≤w) (hw3:w≤3) (st:St):ClR EE (.func 58 [] []) [b.pv] st (RetS st 1 (linesL w).length ((linesL w).flatMap encL)):=by
 have hb:=b.h
 refine cG1 pr58 fn58 (fun tm hl h0=>?_)
 refine go2 (bw hl h0) fnil ?_
 refine wp_for [5,3,4] (fun k vs S=>∃ v,vs=[iv k,v,iv ((preL w k).length:Nat)]∧k≤4∧OwnS st.heap.length S 1 v (preL w (k+1)).length ((preL w (k+1)).flatMap encL)∧hp S st.heap.length=some (.var [iv w,b.v])∧st.heap.length≤S.lo∧S.lo≤S.heap.length) (fun k=>4 - k) ⟨_,(sR hl),by omega,⟨rfl,.inr ⟨_,rfl,by first|omega|(simp only [len_push];omega),(sG fnil)⟩⟩,(sG hwb),by simp only [lo_push];omega,by simp only [lo_push,len_push];omega⟩ ?_
 rintro k tm1 S ⟨v,hv,hk,hO,d0,hlo,hwf⟩ hS
 simp only [List.map_cons,List.map_nil,List.cons.injEq,and_true] at hv
 obtain ⟨hv5,hv3,hv4⟩:=hv
 have hl1:tm1.length=41:=lN hS hl;have i1:tg tm1 1 = .ptr st.heap.length 0:=tQ hS hl;clear hS
 have ld0:=hp_lt d0
 refine go2 (bw hl1 hv5) fnil ?_
 refine ⟨decide ((k:Int)<4),(sG hl1),fun hbi=>?_,fun hbi=>?_⟩
 ·have hlt:=of_decide_eq_false hbi
  have hk4:k=4:=by omega
  subst hk4
  rw [preL_all] at hO
  refine go2 (bw hl1 hv3) fnil ?_
  refine fX (v) (bw hl1 hv3) ?_
  exact hO.finish hlo (fun m c hc=>encL_low _ m c hc)
 have hlt:k<4:=by have:=of_decide_eq_true hbi;omega
 have hwk:IntKind.wrap .i64 ((k:Int)+1)=((k+1:Nat):Int):=wrap_nat (n:=k+1) (by omega)
 refine ⟨by omega,?_⟩
 have hvs:=sl_slen hO.sl
 have hpl:=preL_len hw3 (k+1)
 have hpl2:3 ^ (k+1)≤3 ^ 4:=Nat.pow_le_pow_right (by omega) (by omega)
 refine go2 (bw4 hl1 hv3 hv4 hvs) fnil ?_
 refine wp_for [7,3] (fun m vs S'=>∃ v,vs=[iv (((preL w k).length+m:Nat):Int),v]∧m≤(listsL w k).length∧OwnS st.heap.length S' 1 v (outA w k m 0).length ((outA w k m 0).flatMap encL)∧hp S' st.heap.length=some (.var [iv w,b.v])∧st.heap.length≤S'.lo∧S'.lo≤S'.heap.length) (fun m=>(listsL w k).length - m) ⟨v,(sG (bw3 hl1 hv3 hv4)),Nat.zero_le _,by rw [outA_0];exact hO,d0,hlo,hwf⟩ ?_
 clear hO d0 hlo hwf hv3 hvs ld0
 rintro m tm2 S2 ⟨v2,hv,hm,hO,d0,hlo,hwf⟩ hS2
 simp only [List.map_cons,List.map_nil,List.cons.injEq,and_true] at hv
 obtain ⟨hv7,hv3⟩:=hv
 have hl2:tm2.length=41:=lN hS2 hl1;have j1:tg tm2 1 = .ptr st.heap.length 0:=tQ hS2 (bw3 hl1 i1 hv5);have j6:tg tm2 6=iv ((preL w (k+1)).length:Nat):=tQ hS2 (bw3 hl1 i1 hv5);have j5:tg tm2 5=iv k:=tQ hS2 (bw3 hl1 i1 hv5);clear hS2
 have ld0:=hp_lt d0
 have hps:(preL w (k+1)).length=(preL w k).length+(listsL w k).length:=by rw [preL_succ,List.length_append]
 refine go2 (bw3 hl2 hv7 j6) fnil ?_
 refine ⟨decide ((((preL w k).length+m:Nat):Int)<((preL w (k+1)).length:Nat)),(sG hl2),fun hbi2=>?_,fun hbi2=>?_⟩
 ·have hlt2:=of_decide_eq_false hbi2
  have hmn:m=(listsL w k).length:=by omega
  subst hmn
  rw [outA_end] at hO
  refine go2 (bw4 hl2 j6 j5 hwk) fnil ?_
  exact ⟨v2,(sG (bw hl2 hv3)),by omega,hO,d0,hlo,hwf⟩
 have hlt2:m<(listsL w k).length:=by have:=of_decide_eq_true hbi2;omega
 have hwm:IntKind.wrap .i64 ((((preL w k).length+m:Nat):Int)+1)=(((preL w k).length+(m+1):Nat):Int):=by rw [wrap_in (by unfold inI;omega)];omega
 refine ⟨by omega,?_⟩
 refine go2 hl2 fnil ?_
 refine wp_for [8,3] (fun x vs S'=>∃ v,vs=[iv x,v]∧x≤w∧OwnS st.heap.length S' 1 v (outA w k m x).length ((outA w k m x).flatMap encL)∧hp S' st.heap.length=some (.var [iv w,b.v])∧st.heap.length≤S'.lo∧S'.lo≤S'.heap.length) (fun x=>w - x) ⟨v2,(sR (bw hl2 hv3)),Nat.zero_le _,hO,d0,hlo,hwf⟩ ?_
 clear hO d0 hlo hwf hv3 ld0
 rintro x tm3 S3 ⟨v3,hv,hx,hO,d0,hlo,hwf⟩ hS3
 simp only [List.map_cons,List.map_nil,List.cons.injEq,and_true] at hv
 obtain ⟨hv8,hv3⟩:=hv
 have hl3:tm3.length=41:=lN hS3 hl2;have k1:tg tm3 1 = .ptr st.heap.length 0:=tQ hS3 (bw3 hl2 j1 hv7);have k7:tg tm3 7=iv (((preL w k).length+m:Nat):Int):=tQ hS3 (bw3 hl2 j1 hv7);clear hS3
 have ld0:=hp_lt d0
 refine go2 (bw5 hl3 hv8 k1 d0 (n4 ld0)) fnil ?_
 refine ⟨decide ((x:Int)<w),(sG hl3),fun hbi3=>?_,fun hbi3=>?_⟩
 ·have hlt3:=of_decide_eq_false hbi3
  have hxw:x=w:=by omega
  subst hxw
  refine go2 (bw3 hl3 k7 hwm) fnil ?_
  exact ⟨v3,(sG (bw hl3 hv3)),by omega,by rw [outA_m hlt2];exact hO,d0,hlo,hwf⟩
 have hlt3:x<w:=by have:=of_decide_eq_true hbi3;omega
 have hwx:IntKind.wrap .i64 ((x:Int)+1)=((x+1:Nat):Int):=wrap_nat (n:=x+1) (by omega)
 refine ⟨by omega,?_⟩
 have hol:=outA_len (m:=m) (x:=x) hw3 (show k≤3 by omega)
 have hV:SlOf 1 encL v3 (outA w k m x):=SlOf.of_sl hO.sl rfl rfl (fun _=>rfl)
 have hat:(preL w k).length+m<(outA w k m x).length:=by
  have:=preL_at hlt2
  simp only [outA,List.length_append] at *;omega
 have hget:(outA w k m x)[(preL w k).length+m]=(listsL w k)[m]:=by
  have h1:=preL_at hlt2
  simp only [outA]
  rw [List.getElem_append_left h1,preL_get hlt2]
 have hll:=(mem_lists.1 (List.getElem_mem hlt2)).1
 refine go2 (bw4 hl3 k7 hv3 hget) fnil ?_
 refine wops_append (m:=S3.heap.length) rfl rfl (sR hl3) (sR (bw hl3 hget)) .nil (el_sl (listsL w k)[m]).sl (Nat.le_refl _) (by rw [encI_map];simp) (encI_cell _) (by simp only [maxList];omega) ?_
 intro a1 s1 hO1 hF1 hk1
 rw [encI_share,Nat.zero_add,List.nil_append] at hO1
 have x1:=hF1.len
 have x2:=hF1.lo
 have x3:=hF1.up
 refine go2 (bw hl3 hv8) fnil ?_
 refine wops_append rfl rfl (sR hl3) (sR (bw hl3 hv8)) hO1.push rfl (by simp only [len_push];omega) (by rfl) (by rfl) (by simp only [maxList];omega) ?_
 intro a2 s2 hO2 hF2 hk2
 have y1:=hF2.len
 have y2:=hF2.lo
 have y3:=hF2.up
 simp only [lo_push,len_push] at y1 y2 y3
 have hO2':OwnS S3.heap.length s2 1 a2 ((listsL w k)[m]++[(x:Int)]).length (((listsL w k)[m]++[(x:Int)]).flatMap encI):=by
  rw [List.length_append,List.flatMap_append]
  simpa [share_int] using hO2
 have hsh:a2.share=elL ((listsL w k)[m]++[(x:Int)]):=share_own hO2' rfl rfl (by simp)
 have hac:=sl_cells hO2'.sl
 have hFF:Fr S3.heap.length S3 s2:=(hF1.push x1).trans hF2
 have hOv:=hO.frame hFF (Nat.le_refl _)
 have d2:=hFF.hp d0 (by omega)
 have ld2:=hp_lt d2
 refine go2 (bw4 hl3 hv3 hsh hac) fnil ?_
 refine wops_append rfl rfl (sR hl3) (sR hl3) hOv.push rfl (by simp only [len_push];omega) (by rfl) (by simp only [List.all_cons,List.all_nil,el_share,el_isCell,Bool.and_true]) (by simp only [maxList];omega) ?_
 intro a3 s3 hO3 hF3 hk3
 have z1:=hF3.lo
 have z2:=hF3.up
 have z3:=hF3.len
 simp only [lo_push,len_push] at z1 z2 z3
 refine go2 (bw3 hl3 hv8 hwx) fnil ?_
 refine ⟨a3,(sG hl3),by omega,?_,hk3 _ _ (by rw [hp_push,if_neg (by omega)];exact d2) (by simp),by omega,by omega⟩
 rw [outA_x hlt3 hlt2,List.flatMap_append,List.flatMap_singleton,List.length_append]
 simpa [el_share] using hO3
set_option maxHeartbeats 4000000 in
theorem c143 (b:BP) (hB:OkB b.bk) (i:Nat) (hi:i<lines1 b.bk) (L:PV) (l:List Int) (hL:SlOf 1 encI L l) (hline:lineB b.words l=true) (st:St):Cl EE (.func 143 [] []) [b.pv,iv i,L] st (.ret (iv (cost1 b.bk i l))) st:=by
 have hb:=b.h
 have hc5:=hB.c5
 have hbl:b.bk.copies.length=b.cs.length:=by simp
 refine cF3 pr143 fn143 (fun tm hl h0 h1 h2=>?_)
 refine go2 (bw hl h0) fnil ?_
 refine wp_for [8,7] (fun k vs S=>vs=[iv k,iv (costK b.bk i l k)]∧k≤b.cs.length∧hp S st.heap.length=some (.var [iv b.words,b.v])∧st.heap.length≤S.lo∧S.lo≤S.heap.length) (fun k=>b.cs.length - k) ⟨(sR hl),Nat.zero_le _,(sG fnil),by simp only [lo_push];omega,by simp only [lo_push,len_push];omega⟩ ?_
 rintro k tm1 S ⟨hv,hk,d0,hlo,hwf⟩ hS
 simp only [List.map_cons,List.map_nil,List.cons.injEq,and_true] at hv
 obtain ⟨hv,hv7⟩:=hv
 have hl1:tm1.length=35:=lN hS hl;have i1:tg tm1 1=iv i:=tQ hS (bw3 hl h1 h2);have i2:tg tm1 2=L:=tQ hS (bw3 hl h1 h2);have i3:tg tm1 3 = .ptr st.heap.length 0:=tQ hS (bw3 hl h1 h2);clear hS
 have ld0:=hp_lt d0
 refine go2 (bw5 hl1 hv i3 d0 (n4 ld0)) fnil ?_
 refine ⟨decide ((k:Int)<b.cs.length),(sG hl1),fun hbk=>?_,fun hbk=>?_⟩
 ·have hlt:=of_decide_eq_false hbk
  have hin:k=b.cs.length:=by omega
  rw [hin,← hbl,costK_all] at hv7
  refine go2 (bw hl1 hv7) fnil ?_
  exact fQ hl1
 ·have hlt:k<b.cs.length:=by have:=of_decide_eq_true hbk;omega
  have hw1:IntKind.wrap .i64 ((k:Int)+1)=((k+1:Nat):Int):=wrap_nat (n:=k+1) (by omega)
  refine ⟨by omega,?_⟩
  have hC:=b.cs[k].h
  have hc:=CP.okl hB (List.getElem_mem hlt)
  have hik:i<b.cs[k].ls.length:=by omega
  have hx:=(hc.2 _ (List.getElem_mem hik)).1
  have hs:=costK_succ b i l hlt hik
  have hin1:=costK_in b hB hi hline (k:=k) hk
  have hin2:=costK_in b hB hi hline (k:=k+1) (by omega)
  have hX:=b.cs[k].ls[i].h
  cases hlo:b.cs[k].ls[i].lost
  ·have ht:takenI l b.cs[k].ls[i].ln=(lev l b.cs[k].ls[i].l:Nat):=by unfold takenI;simp [hlo]
   rw [ht] at hs
   have k32:=fun st=>c32 L b.cs[k].ls[i].w l b.cs[k].ls[i].l hL hX (by have:=line4 hline;omega) (by have:=line4 hx;omega) st
   have hw2:IntKind.wrap .i64 (costK b.bk i l k+(lev l b.cs[k].ls[i].l:Nat))=costK b.bk i l (k+1):=by rw [wrap_in (by unfold inI;omega),hs]
   refine go2 (bw11 hl1 hv hv7 i1 i2 i3 hlo hw1 hw2 d0 (n4 ld0)) (bw k32 fnil) ?_
   exact ⟨(sG hl1),by omega,(sG (bw d0 (n4 ld0))),by simp only [lo_setVar,lo_push];omega,by simp only [lo_setVar,lo_push,len_setVar,len_push];omega⟩
  ·have ht:takenI l b.cs[k].ls[i].ln=0:=by unfold takenI;simp [hlo]
   rw [ht,Int.add_zero] at hs
   refine go2 (bw10 hl1 hv hv7 i1 i2 i3 hlo hw1 d0 (n4 ld0)) fnil ?_
   exact ⟨(sG (bw3 hl1 hv7 hs)),by omega,(sG (bw d0 (n4 ld0))),by simp only [lo_setVar,lo_push];omega,by simp only [lo_setVar,lo_push,len_setVar,len_push];omega⟩
def costsL (b:BK) (i:Nat) (w:Nat):List Int:=(linesL w).map (cost1 b i)
theorem lines_line {b:BK} (hB:OkB b) {w:Nat} (hw:b.words=w) {l:List Int} (h:l∈linesL w):lineB b.words l=true:=by
 refine (mem_linesB hB).1 ?_
 rw [hw,Int.toNat_natCast];exact h
set_option maxHeartbeats 4000000 in
theorem c97 (b:BP) (hB:OkB b.bk) (w:Nat) (hw:b.words=w) (i:Nat) (hi:i<lines1 b.bk) (st:St):ClR EE (.func 97 [] []) [b.pv,iv i] st (RetS st 1 (costsL b.bk i w).length ((costsL b.bk i w).flatMap encI)):=by
 have hb:=b.h
 have hw1:=hB.w1
 have hw3:=hB.w3
 have hbw:b.bk.words=b.words:=rfl
 have hcl:(costsL b.bk i w).length=(linesL w).length:=by simp [costsL]
 have hll:=lines_len w (by omega)
 refine cG2 pr97 fn97 (fun tm hl h0 h1=>?_)
 refine go2 (bw hl h0) fnil ?_
 refine cR (bw hl h0) (c58 b w hw (by omega) (by omega) _) ?_
 intro V s1 hR
 have hV:SlOf 1 encL V (linesL w):=slL hR
 have hVs:=hV.slen
 have d0:hp s1 st.heap.length=some (.var [iv b.words,b.v]):=hR.hp (sG fnil)
 have z1:=hR.lo
 have z2:=hR.len
 simp only [lo_push,len_push] at z1 z2
 refine go2 hl fnil ?_
 refine wp_for [7,6] (fun k vs S=>∃ v,vs=[iv k,v]∧k≤(linesL w).length∧OwnS st.heap.length S 1 v k (((costsL b.bk i w).take k).flatMap encI)∧hp S st.heap.length=some (.var [iv b.words,b.v])∧st.heap.length≤S.lo∧S.lo≤S.heap.length) (fun k=>(linesL w).length - k) ⟨_,(sR hl),Nat.zero_le _,.nil,d0,by omega,by omega⟩ ?_
 clear d0
 rintro k tm1 S ⟨v,hv,hk,hO,d0,hlo,hwf⟩ hS
 simp only [List.map_cons,List.map_nil,List.cons.injEq,and_true] at hv
 obtain ⟨hv7,hv6⟩:=hv
 have hl1:tm1.length=27:=lN hS hl;have i1:tg tm1 1=iv i:=tQ hS (bw hl h1);have i2:tg tm1 2 = .ptr st.heap.length 0:=tQ hS (bw hl h1);have i5:tg tm1 5=V:=tQ hS (bw hl h1);clear hS
 have ld0:=hp_lt d0
 refine go2 (bw4 hl1 hv7 i5 hVs) fnil ?_
 refine ⟨decide ((k:Int)<(linesL w).length),(sG hl1),fun hbk=>?_,fun hbk=>?_⟩
 ·have hlt:=of_decide_eq_false hbk
  have hin:k=(linesL w).length:=by omega
  subst hin
  rw [← hcl,List.take_length] at hO
  refine go2 (bw hl1 hv6) fnil ?_
  refine fX (v) (bw hl1 hv6) ?_
  exact hO.finish hlo (fun m c hc=>ints_lowC _ m c hc)
 ·have hlt:k<(linesL w).length:=by have:=of_decide_eq_true hbk;omega
  have hw2:IntKind.wrap .i64 ((k:Int)+1)=((k+1:Nat):Int):=wrap_nat (n:=k+1) (by omega)
  refine ⟨by omega,?_⟩
  have kc:=fun st=>c143 b hB i hi (elL (linesL w)[k]) (linesL w)[k] (el_sl _) (lines_line hB hw (List.getElem_mem hlt)) st
  refine go2 (bw8 hl1 hv7 hv6 i1 i2 i5 d0 (n4 ld0)) (bw kc fnil) ?_
  have hw0:S.lo≤S.heap.length:=hwf
  refine wopsD_append (by simp only [lo_push,len_push];omega) rfl rfl (sR (bw hl1 hv6)) (sR hl1) hO.push rfl (by simp only [len_push];omega) (by rfl) (by rfl) (by simp only [maxList];omega) ?_
  intro v' s3 ft hO3 hF3 hk3
  have y1:=hF3.lo
  have y2:=hF3.up
  have y3:=hF3.len
  simp only [lo_push,len_push] at y1 y2 y3
  refine go2 (bw3 hl1 hv7 hw2) fnil ?_
  refine ⟨v',(sG hl1),by omega,?_,hk3 _ _ (sG (bw d0 (n4 ld0))) (by simp),by omega,by omega⟩
  have hkc:k<(costsL b.bk i w).length:=by omega
  rw [List.take_succ_eq_append_getElem hkc,List.flatMap_append]
  have:(costsL b.bk i w)[k]=cost1 b.bk i (linesL w)[k]:=by simp [costsL]
  rw [this]
  simpa [share_int] using hO3
end Go.Den.Ve
end
section
namespace Go.Den
theorem wopsD_callQ {E:Env} {QD:Ex→List PV→St→List Foot→Prop} {tm:List PV} {st:St} {f:Opd} {args:List Opd} {dst:Option Nat} {g:Option (Nat×Bool)} {os:List DOper} {b:Bool} {fv:PV} {P:PV→St→Prop} (hw:wants tm g=b) (hb:b=true) (hf:f.ev tm=fv) (hc:ClR E fv (evs tm args) { st with lo:=st.heap.length } P) (hq:∀ v st1,P v st1→st.heap.length≤st1.lo)
  (h:∀ v st1,P v st1→WOpsD E os (fun e tm' st' fs=>QD e tm' st' (.quiet::fs)) (put tm dst v) { st1 with lo:=min st.lo st1.lo }):WOpsD E (⟨.call f args,dst,g⟩::os) QD tm st:=by
 obtain ⟨v,st1,⟨N,hN⟩,hP⟩:=hc
 refine wopsD_cons (v:=v) (st1:=st1) (hw.trans hb) N (fun n hn=>by simp only [stepOp,hf,hN n hn]) ?_
 have hf:footOf tm (.call f args) st.heap.length st1.lo = .quiet:=by
  simp only [footOf]
  rw [if_pos (hq v st1 hP)]
 rw [hf]
 exact h v st1 hP
end Go.Den
namespace Go.Den.Ve
theorem minT {α:Type} {m:α→Int} {X:List α} {i:Nat} (hi:i<X.length):minL m (X.take (max (i+1) 1))=min (minL m (X.take (max i 1))) (m X[i]):=by
 rcases Nat.eq_zero_or_pos i with h0|h0
 ·subst h0
  cases X with
  | nil=>simp at hi
  | cons x X=>simp [minL]
 ·rw [Nat.max_eq_left (by omega),Nat.max_eq_left (by omega),List.take_succ_eq_append_getElem hi,minL_snoc]
  intro e
  have:=congrArg List.length e
  rw [List.length_take,List.length_nil] at this
  omega
theorem minT0 {α:Type} {m:α→Int} {X:List α} (h:0<X.length):minL m (X.take (max 0 1))=m X[0]:=by
 cases X with
 | nil=>simp at h
 | cons x X=>rfl
theorem minT1 {α:Type} {m:α→Int} {X:List α} (h:0<X.length):minL m (X.take (max X.length 1))=minL m X:=by
 rw [Nat.max_eq_left (by omega),List.take_length]
def LeastP (X:List (List Int)) (m:List Int→Int) (st:St) (v:PV) (st':St):Prop:=∃ u,v = .tuple [u,iv (minL m X)]∧RetW st (leastL m X).length ((leastL m X).flatMap encL) u st'
set_option maxHeartbeats 4000000 in
theorem c96 (F G:PV) (X:List (List Int)) (m:List Int→Int) (hF:SlOf 1 encL F X) (hG:SlOf 1 encI G (X.map m)) (hX0:0<X.length) (hN:X.length≤1000) (st:St):ClR EE (.func 96 [] []) [F,G] st (LeastP X m st):=by
 have hFs:=hF.slen
 have hGs:=hG.slen
 have hml:(X.map m).length=X.length:=by simp
 have hg0:(X.map m)[0]'(by omega)=m X[0]:=by simp
 have hG0:0<(X.map m).length:=by omega
 have hz0:((0:Nat):Int)=0:=rfl
 refine cG2 pr96 fn96 (fun tm hl h0 h1=>?_)
 refine go2 (bw4 hl h0 h1 hg0) fnil ?_
 refine wp_for [7,6] (fun i vs S=>vs=[iv i,iv (minL m (X.take (max i 1)))]∧i≤X.length∧S={ heap:=st.heap,lo:=st.heap.length }) (fun i=>X.length - i) ⟨by simp only [↓reduceIte,go_sem,hl,minT0 hX0];first|done|rfl,Nat.zero_le _,rfl⟩ ?_
 rintro i tm1 S ⟨hv,hi,rfl⟩ hS
 simp only [List.map_cons,List.map_nil,List.cons.injEq,and_true] at hv
 obtain ⟨hv7,hv6⟩:=hv
 have hl1:tm1.length=46:=lN hS hl;have i0:tg tm1 0=F:=tQ hS (bw3 hl h0 h1);have i1:tg tm1 1=G:=tQ hS (bw3 hl h0 h1);clear hS
 refine go2 (bw5 hl1 hv7 i1 hGs hml) fnil ?_
 refine ⟨decide ((i:Int)<X.length),(sG hl1),fun hbi=>?_,fun hbi=>?_⟩
 ·have hlt:=of_decide_eq_false hbi
  have hin:i=X.length:=by omega
  rw [hin,minT1 hX0] at hv6
  refine go2 hl1 fnil ?_
  refine wp_for [9,8] (fun k vs S=>∃ v,vs=[iv k,v]∧k≤X.length∧OwnS st.heap.length S 1 v ((X.take k).filter fun x=>m x==minL m X).length (((X.take k).filter fun x=>m x==minL m X).flatMap encL)∧st.heap.length≤S.lo∧S.lo≤S.heap.length) (fun k=>X.length - k) ⟨_,(sR hl1),Nat.zero_le _,.nil,by show st.heap.length≤st.heap.length;omega,Nat.le_refl _⟩ ?_
  rintro k tm2 S2 ⟨v,hv,hk,hO,hlo,hwf⟩ hS2
  simp only [List.map_cons,List.map_nil,List.cons.injEq,and_true] at hv
  obtain ⟨hv9,hv8⟩:=hv
  have hl2:tm2.length=46:=lN hS2 hl1;have j0:tg tm2 0=F:=tQ hS2 (bw4 hl1 i0 i1 hv6);have j1:tg tm2 1=G:=tQ hS2 (bw4 hl1 i0 i1 hv6);have j6:tg tm2 6=iv (minL m X):=tQ hS2 (bw4 hl1 i0 i1 hv6);clear hS2
  refine go2 (bw4 hl2 hv9 j0 hFs) fnil ?_
  refine ⟨decide ((k:Int)<X.length),(sG hl2),fun hbk=>?_,fun hbk=>?_⟩
  ·have hlt2:=of_decide_eq_false hbk
   have hkn:k=X.length:=by omega
   rw [hkn,List.take_length] at hO
   refine go2 (bw3 hl2 hv8 j6) fnil ?_
   refine fX (.tuple [v,iv (minL m X)]) (bw3 hl2 hv8 j6) ?_
   exact finish_slT hO.sl (by rfl) hlo (fun m=>lowL_of fun c hc=>encL_low _ _ _ hc)
  ·have hlt2:k<X.length:=by have:=of_decide_eq_true hbk;omega
   have hw1:IntKind.wrap .i64 ((k:Int)+1)=((k+1:Nat):Int):=wrap_nat (n:=k+1) (by omega)
   have hgk:(X.map m)[k]'(by omega)=m X[k]:=by simp
   have hkm:k<(X.map m).length:=by omega
   have hft:=filter_take (P:=fun x=>m x==minL m X) hlt2
   have hfl:=filter_take_len (P:=fun x=>m x==minL m X) (X:=X) (i:=k)
   refine ⟨by omega,?_⟩
   cases hx:(m X[k]==minL m X)
   ·rw [hx,if_neg (by simp),List.append_nil] at hft
    refine go2 (bw7 hl2 hv9 j1 j6 hgk hx hw1) fnil ?_
    exact ⟨v,(sG (bw hl2 hv8)),by omega,by rw [hft];exact hO,hlo,hwf⟩
   ·rw [hx,if_pos rfl] at hft
    refine go2 (bw9 hl2 hv9 hv8 j0 j1 j6 hgk hx el_cells) fnil ?_
    refine wops_append rfl rfl (sR (bw hl2 hv8)) (sR hl2) hO.push rfl (by simp only [len_push];omega) (by rfl) (by simp only [List.all_cons,List.all_nil,el_share,el_isCell,Bool.and_true]) (by simp only [maxList];omega) ?_
    intro v' s3 hO3 hF3 hk3
    have z1:=hF3.lo
    have z2:=hF3.up
    have z3:=hF3.len
    simp only [lo_push,len_push] at z1 z2 z3
    refine go2 (bw3 hl2 hv9 hw1) fnil ?_
    refine ⟨v',(sG hl2),by omega,?_,by omega,by omega⟩
    rw [hft,List.flatMap_append,List.length_append,List.flatMap_singleton]
    simpa [el_share] using hO3
 ·have hlt:i<X.length:=by have:=of_decide_eq_true hbi;omega
  have hw1:IntKind.wrap .i64 ((i:Int)+1)=((i+1:Nat):Int):=wrap_nat (n:=i+1) (by omega)
  have hgi:(X.map m)[i]'(by omega)=m X[i]:=by simp
  have him:i<(X.map m).length:=by omega
  refine ⟨by omega,?_⟩
  refine go2 (bw7 hl1 hv7 hv6 i1 hgi @mm2' hw1) fnil ?_
  exact ⟨by simp only [↓reduceIte,go_sem,hl1,minT hlt],by omega,rfl⟩
set_option maxHeartbeats 4000000 in
theorem c45 (b:BP) (hB:OkB b.bk) (i:Nat) (hi:i<lines1 b.bk) (st:St):ClR EE (.func 45 [] []) [b.pv,iv i] st (fun v st'=>∃ u,v = .tuple [u,iv (manyB b.bk i)]∧RetW st (leastB b.bk i).length ((leastB b.bk i).flatMap encL) u st'):=by
 have hb:=b.h
 have hw1:=hB.w1
 have hw3:=hB.w3
 obtain ⟨w,hw⟩:∃ w:Nat,b.words=w:=⟨b.words.toNat,by have:b.bk.words=b.words:=rfl;omega⟩
 have hbw:b.bk.words=b.words:=rfl
 have e1:leastB b.bk i=leastL (cost1 b.bk i) (linesL w):=by unfold leastB;rw [hbw,hw,Int.toNat_natCast]
 have e2:manyB b.bk i=minL (cost1 b.bk i) (linesL w):=by unfold manyB;rw [hbw,hw,Int.toNat_natCast]
 rw [e1,e2]
 have hll:=lines_len w (by omega)
 have hl0:0<(linesL w).length:=by have:=lines_ne w;cases h:linesL w with
  | nil=>exact absurd h this
  | cons x l=>simp
 refine cG2 pr45 fn45 (fun tm hl h0 h1=>?_)
 refine go2 (bw3 hl h0 h1) fnil ?_
 refine wopsD_callS (by first|omega|(simp only [lo_push,lo_setVar,len_push,len_setVar];omega)) rfl rfl (by simp only [↓reduceIte,go_sem,hl,h0];first|done|rfl) (fun st1 he=>by simp only [↓reduceIte,go_sem,hl,h0];exact c58 b w hw (by omega) (by omega) _) ?_
 intro V1 s1 hR1
 have hV1:SlOf 1 encL V1 (linesL w):=slL hR1
 have d1:hp s1 st.heap.length=some (.var [iv b.words,b.v]):=hR1.hp (sG fnil)
 have ld1:=hp_lt d1
 have x1:=hR1.lo
 have x2:=hR1.len
 simp only [lo_push,len_push] at x1 x2
 refine go2 (bw4 hl h1 d1 (n4 ld1)) fnil ?_
 refine wopsD_callS (by first|omega|(simp only [lo_push,lo_setVar,len_push,len_setVar];omega)) rfl rfl (by simp only [↓reduceIte,go_sem,hl,h1];first|done|rfl) (fun st1 he=>by simp only [↓reduceIte,go_sem,hl,h1];exact c97 b hB w hw i hi _) ?_
 intro V2 s2 hR2
 have hV2:SlOf 1 encI V2 (costsL b.bk i w):=SlOf.of_sl hR2.sl rfl rfl (fun _=>rfl)
 have y1:=hR2.lo
 have y2:=hR2.len
 refine go2 hl fnil ?_
 refine wopsD_callQ rfl rfl (sR hl) (by simp only [↓reduceIte,go_sem,hl];exact c96 V1 V2 (linesL w) (cost1 b.bk i) hV1 hV2 hl0 (by omega) _) (by rintro v st1 ⟨u,_,hR⟩;have:=hR.lo;simp only at this;omega) ?_
 rintro v s3 ⟨u,rfl,hR3⟩
 have z1:=hR3.lo
 have z2:=hR3.len
 simp only at z1 z2
 have hus:=hR3.1
 have huc:=sl_cells hus
 have hui:=sl_isCell hus
 refine go2 (bw3 hl huc hui) fnil ?_
 refine fX (.tuple [u,iv (minL (cost1 b.bk i) (linesL w))]) hl ?_
 exact finish_slT hus (by rfl) (by simp only;omega) (fun m=>lowL_of fun c hc=>encL_low _ _ _ hc)
end Go.Den.Ve
end
section
namespace Go.Den.Ve
theorem cost_snoc (x:Sp):∀ s:List Sp,costL (s++[x])=costL s+if x.1=1 then 0 else 1
 | []=>by simp [costL]
 | y::s=>by rw [List.cons_append,costL,cost_snoc x s,costL];omega
theorem cost_le:∀ s:List Sp,costL s≤s.length
 | []=>Nat.le_refl _
 | x::s=>by have:=cost_le s;rw [costL,List.length_cons];split <;> omega
theorem soon_pre (s t:List Sp):∀ l:List Sp,soonL (l++s) (l++t)=soonL s t
 | []=>rfl
 | a::l=>by rw [List.cons_append,List.cons_append,soonL,if_pos rfl];exact soon_pre s t l
end Go.Den.Ve
end
section
namespace Go.Den.Ve
end Go.Den.Ve
end
section
namespace Go.Den.Ve
def StepsP (l m:List Int) (c:Int) (st:St) (v:PV) (st':St):Prop:=∃ u,v = .tuple [u,.bool (stepsR l m c).isSome]∧RetW st ((stepsR l m c).getD []).length (((stepsR l m c).getD []).flatMap enc2) u st'
theorem enc2_many:∀ s:List Sp,(s.flatMap enc2).length=s.length*2
 | []=>rfl
 | x::p=>by rw [List.flatMap_cons,List.length_append,enc2_many p,List.length_cons];simp only [List.length_cons,List.length_nil];omega
end Go.Den.Ve
end
section
namespace Go.Den.Ve
def WholeP (b:BK) (st:St) (v:PV) (st':St):Prop:=∃ u,v = .tuple [u,iv (wholeN b),iv (wholeC b)]∧RetW st (wholeT b).length ((wholeT b).flatMap encL) u st'
def tks (b:BK) (n i:Nat):List Int:=(leastB b i).map fun y=>takenI y (lnAt b n i)
def flK (b:BK) (n k:Nat):Int:=((farK b n k).map Prod.fst).sum
def fhK (b:BK) (n k:Nat):Int:=((farK b n k).map Prod.snd).sum
end Go.Den.Ve
end
section
namespace Go.Den.Ve
def wayR (X:List (List Int)) (x:List Int):List Int:=X.map fun y=>((lev x y:Nat):Int)
set_option maxHeartbeats 4000000 in
theorem c106 (b:BP) (w:Nat) (hwb:b.words=w) (hw1:1≤w) (hw3:w≤3) (st:St):ClR EE (.func 106 [] []) [b.pv] st (RetS st 1 ((linesL w).map (wayR (linesL w))).length (((linesL w).map (wayR (linesL w))).flatMap encL)):=by
 have hb:=b.h
 have hll:=lines_len w (by omega)
 have hrl:∀ x,(wayR (linesL w) x).length=(linesL w).length:=fun x=>by simp [wayR]
 have hml:((linesL w).map (wayR (linesL w))).length=(linesL w).length:=by simp
 refine cG1 pr106 fn106 (fun tm hl h0=>?_)
 refine go2 (bw hl h0) fnil ?_
 refine cR (bw hl h0) (c58 b w hwb hw1 hw3 _) ?_
 intro V s1 hR
 have hV:SlOf 1 encL V (linesL w):=slL hR
 have hVs:=hV.slen
 have z1:=hR.lo
 have z2:=hR.len
 simp only [lo_push,len_push] at z1 z2
 refine go2 hl fnil ?_
 refine wp_for [5,4] (fun i vs S=>∃ v,vs=[iv i,v]∧i≤(linesL w).length∧OwnS st.heap.length S 1 v i ((((linesL w).map (wayR (linesL w))).take i).flatMap encL)∧st.heap.length≤S.lo∧S.lo≤S.heap.length) (fun i=>(linesL w).length - i) ⟨_,(sR hl),Nat.zero_le _,.nil,by omega,by omega⟩ ?_
 rintro i tm1 S ⟨v,hv,hi,hO,hlo,hwf⟩ hS
 simp only [List.map_cons,List.map_nil,List.cons.injEq,and_true] at hv
 obtain ⟨hv5,hv4⟩:=hv
 have hl1:tm1.length=39:=lN hS hl;have i3:tg tm1 3=V:=tQ hS (bw hl h0);clear hS
 refine go2 (bw4 hl1 hv5 i3 hVs) fnil ?_
 refine ⟨decide ((i:Int)<(linesL w).length),(sG hl1),fun hbi=>?_,fun hbi=>?_⟩
 ·have hlt:=of_decide_eq_false hbi
  have hin:i=((linesL w).map (wayR (linesL w))).length:=by omega
  subst hin
  rw [List.take_length] at hO
  refine go2 (bw hl1 hv4) fnil ?_
  refine fX (v) (bw hl1 hv4) ?_
  exact hO.finish hlo (fun m c hc=>encL_low _ m c hc)
 have hlt:i<(linesL w).length:=by have:=of_decide_eq_true hbi;omega
 have hwi:IntKind.wrap .i64 ((i:Int)+1)=((i+1:Nat):Int):=wrap_nat (n:=i+1) (by omega)
 refine ⟨by omega,?_⟩
 refine go2 (bw hl1 hv4) fnil ?_
 refine wp_for [7,6] (fun j vs S'=>∃ u,vs=[iv j,u]∧j≤(linesL w).length∧OwnS S.heap.length S' 1 u j (((wayR (linesL w) (linesL w)[i]).take j).flatMap encI)∧Fr S.heap.length S S'∧st.heap.length≤S'.lo∧S'.lo≤S'.heap.length) (fun j=>(linesL w).length - j) ⟨_,(sR hl1),Nat.zero_le _,.nil,.refl _ _,hlo,hwf⟩ ?_
 rintro j tm2 S2 ⟨u,hv,hj,hU,hF,hlo2,hwf2⟩ hS2
 simp only [List.map_cons,List.map_nil,List.cons.injEq,and_true] at hv
 obtain ⟨hv7,hv6⟩:=hv
 have hl2:tm2.length=39:=lN hS2 hl1;have j3:tg tm2 3=V:=tQ hS2 (bw4 hl1 i3 hv5 hv4);have j4:tg tm2 4=v:=tQ hS2 (bw4 hl1 i3 hv5 hv4);have j5:tg tm2 5=iv i:=tQ hS2 (bw4 hl1 i3 hv5 hv4);clear hS2
 refine go2 (bw4 hl2 hv7 j3 hVs) fnil ?_
 have f1:=hF.len
 refine ⟨decide ((j:Int)<(linesL w).length),(sG hl2),fun hbj=>?_,fun hbj=>?_⟩
 ·have hlt2:=of_decide_eq_false hbj
  have hjn:j=(wayR (linesL w) (linesL w)[i]).length:=by rw [hrl];omega
  rw [hjn,List.take_length] at hU
  have hsh:u.share=elL (wayR (linesL w) (linesL w)[i]):=share_own hU rfl rfl (by intro e;have:=congrArg List.length e;rw [hrl,List.length_nil] at this;omega)
  have huc:=sl_cells hU.sl
  have hO2:=hO.frame hF (Nat.le_refl _)
  refine go2 (bw5 hl2 hv6 j4 hsh huc) fnil ?_
  refine wops_append rfl rfl (sR (bw hl2 j4)) (sR hl2) hO2.push rfl (by simp only [len_push];omega) (by rfl) (by simp only [List.all_cons,List.all_nil,el_share,el_isCell,Bool.and_true]) (by simp only [maxList];omega) ?_
  intro v' s3 hO3 hF3 hk3
  have y1:=hF3.lo
  have y2:=hF3.up
  have y3:=hF3.len
  simp only [lo_push,len_push] at y1 y2 y3
  refine go2 (bw3 hl2 j5 hwi) fnil ?_
  refine ⟨v',(sG hl2),by omega,?_,by omega,by omega⟩
  have hgi:((linesL w).map (wayR (linesL w)))[i]'(by omega)=wayR (linesL w) (linesL w)[i]:=by simp
  rw [List.take_succ_eq_append_getElem (by omega),List.flatMap_append,List.flatMap_singleton,hgi]
  simpa [el_share] using hO3
 have hlt2:j<(linesL w).length:=by have:=of_decide_eq_true hbj;omega
 have hwj:IntKind.wrap .i64 ((j:Int)+1)=((j+1:Nat):Int):=wrap_nat (n:=j+1) (by omega)
 refine ⟨by omega,?_⟩
 have g1:=(mem_lines.1 (List.getElem_mem hlt)).1
 have g2:=(mem_lines.1 (List.getElem_mem hlt2)).1
 have kc:=fun st=>c32 (elL (linesL w)[i]) (elL (linesL w)[j]) (linesL w)[i] (linesL w)[j] (el_sl _) (el_sl _) (by omega) (by omega) st
 refine go2 (bw5 hl2 hv7 hv6 j3 j5) (bw kc fnil) ?_
 refine wopsD_append (by simp only [lo_push,len_push];omega) rfl rfl (sR (bw hl2 hv6)) (sR hl2) hU.push rfl (by simp only [len_push];omega) (by rfl) (by rfl) (by simp only [maxList];omega) ?_
 intro u' s3 ft hU3 hF3 hk3
 have y1:=hF3.lo
 have y2:=hF3.up
 have y3:=hF3.len
 have hFF:=(hF.push f1).trans hF3
 simp only [lo_push,len_push] at y1 y2 y3
 refine go2 (bw3 hl2 hv7 hwj) fnil ?_
 refine ⟨u',(sG hl2),by omega,?_,hFF,by omega,by omega⟩
 have hkc:j<(wayR (linesL w) (linesL w)[i]).length:=by rw [hrl];omega
 rw [List.take_succ_eq_append_getElem hkc,List.flatMap_append]
 have:(wayR (linesL w) (linesL w)[i])[j]=((lev (linesL w)[i] (linesL w)[j]:Nat):Int):=by simp [wayR]
 rw [this]
 simpa [share_int] using hU3
end Go.Den.Ve
end
section
namespace Go.Den.Ve
def askM (b:BK) (i:Nat) (y x:List Int):Int:=cost1 b i x+((lev x y:Nat):Int)
theorem worst_mul (b:BP) (h:OkB b.bk) {i k:Nat} (hk:k<4):0≤leftK b.bk i k*((leastB b.bk k).length:Int)∧leftK b.bk i k*((leastB b.bk k).length:Int)≤121*121 ^ 4:=by
 have ih:=leftK_bound b h i k
 have hl:=least_len b h k
 have h4:(121:Int)*121 ^ k*121≤121*121 ^ 4:=by
  have:k=0∨k=1∨k=2∨k=3:=by omega
  rcases this with h|h|h|h <;> rw [h] <;> decide
 have hp:(0:Int)≤121*121 ^ k:=Int.mul_nonneg (by omega) (Int.pow_nonneg (by omega))
 exact ⟨Int.mul_nonneg ih.1 (by omega),Int.le_trans (Int.mul_le_mul ih.2 (show ((leastB b.bk k).length:Int)≤121 by omega) (by omega) hp) h4⟩
set_option maxHeartbeats 8000000 in
theorem c107 (b:BP) (hB:OkB b.bk) (w:Nat) (hw:b.words=w) (i:Nat) (hi:i<lines1 b.bk) (T:PV) (hT:SlOf 1 encL T ((linesL w).map (wayR (linesL w)))) (st:St):Cl EE (.func 107 [] []) [b.pv,iv i,T] st (.ret (iv (leftB b.bk i))) st:=by
 have hb:=b.h
 have hw1:=hB.w1
 have hw3:=hB.w3
 have hp0:=hB.pos
 have hN1:=lines1_bk b hp0
 have hl4:=hB.l4
 have hbw:b.bk.words=b.words:=rfl
 have e2:b.bk.words.toNat=w:=by omega
 have hll:=lines_len w (by omega)
 have hrl:∀ x,(wayR (linesL w) x).length=(linesL w).length:=fun x=>by simp [wayR]
 have hml:((linesL w).map (wayR (linesL w))).length=(linesL w).length:=by simp
 have hcl:(costsL b.bk i w).length=(linesL w).length:=by simp [costsL]
 have hl0:0<(linesL w).length:=by have:=lines_ne w;cases h:linesL w with
  | nil=>exact absurd h this
  | cons x l=>simp
 have hc0:0<(costsL b.bk i w).length:=by omega
 have hz0:((0:Nat):Int)=0:=rfl
 have hcg:∀ k (h:k<(costsL b.bk i w).length),(costsL b.bk i w)[k]=cost1 b.bk i ((linesL w)[k]'(by omega)):=fun k h=>by simp [costsL]
 have hline:∀ k (h:k<(linesL w).length),((linesL w)[k]).length≤4:=fun k h=>(mem_lines.1 (List.getElem_mem h)).1
 refine cF3 pr107 fn107 (fun tm hl h0 h1 h2=>?_)
 refine go2 (bw3 hl h0 h1) fnil ?_
 refine cR (bw3 hl h0 h1) (c97 b hB w hw i hi _) ?_
 intro V s1 hR
 have hV:SlOf 1 encI V (costsL b.bk i w):=SlOf.of_sl hR.sl rfl rfl (fun _=>rfl)
 have hVs:=hV.slen
 have d0:hp s1 st.heap.length=some (.var [iv b.words,b.v]):=hR.hp (sG fnil)
 have z1:=hR.lo
 have z2:=hR.len
 simp only [lo_push,len_push] at z1 z2
 refine go2 hl fnil ?_
 refine wp_for [9,8] (fun p vs S=>vs=[iv p,iv (worstK b.bk i p)]∧p≤(linesL w).length∧S=s1) (fun p=>(linesL w).length - p) ⟨(sR hl),Nat.zero_le _,rfl⟩ ?_
 rintro p tm1 S ⟨hv,hpl,rfl⟩ hS
 simp only [List.map_cons,List.map_nil,List.cons.injEq,and_true] at hv
 obtain ⟨hv9,hv8⟩:=hv
 have hl1:tm1.length=104:=lN hS hl;have i1:tg tm1 1=iv i:=tQ hS (bw3 hl h1 h2);have i2:tg tm1 2=T:=tQ hS (bw3 hl h1 h2);have i3:tg tm1 3 = .ptr st.heap.length 0:=tQ hS (bw3 hl h1 h2);have i7:tg tm1 7=V:=tQ hS (bw3 hl h1 h2);clear hS
 refine go2 (bw5 hl1 hv9 i7 hVs hcl) fnil ?_
 refine ⟨decide ((p:Int)<(linesL w).length),(sG hl1),fun hbp=>?_,fun hbp=>?_⟩
 ·have hlt:=of_decide_eq_false hbp
  have hpn:p=(linesL w).length:=by omega
  have hwb:worstK b.bk i p=leftK b.bk i 0:=by rw [hpn];simp [leftK,worstB,e2]
  rw [hwb] at hv8
  refine go2 hl1 fnil ?_
  refine wp_for [14,8] (fun q vs S'=>vs=[iv q,iv (leftK b.bk i q)]∧q≤lines1 b.bk∧hp S' st.heap.length=some (.var [iv b.words,b.v])∧st.heap.length≤S'.lo∧S'.lo≤S'.heap.length) (fun q=>lines1 b.bk - q) ⟨(sR (bw hl1 hv8)),Nat.zero_le _,d0,by omega,by omega⟩ ?_
  clear d0
  rintro q tm2 S2 ⟨hv,hq,d0,hlo,hwf⟩ hS2
  simp only [List.map_cons,List.map_nil,List.cons.injEq,and_true] at hv
  obtain ⟨hv14,hv8⟩:=hv
  have hl2:tm2.length=104:=lN hS2 hl1;have j1:tg tm2 1=iv i:=tQ hS2 (bw3 hl1 i1 i3);have j3:tg tm2 3 = .ptr st.heap.length 0:=tQ hS2 (bw3 hl1 i1 i3);clear hS2
  have ld0:=hp_lt d0
  refine go2 (bw6 hl2 hv14 j3 d0 (n4 ld0) hN1) fnil ?_
  refine ⟨decide ((q:Int)<lines1 b.bk),(sG (bw hl2 hN1)),fun hbq=>?_,fun hbq=>?_⟩
  ·have hlt2:=of_decide_eq_false hbq
   have hqn:q=lines1 b.bk:=by omega
   rw [hqn] at hv8
   refine go2 (bw hl2 hv8) fnil ?_
   exact fQ hl2
  have hlt2:q<lines1 b.bk:=by have:=of_decide_eq_true hbq;omega
  have hwq:IntKind.wrap .i64 ((q:Int)+1)=((q+1:Nat):Int):=wrap_nat (n:=q+1) (by omega)
  have hks:=leftK_succ b.bk i q
  refine ⟨by omega,?_⟩
  by_cases hqi:q=i
  ·have hbe:((q:Int) != (i:Int))=false:=by simp [hqi]
   rw [if_pos hqi] at hks
   refine go2 (bw5 hl2 hv14 j1 hbe hwq) fnil ?_
   exact ⟨(sG (bw3 hl2 hv8 hks)),by omega,d0,hlo,hwf⟩
  ·have hbe:((q:Int) != (i:Int))=true:=by simp;omega
   rw [if_neg hqi] at hks
   refine go2 (bw7 hl2 hv14 j1 j3 hbe d0 (n4 ld0)) fnil ?_
   refine cR (bw3 hl2 hv14 d0) (c45 b hB q hlt2 _) ?_
   rintro v S3 ⟨u,rfl,hR3⟩
   have hus:u.slen=some (leastB b.bk q).length:=sl_slen hR3.1
   have y1:=hR3.lo
   have y2:=hR3.len
   have d3:=hR3.hp d0
   have hm:=worst_mul b hB (i:=i) (k:=q) (by omega)
   have hwm:IntKind.wrap .i64 (leftK b.bk i q*((leastB b.bk q).length:Int))=leftK b.bk i (q+1):=by rw [wrap_in (by unfold inI;omega),hks]
   refine go2 (bw6 hl2 hv14 hv8 hus hwm hwq) fnil ?_
   exact ⟨(sG hl2),by omega,d3,by omega,by omega⟩
 have hlt:p<(linesL w).length:=by have:=of_decide_eq_true hbp;omega
 have hwp:IntKind.wrap .i64 ((p:Int)+1)=((p+1:Nat):Int):=wrap_nat (n:=p+1) (by omega)
 have hpm:p<((linesL w).map (wayR (linesL w))).length:=by omega
 have hgp:((linesL w).map (wayR (linesL w)))[p]=wayR (linesL w) (linesL w)[p]:=by simp
 have hTr:SlOf 1 encI (elL (wayR (linesL w) (linesL w)[p])) (wayR (linesL w) (linesL w)[p]):=el_sl _
 have hr0:0<(wayR (linesL w) (linesL w)[p]).length:=by rw [hrl];omega
 have hwg:∀ k (h:k<(wayR (linesL w) (linesL w)[p]).length),(wayR (linesL w) (linesL w)[p])[k]=((lev (linesL w)[p] ((linesL w)[k]'(by rw [hrl] at h;omega)):Nat):Int):=fun k h=>by simp [wayR]
 have hsum:∀ k (h:k<(linesL w).length),cost1 b.bk i (linesL w)[k]+((lev (linesL w)[p] (linesL w)[k]:Nat):Int)=askM b.bk i (linesL w)[p] (linesL w)[k]:=fun k h=>by rw [askM,lev_symm]
 have hbd:∀ k (h:k<(linesL w).length),0≤askM b.bk i (linesL w)[p] (linesL w)[k]∧askM b.bk i (linesL w)[p] (linesL w)[k]≤24:=fun k h=>by
  have h1:=cost_bound b hB i hi (linesL w)[k] (hline k h)
  have h2:=lev4 (w:=b.words) (lines_line hB hw (List.getElem_mem h)) (lines_line hB hw (List.getElem_mem hlt))
  unfold askM;omega
 have hws:∀ k (h:k<(linesL w).length),IntKind.wrap .i64 (cost1 b.bk i (linesL w)[k]+((lev (linesL w)[p] (linesL w)[k]:Nat):Int))=askM b.bk i (linesL w)[p] (linesL w)[k]:=fun k h=>by rw [hsum k h];have:=hbd k h;exact wrap_in (by unfold inI;omega)
 refine ⟨by omega,?_⟩
 have q1:=hcg 0 hc0
 have q2:=hwg 0 hr0
 have q3:=hws 0 hl0
 refine go2 (bw8 hl1 hv9 i2 i7 hgp q1 q2 q3) fnil ?_
 refine wp_for [12,10] (fun k vs S'=>vs=[iv k,iv (minL (askM b.bk i (linesL w)[p]) ((linesL w).take (max k 1)))]∧k≤(linesL w).length∧S'=S) (fun k=>(linesL w).length - k) ⟨by simp only [↓reduceIte,go_sem,hl1,minT0 hl0];first|done|rfl,Nat.zero_le _,rfl⟩ ?_
 rintro k tm2 S' ⟨hv,hk,rfl⟩ hS2
 simp only [List.map_cons,List.map_nil,List.cons.injEq,and_true] at hv
 obtain ⟨hv12,hv10⟩:=hv
 have hl2:tm2.length=104:=lN hS2 hl1;have j1:tg tm2 1=iv i:=tQ hS2 (bw7 hl1 i1 i2 i3 i7 hv8 hv9);have j2:tg tm2 2=T:=tQ hS2 (bw7 hl1 i1 i2 i3 i7 hv8 hv9);have j3:tg tm2 3 = .ptr st.heap.length 0:=tQ hS2 (bw7 hl1 i1 i2 i3 i7 hv8 hv9);have j7:tg tm2 7=V:=tQ hS2 (bw7 hl1 i1 i2 i3 i7 hv8 hv9);have j8:tg tm2 8=iv (worstK b.bk i p):=tQ hS2 (bw7 hl1 i1 i2 i3 i7 hv8 hv9);have j9:tg tm2 9=iv p:=tQ hS2 (bw7 hl1 i1 i2 i3 i7 hv8 hv9);have j11:tg tm2 11=iv 0:=tQ hS2 (bw7 hl1 i1 i2 i3 i7 hv8 hv9);clear hS2
 refine go2 (bw5 hl2 hv12 j7 hVs hcl) fnil ?_
 refine ⟨decide ((k:Int)<(linesL w).length),(sG hl2),fun hbk=>?_,fun hbk=>?_⟩
 ·have hlt2:=of_decide_eq_false hbk
  have hkn:k=(linesL w).length:=by omega
  rw [hkn,minT1 hl0] at hv10
  refine go2 hl2 fnil ?_
  refine wp_for [13,11] (fun k vs S2=>vs=[iv k,iv (((linesL w).take k).filter fun x=>askM b.bk i (linesL w)[p] x==minL (askM b.bk i (linesL w)[p]) (linesL w)).length]∧k≤(linesL w).length∧S2=S') (fun k=>(linesL w).length - k) ⟨(sR (bw hl2 j11)),Nat.zero_le _,rfl⟩ ?_
  rintro k tm3 S2 ⟨hv,hk,rfl⟩ hS3
  simp only [List.map_cons,List.map_nil,List.cons.injEq,and_true] at hv
  obtain ⟨hv13,hv11⟩:=hv
  have hl3:tm3.length=104:=lN hS3 hl2;have k2:tg tm3 2=T:=tQ hS3 (bw6 hl2 j2 j7 j8 j9 hv10);have k7:tg tm3 7=V:=tQ hS3 (bw6 hl2 j2 j7 j8 j9 hv10);have k8:tg tm3 8=iv (worstK b.bk i p):=tQ hS3 (bw6 hl2 j2 j7 j8 j9 hv10);have k9:tg tm3 9=iv p:=tQ hS3 (bw6 hl2 j2 j7 j8 j9 hv10);have k10:tg tm3 10=iv (minL (askM b.bk i (linesL w)[p]) (linesL w)):=tQ hS3 (bw6 hl2 j2 j7 j8 j9 hv10);clear hS3
  refine go2 (bw5 hl3 hv13 k7 hVs hcl) fnil ?_
  refine ⟨decide ((k:Int)<(linesL w).length),(sG hl3),fun hbk=>?_,fun hbk=>?_⟩
  ·have hlt3:=of_decide_eq_false hbk
   have hkn:k=(linesL w).length:=by omega
   rw [hkn,List.take_length] at hv11
   have hsu:=worstK_succ (b:=b.bk) (i:=i) (k:=p) (by rw [e2];exact hlt)
   simp only [e2] at hsu
   have hle:leastW b.bk i (linesL w)[p]=(linesL w).filter fun x=>askM b.bk i (linesL w)[p] x==minL (askM b.bk i (linesL w)[p]) (linesL w):=by
    unfold leastW leastL;rw [e2];rfl
   rw [hle] at hsu
   refine go2 (bw6 hl3 hv11 k8 k9 @mm2 hwp) fnil ?_
   exact ⟨(sG (bw hl3 hsu)),by omega,rfl⟩
  have hlt3:k<(linesL w).length:=by have:=of_decide_eq_true hbk;omega
  have hwk:IntKind.wrap .i64 ((k:Int)+1)=((k+1:Nat):Int):=wrap_nat (n:=k+1) (by omega)
  have hkc:k<(costsL b.bk i w).length:=by omega
  have hkr:k<(wayR (linesL w) (linesL w)[p]).length:=by rw [hrl];omega
  have q1:=hcg k hkc
  have q2:=hwg k hkr
  have q3:=hws k hlt3
  have hft:=filter_take (P:=fun x=>askM b.bk i (linesL w)[p] x==minL (askM b.bk i (linesL w)[p]) (linesL w)) hlt3
  have hfl:=filter_take_len (P:=fun x=>askM b.bk i (linesL w)[p] x==minL (askM b.bk i (linesL w)[p]) (linesL w)) (X:=linesL w) (i:=k)
  refine ⟨by omega,?_⟩
  cases hx:(askM b.bk i (linesL w)[p] (linesL w)[k]==minL (askM b.bk i (linesL w)[p]) (linesL w))
  ·rw [hx,if_neg (by simp),List.append_nil] at hft
   refine go2 (bw12 hl3 hv13 k2 k7 k9 k10 hgp q1 q2 q3 hx hwk) fnil ?_
   exact ⟨(sG (bw3 hl3 hv11 hft)),by omega,rfl⟩
  ·rw [hx,if_pos rfl] at hft
   have hfl2:(((linesL w).take (k+1)).filter fun x=>askM b.bk i (linesL w)[p] x==minL (askM b.bk i (linesL w)[p]) (linesL w)).length=(((linesL w).take k).filter fun x=>askM b.bk i (linesL w)[p] x==minL (askM b.bk i (linesL w)[p]) (linesL w)).length+1:=by rw [hft,List.length_append];rfl
   have hwn:IntKind.wrap .i64 (((((linesL w).take k).filter fun x=>askM b.bk i (linesL w)[p] x==minL (askM b.bk i (linesL w)[p]) (linesL w)).length:Int)+1)=((((linesL w).take (k+1)).filter fun x=>askM b.bk i (linesL w)[p] x==minL (askM b.bk i (linesL w)[p]) (linesL w)).length:Int):=by rw [hfl2];exact wrap_nat (n:=(((linesL w).take k).filter fun x=>askM b.bk i (linesL w)[p] x==minL (askM b.bk i (linesL w)[p]) (linesL w)).length+1) (by omega)
   refine go2 (bw14 hl3 hv13 hv11 k2 k7 k9 k10 hgp q1 q2 q3 hx hwk hwn) fnil ?_
   exact ⟨(sG hl3),by omega,rfl⟩
 have hlt2:k<(linesL w).length:=by have:=of_decide_eq_true hbk;omega
 have hwk:IntKind.wrap .i64 ((k:Int)+1)=((k+1:Nat):Int):=wrap_nat (n:=k+1) (by omega)
 have hkc:k<(costsL b.bk i w).length:=by omega
 have hkr:k<(wayR (linesL w) (linesL w)[p]).length:=by rw [hrl];omega
 have q1:=hcg k hkc
 have q2:=hwg k hkr
 have q3:=hws k hlt2
 refine ⟨by omega,?_⟩
 refine go2 (bw12 hl2 hv12 hv10 j2 j7 j9 hgp q1 q2 q3 @mm2' hwk) fnil ?_
 exact ⟨by simp only [↓reduceIte,go_sem,hl2,minT hlt2],by omega,rfl⟩
end Go.Den.Ve
end

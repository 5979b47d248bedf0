/- Part of the proofs of laws of the package version. Texts: VuE, VuF, VuG. -/
import Derived.Test.YtehdcjbdhkkipaaGreatDoorVHAk
set_option linter.unusedSimpArgs false
set_option linter.unusedVariables false
section
namespace Go.Den.Ve
set_option maxHeartbeats 1000000 in
theorem c158a (n:Nat) (h:n<10) (st:St):Cl EE (.func 158 [] []) [iv n] st (.ret (.str (toB (itoaL n)))) st:=by
 have d1:decide ((n:Int) > -10)=true:=by simp;omega
 have d2:decide ((n:Int)<0)=false:=by simp
 have d3:decide ((n:Int)<10)=true:=by simp;omega
 have w1:IntKind.wrap .i64 (48+(n:Int))=((48+n:Nat):Int):=by rw [← wrap_nat (n:=48+n) (by omega)];rfl
 have w2:IntKind.wrap .u8 ((48+n:Nat):Int)=((48+n:Nat):Int):=wrap8 (by omega)
 rw [itoa_byte n h]
 refine cF1 pr158 fn158 (fun tm hl h0=>?_)
 refine go2 (bw7 hl h0 d1 d2 d3 w1 w2) fnil ?_
 refine wops_one (v := .str (toB [UInt8.ofNat (48+n)])) rfl (fun rec=>step_b2s (sR hl) (by omega)) ?_
 refine go2 hl fnil ?_
 exact fnq_flat (results_one (by rw [rdRes_tmp];simp only [↓reduceIte,go_sem,hl];first|done|rfl)) (by simp only [lo_push];omega) (by rfl)
set_option maxHeartbeats 1000000 in
theorem c158 (n:Int) (h0:0≤n) (h1:n<100) (st:St):Cl EE (.func 158 [] []) [iv n] st (.ret (.str (toB (itoaL n.toNat)))) st:=by
 obtain ⟨k,rfl⟩:∃ k:Nat,n=k:=⟨n.toNat,by omega⟩
 rw [Int.toNat_natCast]
 by_cases h:k<10
 ·exact c158a k h st
 ·have d1:decide ((k:Int) > -10)=true:=by simp;omega
  have d2:decide ((k:Int)<0)=false:=by simp
  have d3:decide ((k:Int)<10)=false:=by simp;omega
  have hz:((10:Int)=0)=False:=by simp
  have w0:IntKind.wrap .i64 (Int.tdiv (k:Int) 10)=((k / 10:Nat):Int):=by rw [Int.tdiv_eq_ediv_of_nonneg (by omega)];exact wrap_nat (n:=k / 10) (by omega)
  have w3:Int.tmod (k:Int) 10=((k % 10:Nat):Int):=by rw [Int.natCast_emod];exact Int.tmod_eq_emod_of_nonneg (by omega)
  have w1:IntKind.wrap .i64 (48+((k % 10:Nat):Int))=((48+k % 10:Nat):Int):=by rw [← wrap_nat (n:=48+k % 10) (by omega)];rfl
  have w2:IntKind.wrap .u8 ((48+k % 10:Nat):Int)=((48+k % 10:Nat):Int):=wrap8 (by omega)
  have hi:=itoaL_len (k / 10)
  have o1:((itoaL (k / 10)).length+1≤1000000)=True:=by simp only [eq_iff_iff,iff_true];omega
  have h10:k / 10<10:=by omega
  rw [itoa_two (by omega) (by omega)]
  refine cF1 pr158 fn158 (fun tm hl h0=>?_)
  have q10:=fun st=>c158a (k / 10) h10 st
  refine go2 (bw10 hl h0 d1 d2 d3 w0 w1 w2 w3 hz) (bw q10 fnil) ?_
  refine wopsD_pure (v := .str (toB [UInt8.ofNat (48+k % 10)])) (by first|omega|exact Nat.le_refl _) (sR hl) (fun rec st1 he=>step_b2s (sR hl) (by omega)) ?_
  refine go2 (bw hl o1) fnil ?_
  exact fnq_flat (results_one (by rw [rdRes_tmp];simp only [↓reduceIte,go_sem,hl];first|done|rfl)) (by first|exact Nat.le_refl _|(simp only [lo_push];omega)) (by rfl)
set_option maxHeartbeats 1000000 in
theorem c125 (w:List UInt8) (U:PV) (ns:List Int) (hU:SlOf 1 encI U ns) (hns:∀ n∈ns,0≤n∧n<100) (hl3:ns.length≤4) (hwl:w.length≤6) (st:St):Cl EE (.func 125 [] []) [.str (toB w),U] st (.ret (.str (toB (rowL w ns)))) st:=by
 have hUs:=hU.slen
 refine cF2 pr125 fn125 (fun tm hl h0 h1=>?_)
 refine go2 (bw hl h0) fnil ?_
 refine wp_for [5,0] (fun i vs st'=>vs=[iv i,.str (toB (rowL w (ns.take i)))]∧i≤ns.length∧st'={ heap:=st.heap,lo:=st.heap.length }) (fun i=>ns.length - i) ⟨(sR (bw hl h0)),Nat.zero_le _,rfl⟩ ?_
 rintro i tm1 st1 ⟨hv,hi,rfl⟩ hS
 simp only [List.map_cons,List.map_nil,List.cons.injEq,and_true] at hv
 obtain ⟨hv5,hv0⟩:=hv
 have hl1:tm1.length=21:=lN hS hl;have i1:tg tm1 1=U:=tQ hS (bw hl h1);clear hS
 refine go2 (bw4 hl1 hv5 i1 hUs) fnil ?_
 refine ⟨decide ((i:Int)<ns.length),(sG hl1),fun hb=>?_,fun hb1=>?_⟩
 ·have hlt:=of_decide_eq_false hb
  have hin:i=ns.length:=by omega
  rw [hin,List.take_length] at hv0
  refine go2 (bw hl1 hv0) fnil ?_
  exact fnq_flat (results_one (by rw [rdRes_tmp];simp only [↓reduceIte,go_sem,hl1];first|done|rfl)) (by first|exact Nat.le_refl _|(simp only [lo_push];omega)) (by rfl)
 ·have hlt:i<ns.length:=by have:=of_decide_eq_true hb1;omega
  have hw1:IntKind.wrap .i64 ((i:Int)+1)=((i+1:Nat):Int):=wrap_nat (n:=i+1) (by omega)
  have hr:=hns _ (List.getElem_mem hlt)
  have hi2:=itoaL_len ns[i].toNat
  have hrl:=rowL_len w (ns.take i)
  have htl:(ns.take i).length≤4:=by simp;omega
  have o1:((rowL w (ns.take i)).length+1≤1000000)=True:=by simp only [eq_iff_iff,iff_true];omega
  have o2:((rowL w (ns.take i)++[32]).length+(itoaL ns[i].toNat).length≤1000000)=True:=by simp only [eq_iff_iff,iff_true,List.length_append,List.length_cons,List.length_nil];omega
  refine ⟨by omega,?_⟩
  have q10:=fun st=>c158 ns[i] hr.1 hr.2 st
  refine go2 (bw7 hl1 hv5 hv0 i1 o1 o2 hw1) (bw q10 fnil) ?_
  rw [rowL_take w hlt]
  refine ⟨?_,by omega,rfl⟩
  have ea:rowL w (ns.take i)++(32::itoaL ns[i].toNat)=rowL w (ns.take i)++[32]++itoaL ns[i].toNat:=by simp
  rw [ea]
  simp only [↓reduceIte,go_sem,hl1]
set_option maxHeartbeats 8000000 in
theorem c126 (V:PV) (rows:List (List UInt8)) (hV:SlOf 1 encS V rows) (hrows:∀ r∈rows,r.length≤15) (hN:rows.length≤151) (st:St):Cl EE (.func 126 [] []) [V,iv 197] st (.ret (.str (toB (sealL rows 197)))) st:=by
 have hVs:=hV.slen
 refine cF2 pr126 fn126 (fun tm hl h0 h1=>?_)
 have hab:=allSum_bound (rows:=rows) (fun r hr=>by have:=hrows r hr;omega)
 have hol:=joinL_len hrows
 have hN16:rows.length*16≤151*16:=Nat.mul_le_mul_right _ hN
 refine go2 hl fnil ?_
 refine wp_for [7,5,6] (fun i vs st'=>vs=[iv i,.str (toB (joinL (rows.take i))),iv (allSum rows i)]∧i≤rows.length∧st'={ heap:=st.heap,lo:=st.heap.length }) (fun i=>rows.length - i) ⟨(sR hl),Nat.zero_le _,rfl⟩ ?_
 rintro i tm1 st1 ⟨hv,hi,rfl⟩ hS
 simp only [List.map_cons,List.map_nil,List.cons.injEq,and_true] at hv
 obtain ⟨hv7,hv5,hv6⟩:=hv
 have hl1:tm1.length=65:=lN hS hl;have i0:tg tm1 0=V:=tQ hS (bw3 hl h0 h1);have i1:tg tm1 1=iv 197:=tQ hS (bw3 hl h0 h1);clear hS
 refine go2 (bw4 hl1 hv7 i0 hVs) fnil ?_
 refine ⟨decide ((i:Int)<rows.length),(sG hl1),fun hb=>?_,fun hb1=>?_⟩
 ·have hlt:=of_decide_eq_false hb
  have hin:i=rows.length:=by omega
  have habn:=hab rows.length (by omega)
  have holn:=hol rows.length
  rw [List.take_length] at holn
  rw [hin] at hv6
  rw [hin,List.take_length] at hv5
  have er:endRow rows 197=endW++itoaL (allSum rows rows.length % 197 / 100)++itoaL (allSum rows rows.length % 197 / 10 % 10)++itoaL (allSum rows rows.length % 197 % 10):=rfl
  have ht:sealL rows 197=joinL rows++endRow rows 197++[10]:=by rw [sealL,inter_out]
  rw [ht,er]
  generalize hAd:allSum rows rows.length=A at hv6 habn
  have w57:Int.tmod (A:Int) 197=((A % 197:Nat):Int):=by rw [Int.natCast_emod];exact Int.tmod_eq_emod_of_nonneg (by omega)
  have hC:A % 197<197:=Nat.mod_lt _ (by omega)
  generalize hCd:A % 197=C at w57 hC
  have w60:IntKind.wrap .i64 (Int.tdiv (C:Int) 100)=((C / 100:Nat):Int):=by rw [Int.tdiv_eq_ediv_of_nonneg (by omega)];exact wrap_nat (n:=C / 100) (by omega)
  have w64:IntKind.wrap .i64 (Int.tdiv (C:Int) 10)=((C / 10:Nat):Int):=by rw [Int.tdiv_eq_ediv_of_nonneg (by omega)];exact wrap_nat (n:=C / 10) (by omega)
  have w65:Int.tmod ((C / 10:Nat):Int) 10=((C / 10 % 10:Nat):Int):=by rw [Int.natCast_emod];exact Int.tmod_eq_emod_of_nonneg (by omega)
  have w69:Int.tmod (C:Int) 10=((C % 10:Nat):Int):=by rw [Int.natCast_emod];exact Int.tmod_eq_emod_of_nonneg (by omega)
  have hz:((197:Int)=0)=False:=by simp
  have hz2:((100:Int)=0)=False:=by simp
  have hz3:((10:Int)=0)=False:=by simp
  have k1:∀ st,Cl EE (.func 158 [] []) [iv ((C / 100:Nat):Int)] st (.ret (.str (toB (itoaL (C / 100))))) st:=fun st=>by have:=c158 ((C / 100:Nat):Int) (by omega) (by omega) st;rwa [Int.toNat_natCast] at this
  have k2:∀ st,Cl EE (.func 158 [] []) [iv ((C / 10 % 10:Nat):Int)] st (.ret (.str (toB (itoaL (C / 10 % 10))))) st:=fun st=>by have:=c158 ((C / 10 % 10:Nat):Int) (by omega) (by omega) st;rwa [Int.toNat_natCast] at this
  have k3:∀ st,Cl EE (.func 158 [] []) [iv ((C % 10:Nat):Int)] st (.ret (.str (toB (itoaL (C % 10))))) st:=fun st=>by have:=c158 ((C % 10:Nat):Int) (by omega) (by omega) st;rwa [Int.toNat_natCast] at this
  have i1l:=itoaL_len (C / 100)
  have i2l:=itoaL_len (C / 10 % 10)
  have i4l:=itoaL_len (C % 10)
  refine go2 (bw12 hl1 hv5 hv6 i1 w57 w60 w64 w65 w69 hz hz2 hz3) fnil ?_
  refine wops_add (s:=joinL rows) (t:=endW) rfl rfl (sR hl1) (sR hl1) (by simp only [endW,List.length_cons,List.length_nil];omega) ?_
  generalize hXd:joinL rows++endW=X
  have hX:X.length≤151*16+4:=by rw [← hXd];simp only [endW,List.length_append,List.length_cons,List.length_nil];omega
  refine go2 (bw10 hl1 hv6 w57 w60 w64 w65 w69 hz hz2 hz3) (bw4 k1 k2 k3 fnil) ?_
  refine wops_add rfl rfl (sR hl1) (sR hl1) (by first|omega|(simp only [List.length_append,List.length_cons,List.length_nil];omega)) ?_
  refine go2 (bw10 hl1 hv6 w57 w60 w64 w65 w69 hz hz2 hz3) (bw4 k1 k2 k3 fnil) ?_
  refine wops_add rfl rfl (sR hl1) (sR hl1) (by first|omega|(simp only [List.length_append,List.length_cons,List.length_nil];omega)) ?_
  refine go2 (bw10 hl1 hv6 w57 w60 w64 w65 w69 hz hz2 hz3) (bw4 k1 k2 k3 fnil) ?_
  refine wops_add rfl rfl (sR hl1) (sR hl1) (by first|omega|(simp only [List.length_append,List.length_cons,List.length_nil];omega)) ?_
  refine wops_add (t:=[10]) rfl rfl (sR hl1) (sR hl1) (by first|omega|(simp only [List.length_append,List.length_cons,List.length_nil];omega)) ?_
  refine go2 hl1 fnil ?_
  have ef:joinL rows++(endW++itoaL (C / 100)++itoaL (C / 10 % 10)++itoaL (C % 10))++[10]=X++itoaL (C / 100)++itoaL (C / 10 % 10)++itoaL (C % 10)++[10]:=by rw [← hXd];simp
  rw [ef]
  exact fnq_flat (results_one (by rw [rdRes_tmp];simp only [↓reduceIte,go_sem,hl1];first|done|rfl)) (by first|exact Nat.le_refl _|(simp only [lo_push];omega)) (by rfl)
 ·have hlt:i<rows.length:=by have:=of_decide_eq_true hb1;omega
  have hw1:IntKind.wrap .i64 ((i:Int)+1)=((i+1:Nat):Int):=wrap_nat (n:=i+1) (by omega)
  have hri:=hrows _ (List.getElem_mem hlt)
  have hgi:rows.getD i []=rows[i]:=by rw [List.getD_eq_getElem?_getD,List.getElem?_eq_getElem hlt];rfl
  have habi:=hab i (by omega)
  have holi:=hol i
  refine ⟨by omega,?_⟩
  refine go2 hl1 fnil ?_
  refine wp_for [8,6] (fun k vs st'=>vs=[iv k,iv ((allSum rows i+rowSum i rows[i] k:Nat):Int)]∧k≤rows[i].length∧st'={ heap:=st.heap,lo:=st.heap.length }) (fun k=>rows[i].length - k) ⟨(sR (bw hl1 hv6)),Nat.zero_le _,rfl⟩ ?_
  rintro k tm2 st2 ⟨hv,hk,rfl⟩ hS
  simp only [List.map_cons,List.map_nil,List.cons.injEq,and_true] at hv
  obtain ⟨hw8,hw6⟩:=hv
  have hl2:tm2.length=65:=lN hS hl1;have k0:tg tm2 0=V:=tQ hS (bw4 hl1 i0 hv7 hv5);have k7:tg tm2 7=iv i:=tQ hS (bw4 hl1 i0 hv7 hv5);have k5:tg tm2 5 = .str (toB (joinL (rows.take i))):=tQ hS (bw4 hl1 i0 hv7 hv5);clear hS
  refine go2 (bw4 hl2 hw8 k0 k7) fnil ?_
  refine ⟨decide ((k:Int)<rows[i].length),(sG hl2),fun hb=>?_,fun hb2=>?_⟩
  ·have hlt2:=of_decide_eq_false hb
   have hkn:k=rows[i].length:=by omega
   rw [hkn] at hw6
   refine go2 (bw4 hl2 k0 k7 k5) fnil ?_
   refine wops_add (s:=joinL (rows.take i)) (t:=rows[i]) rfl rfl (sR hl2) (sR hl2) (by omega) ?_
   refine wops_add (t:=[10]) rfl rfl (sR hl2) (sR hl2) (by simp only [List.length_append,List.length_cons,List.length_nil];omega) ?_
   refine go2 (bw3 hl2 k7 hw1) fnil ?_
   rw [joinL_take hlt]
   refine ⟨?_,by omega,rfl⟩
   have ea:allSum rows (i+1)=allSum rows i+rowSum i rows[i] rows[i].length:=by simp only [allSum,hgi]
   rw [ea]
   simp only [↓reduceIte,go_sem,hl2,hw6]
  ·have hk2:k<rows[i].length:=by have:=of_decide_eq_true hb2;omega
   have hgk:rows[i].getD k 0=rows[i][k]:=by rw [List.getD_eq_getElem?_getD,List.getElem?_eq_getElem hk2];rfl
   have hix:=getElem?_toB rows[i] k hk2
   have hrb:=rowSum_bound (i:=i) (r:=rows[i]) (by omega) (k+1) (by omega)
   generalize hbd:rows[i][k]=b at hix hgk
   have hb255:b.toNat<256:=b.toNat_lt
   have hk0:((0:Int)≤(k:Int))=True:=by simp
   have w46:IntKind.wrap .i64 (b.toNat:Int)=(b.toNat:Int):=wrap_nat (by omega)
   have w48:IntKind.wrap .i64 ((k:Int)+1)=((k+1:Nat):Int):=wrap_nat (n:=k+1) (by omega)
   have b1:b.toNat*(k+1)≤255*16:=Nat.mul_le_mul (by omega) (by omega)
   have b2:b.toNat*(k+1)*(i+1)≤255*16*151:=Nat.mul_le_mul b1 (by omega)
   have w49:IntKind.wrap .i64 ((b.toNat:Int)*((k+1:Nat):Int))=((b.toNat*(k+1):Nat):Int):=by rw [← Int.natCast_mul];exact wrap_nat (by omega)
   have w52:IntKind.wrap .i64 (((b.toNat*(k+1):Nat):Int)*((i+1:Nat):Int))=((b.toNat*(k+1)*(i+1):Nat):Int):=by rw [← Int.natCast_mul];exact wrap_nat (by omega)
   have e53:allSum rows i+rowSum i rows[i] (k+1)=allSum rows i+rowSum i rows[i] k+b.toNat*(k+1)*(i+1):=by simp only [rowSum,hgk];omega
   have w53:IntKind.wrap .i64 (((allSum rows i+rowSum i rows[i] k:Nat):Int)+((b.toNat*(k+1)*(i+1):Nat):Int))=((allSum rows i+rowSum i rows[i] (k+1):Nat):Int):=by
    rw [← Int.natCast_add,← e53];exact wrap_nat (by omega)
   refine ⟨by omega,?_⟩
   refine go2 (bw15 hl2 hw8 hw6 k0 k7 @op_indexStr hk0 Int.toNat_natCast hix w46 w48 w49 hw1 w52 w53) fnil ?_
   refine ⟨?_,by omega,rfl⟩
   simp only [↓reduceIte,go_sem,hl2]
set_option maxHeartbeats 8000000 in
theorem c76 (b:BP) (h:OkB b.bk) (st:St):Cl EE (.func 76 [] []) [b.pv] st (.ret (.str (toB (textV b.bk)))) st:=by
 have hB:=b.h
 have hP:=OkP.of h
 have hc5:b.cs.length≤5:=by have:=h.c5;simpa using this
 have hrl:=rowsV_many h
 have hrows:=rowsV_len h
 refine cF1 pr76 fn76 (fun tm hl h0=>?_)
 have hh:∀ (o:Own) st,Cl EE (.func 125 [] []) [.str (toB bookW),.slice o 1 [iv b.words]] st (.ret (.str (toB (rowL bookW [b.words])))) st:=fun o st=>c125 bookW _ [b.words] ⟨rfl,fun _ _=>rfl⟩ (by simpa using hP.w) (by simp) (by decide) st
 refine go2 (bw hl h0) (bw hh fnil) ?_
 refine wp_for [4,3] (fun i vs st'=>∃ v,vs=[iv i,v]∧i≤b.cs.length∧OwnS (st.heap.length+1) st' 1 v (rowsK b.bk i).length ((rowsK b.bk i).flatMap encS)∧st.heap.length≤st'.lo∧st'.lo≤st'.heap.length∧hp st' st.heap.length=some (.var [iv b.words,b.v])) (fun i=>b.cs.length - i) ⟨_,(sR hl),Nat.zero_le _,⟨by simp [rowsK,encS],.inr ⟨st.heap.length+2,by simp [rowsK,encS],by omega,(sG fnil)⟩⟩,by simp only [lo_push];omega,by simp only [lo_push,len_push];omega,(sG fnil)⟩ ?_
 rintro i tm1 st1 ⟨v,hv,hi,hO,hlo,hwf,hbx⟩ hS
 simp only [List.map_cons,List.map_nil,List.cons.injEq,and_true] at hv
 obtain ⟨hv4,hv3⟩:=hv
 have mb:=hp_lt hbx
 have hl1:tm1.length=58:=lN hS hl;have i1:tg tm1 1 = .ptr st.heap.length 0:=tQ hS hl;clear hS
 refine go2 (bw4 hl1 hv4 i1 hbx) fnil ?_
 refine ⟨decide ((i:Int)<b.cs.length),(sG hl1),fun hb=>?_,fun hb1=>?_⟩
 ·have hlt:=of_decide_eq_false hb
  have hin:i=b.cs.length:=by omega
  have her:rowsK b.bk b.cs.length=rowsV b.bk:=by rw [rowsK,rowsV,List.take_of_length_le (by simp)]
  rw [hin,her] at hO
  have hV:SlOf 1 encS v (rowsV b.bk):=SlOf.of_sl hO.sl rfl rfl (fun _=>rfl)
  have q126:=fun st=>c126 v (rowsV b.bk) hV (fun r hr=>by have:=hrows r hr;omega) (by omega) st
  have ht:sealL (rowsV b.bk) 197=textV b.bk:=rfl
  rw [ht] at q126
  refine go2 (bw hl1 hv3) (bw q126 fnil) ?_
  exact fnq_flat (results_one (by rw [rdRes_tmp];simp only [↓reduceIte,go_sem,hl1];first|done|rfl)) hlo (by rfl)
 ·have hlt:i<b.cs.length:=by have:=of_decide_eq_true hb1;omega
  have hw1:IntKind.wrap .i64 ((i:Int)+1)=((i+1:Nat):Int):=wrap_nat (n:=i+1) (by omega)
  have hC:=b.cs[i].h
  have hks:=rowsK_succ b hlt
  have hkl:=rowsK_le b.bk (i+1)
  have hcc:(copyRows b.cs[i].c).length=b.cs[i].ls.length+1:=by simp [copyRows]
  have hkl2:(rowsK b.bk i).length+(b.cs[i].ls.length+1)≤26:=by rw [hks,List.length_append] at hkl;omega
  refine ⟨by omega,?_⟩
  refine go2 (bw hl1 hv3) fnil ?_
  refine aP (bw hl1 hv3) (hO.push) ?_
  intro v1 s2 hO2 hF2 hk2
  have y1:=hF2.lo
  have y2:=hF2.up
  have y3:=hF2.len
  simp only [lo_push,len_push] at y1 y2 y3
  have e0:hp s2 st.heap.length=some (.var [iv b.words,b.v]):=hk2 _ _ (by rw [hp_push,if_neg (by omega)];exact hbx) (by simp)
  refine go2 hl1 fnil ?_
  refine wp_for [5,3] (fun q vs s'=>∃ u,vs=[iv q,u]∧q≤b.cs[i].ls.length∧OwnS (st.heap.length+1) s' 1 u (rowsK b.bk i++copyW::(b.cs[i].c.take q).map lnRow).length ((rowsK b.bk i++copyW::(b.cs[i].c.take q).map lnRow).flatMap encS)∧st.heap.length≤s'.lo∧s'.lo≤s'.heap.length∧hp s' st.heap.length=some (.var [iv b.words,b.v])) (fun q=>b.cs[i].ls.length - q) ⟨v1,(sR hl1),Nat.zero_le _,by simpa [share_str,encS,copyW] using hO2,by omega,by omega,e0⟩ ?_
  clear hO hlo hwf hbx mb hO2 e0 y1 y2 y3
  rintro q tm2 s3 ⟨u,hv,hq,hO,hlo,hwf,hbx⟩ hS2
  simp only [List.map_cons,List.map_nil,List.cons.injEq,and_true] at hv
  obtain ⟨hv5,hu⟩:=hv
  have mb:=hp_lt hbx
  have hl2:tm2.length=58:=lN hS2 hl1;have k1:tg tm2 1 = .ptr st.heap.length 0:=tQ hS2 (bw3 hl1 i1 hv4);have k4:tg tm2 4=iv i:=tQ hS2 (bw3 hl1 i1 hv4);clear hS2
  refine go2 (bw5 hl2 hv5 k1 k4 hbx) fnil ?_
  refine ⟨decide ((q:Int)<b.cs[i].ls.length),(sG hl2),fun hb=>?_,fun hb2=>?_⟩
  ·have hlt2:=of_decide_eq_false hb
   have hqn:q=b.cs[i].ls.length:=by omega
   rw [hqn,List.take_of_length_le (by simp)] at hO
   refine go2 (bw3 hl2 k4 hw1) fnil ?_
   refine ⟨u,(sG (bw hl2 hu)),by omega,?_,hlo,hwf,hbx⟩
   rw [hks,copyRows];exact hO
  ·have hlt2:q<b.cs[i].ls.length:=by have:=of_decide_eq_true hb2;omega
   have hw2:IntKind.wrap .i64 ((q:Int)+1)=((q+1:Nat):Int):=wrap_nat (n:=q+1) (by omega)
   have hqc:q<b.cs[i].c.length:=by simpa using hlt2
   have hqs:(b.cs[i].c.take (q+1)).map lnRow=(b.cs[i].c.take q).map lnRow++[lnRow b.cs[i].ls[q].ln]:=by rw [List.take_succ_eq_append_getElem hqc,List.map_append];simp
   have hll:(rowsK b.bk i++copyW::(b.cs[i].c.take q).map lnRow).length≤450:=by simp only [List.length_append,List.length_cons,List.length_map,List.length_take];omega
   refine ⟨by omega,?_⟩
   cases hlost:b.cs[i].ls[q].lost
   ·have hn:=hP.n _ (List.getElem_mem hlt) _ (List.getElem_mem hlt2) hlost
    have h4:b.cs[i].ls[q].l.length≤4:=(CP.len4 h (List.getElem_mem hlt)).2 _ (List.getElem_mem hlt2)
    have kv:=fun st=>c125 lineW b.cs[i].ls[q].w b.cs[i].ls[q].l b.cs[i].ls[q].h hn h4 (by decide) st
    have hrow:lnRow b.cs[i].ls[q].ln=rowL lineW b.cs[i].ls[q].l:=by simp [lnRow,hlost]
    refine go2 (bw7 hl2 k1 k4 hv5 hu hbx hlost) (bw kv fnil) ?_
    refine aP (bw hl2 hu) (hO.push) ?_
    intro u' s4 hO4 hF4 hk4'
    have z1:=hF4.lo
    have z2:=hF4.up
    have z3:=hF4.len
    simp only [lo_push,len_push] at z1 z2 z3
    refine go2 (bw3 hl2 hv5 hw2) fnil ?_
    refine ⟨u',(sG hl2),by omega,?_,by omega,by omega,hk4' _ _ (sG (bw hbx (n4 mb))) (by simp)⟩
    rw [hqs,hrow]
    simpa [share_str,encS,Nat.add_assoc] using hO4
   ·have hrow:lnRow b.cs[i].ls[q].ln=lostW:=by simp [lnRow,hlost]
    refine go2 (bw7 hl2 k1 k4 hv5 hu hbx hlost) fnil ?_
    refine aP (bw hl2 hu) (hO.push) ?_
    intro u' s4 hO4 hF4 hk4'
    have z1:=hF4.lo
    have z2:=hF4.up
    have z3:=hF4.len
    simp only [lo_push,len_push] at z1 z2 z3
    refine go2 (bw3 hl2 hv5 hw2) fnil ?_
    refine ⟨u',(sG hl2),by omega,?_,by omega,by omega,hk4' _ _ (sG (bw hbx (n4 mb))) (by simp)⟩
    rw [hqs,hrow]
    simpa [share_str,encS,Nat.add_assoc,lostW] using hO4
end Go.Den.Ve
end
section
namespace Go.Den.Ve
theorem kn_ok:bookB knownK=true:=by decide +kernel
theorem kn1:lev [0,2] [0,1,1,2]=2:=by decide +kernel
theorem kn2:stepsL [0,2] [0,1,1,2]=[(1,0),(3,1),(3,1),(1,2)]:=by decide +kernel
theorem kn3:betweenL 3 [0,2] [0,1,1,2]=[[0,2],[0,1,2],[0,1,1,2]]:=by decide +kernel
theorem kn4:leastB knownK 1=[[1],[1,1],[1,2]]∧manyB knownK 1=2:=by decide +kernel
theorem kn5:commonB knownK 1=[1]:=by decide +kernel
theorem kn6:wholeT knownK=[[0,1,2],[1]]∧wholeN knownK=3∧wholeC knownK=4:=by decide +kernel
theorem kn7:farLow knownK 0=0∧farHigh knownK 0=1:=by decide +kernel
theorem kn8:askB knownK=some (1,1,4):=by decide +kernel
theorem kn9:bestF (fun x y:List Int×Int=>decide (x.2<y.2)) (treesT knownK [[0,2],[1]])=some ([3,-1,0,-1],4):=by decide +kernel
theorem kn10:mixB knownK 3=some (0,1,1,1):=by decide +kernel
def known2:BK:=⟨2,[[⟨false,[1,0]⟩,⟨true,[]⟩]]⟩
def knownT:List UInt8:=[98,111,111,107,32,50,10,99,111,112,121,10,108,105,110,101,32,49,32,48,10,108,111,115,116,10,101,110,100,32,49,52,51,10]
theorem kn11:textV known2=knownT:=by decide +kernel
theorem kn12:bookB known2=true:=by decide +kernel
theorem kn13:readV knownT=(known2,0):=by rw [← kn11];exact read_textV (bookB_iff.1 kn12)
theorem kn14:lineB 3 [0,2]=true∧lineB 3 [0,1,1,2]=true:=by decide +kernel
theorem kn15:txtB knownK [[0,2],[1]]=true:=by decide +kernel
end Go.Den.Ve
end
section
namespace Go.Den.Ve
theorem k80 (st:St):ClR EE (.func 80 [] []) [] st (fun v st'=>∃ b:BP,v=b.pv∧b.bk=knownK∧Keep st st'):=by
 obtain ⟨v,st',h1,b,e,hb,hs⟩:=c80 st
 exact ⟨v,st',h1,b,e,hb,by rcases hs with rfl|rfl <;> first|exact .refl _|exact HExt.push _ _,by rcases hs with rfl|rfl <;> rfl⟩
section
variable (b:BP) (hb:b.bk=knownK)
include hb
theorem kb_ok:OkB b.bk:=by rw [hb];exact bookB_iff.1 kn_ok
theorem kb_sm:SmB b:=(kb_ok b hb).sm
theorem kb_len:b.cs.length=4:=by
 have:(b.cs.map CP.c).length=4:=by rw [show b.cs.map CP.c=b.bk.copies from rfl,hb];rfl
 simpa using this
theorem kb_w:b.words=3:=congrArg BK.words hb
theorem kb_arg:argB b [0,2] [0,1,1,2]=true:=by
 unfold argB
 rw [kb_w b hb,hb,kn_ok,kn14.1,kn14.2];rfl
theorem k26 (o o':Own) (st:St):Cl EE (.func 26 [] []) [b.pv,.slice o 2 [iv 0,iv 2],.slice o' 4 [iv 0,iv 1,iv 1,iv 2]] st (.ret (.tuple [iv 2,iv 0])) st:=by
 have:=c26 b (kb_sm b hb) (.slice o 2 [iv 0,iv 2]) (.slice o' 4 [iv 0,iv 1,iv 1,iv 2]) [0,2] [0,1,1,2] ⟨rfl,fun _ _=>rfl⟩ ⟨rfl,fun _ _=>rfl⟩ st
 rw [kb_w b hb,hb,kn_ok,kn14.1,kn14.2,kn1] at this
 exact this
theorem k29 (o o':Own) (st:St):ClR EE (.func 29 [] []) [b.pv,.slice o 2 [iv 0,iv 2],.slice o' 4 [iv 0,iv 1,iv 1,iv 2]] st (fun v st'=>∃ P,v = .tuple [P,iv 0]∧SlOf 2 enc2 P [(1,0),(3,1),(3,1),(1,2)]∧Keep st st'):=by
 obtain ⟨v,st',h1,P,e,hW⟩:=c29_yes b (kb_sm b hb) (.slice o 2 [iv 0,iv 2]) (.slice o' 4 [iv 0,iv 1,iv 1,iv 2]) [0,2] [0,1,1,2] ⟨rfl,fun _ _=>rfl⟩ ⟨rfl,fun _ _=>rfl⟩ st (kb_arg b hb)
 rw [kn2] at hW
 exact ⟨v,st',h1,P,e,hW.own_sl (fun _=>rfl),keepW hW⟩
theorem k37 (o o':Own) (st:St):ClR EE (.func 37 [] []) [b.pv,.slice o 2 [iv 0,iv 2],.slice o' 4 [iv 0,iv 1,iv 1,iv 2]] st (fun v st'=>∃ P,v = .tuple [P,iv 0]∧SlOf 1 encL P [[0,2],[0,1,2],[0,1,1,2]]∧Keep st st'):=by
 obtain ⟨v,st',h1,P,e,hW⟩:=c37_yes b (kb_sm b hb) (.slice o 2 [iv 0,iv 2]) (.slice o' 4 [iv 0,iv 1,iv 1,iv 2]) [0,2] [0,1,1,2] ⟨rfl,fun _ _=>rfl⟩ ⟨rfl,fun _ _=>rfl⟩ st (kb_arg b hb)
 rw [kb_w b hb,show (3:Int).toNat=3 from rfl,kn3] at hW
 exact ⟨v,st',h1,P,e,hW.own_sl (fun _=>rfl),keepW hW⟩
theorem k42 (st:St):ClR EE (.func 42 [] []) [b.pv,iv 1] st (fun v st'=>∃ P,v = .tuple [P,iv 2,iv 0]∧SlOf 1 encL P [[1],[1,1],[1,2]]∧Keep st st'):=by
 obtain ⟨v,st',h1,P,e,hW⟩:=c42_yes b (kb_sm b hb) 1 (kb_ok b hb) (by rw [hb];decide) st
 rw [hb,kn4.2] at e
 rw [hb,kn4.1] at hW
 exact ⟨v,st',h1,P,e,hW.own_sl (fun _=>rfl),keepW hW⟩
theorem k43 (st:St):ClR EE (.func 43 [] []) [b.pv,iv 1] st (fun v st'=>∃ P,v = .tuple [P,iv 0]∧SlOf 1 encI P [1]∧Keep st st'):=by
 obtain ⟨v,st',h1,P,e,hW⟩:=c43_yes b (kb_sm b hb) 1 (kb_ok b hb) (by rw [hb];decide) st
 rw [hb,kn5] at hW
 exact ⟨v,st',h1,P,e,hW.own_sl (fun _=>rfl),keepW hW⟩
theorem k50 (st:St):ClR EE (.func 50 [] []) [b.pv] st (fun v st'=>∃ P,v = .tuple [P,iv 3,iv 4,iv 0]∧SlOf 1 encL P [[0,1,2],[1]]∧Keep st st'):=by
 obtain ⟨v,st',h1,P,e,hW⟩:=c50_yes b (kb_sm b hb) (kb_ok b hb) st
 rw [hb,kn6.2.1,kn6.2.2] at e
 rw [hb,kn6.1] at hW
 exact ⟨v,st',h1,P,e,hW.own_sl (fun _=>rfl),keepW hW⟩
theorem k51 (st:St):Cl EE (.func 51 [] []) [b.pv,iv 0] st (.ret (.tuple [.agg [iv 0,iv 1],iv 0])) st:=by
 have:=c51_yes b (kb_sm b hb) (kb_ok b hb) 0 (by rw [kb_len b hb];omega) st
 rw [hb,kn7.1,kn7.2] at this
 exact this
theorem k55 (st:St):Cl EE (.func 55 [] []) [b.pv] st (.ret (.tuple [iv 1,iv 1,iv 4,iv 0])) st:=by
 have:=c55_yes b (kb_sm b hb) (kb_ok b hb) st
 rw [hb,kn8] at this
 exact this
theorem k70 (o:Own) (st:St):ClR EE (.func 70 [] []) [b.pv,.slice o 2 [.slice .shared 2 [iv 0,iv 2],.slice .shared 1 [iv 1]]] st (fun v st'=>∃ P,v = .tuple [P,iv 4,iv 0]∧SlOf 1 encI P [3,-1,0,-1]∧Keep st st'):=by
 have hT:SlOf 1 encSI (.slice o 2 [.slice .shared 2 [iv 0,iv 2],.slice .shared 1 [iv 1]]) [SI.of [0,2],SI.of [1]]:=⟨rfl,fun _ _=>rfl⟩
 obtain ⟨v,st',h1,x,hx,e,rfl⟩:=c70_yes b (kb_sm b hb) _ [SI.of [0,2],SI.of [1]] hT (by simp) st (by
  have e1:[SI.of [0,2],SI.of [1]].map SI.l=[[0,2],[1]]:=rfl
  unfold tvArg
  rw [e1,hb,kn_ok,kn15];rfl)
 have e1:[SI.of [0,2],SI.of [1]].map SI.l=[[0,2],[1]]:=rfl
 rw [e1,hb,kn9] at hx
 cases hx
 exact ⟨v,_,h1,_,e,el_sl _,.refl _,rfl⟩
theorem k59 (st:St):Cl EE (.func 59 [] []) [b.pv,iv 3] st (.ret (.tuple [.agg [iv 0,iv 1,iv 1,iv 1],iv 0])) st:=by
 have:=c59_yes b (kb_sm b hb) (kb_ok b hb) 3 (by rw [kb_len b hb];omega) st
 rw [hb,kn10] at this
 exact this
end
theorem k75 (st:St):ClR EE (.func 75 [] []) [.str (toB [98,111,111,107,32,50,10,99,111,112,121,10,108,105,110,101,32,49,32,48,10,108,111,115,116,10,101,110,100,32,49,52,51,10])] st (fun v st'=>∃ b:BP,v = .tuple [b.pv,iv 0]∧b.bk=known2∧Keep st st'):=by
 obtain ⟨v,st',h1,b,e,hb,_,hx,hlo⟩:=c75 knownT st
 rw [kn13] at e hb
 exact ⟨v,st',h1,b,e,hb,hx,hlo⟩
theorem k76 (b:BP) (hb:b.bk=known2) (st:St):Cl EE (.func 76 [] []) [b.pv] st (.ret (.str (toB [98,111,111,107,32,50,10,99,111,112,121,10,108,105,110,101,32,49,32,48,10,108,111,115,116,10,101,110,100,32,49,52,51,10]))) st:=by
 have:=c76 b (by rw [hb];exact bookB_iff.1 kn12) st
 rw [hb,kn11] at this
 exact this
theorem s27 (P:PV) (l:List Int) (hP:SlOf 1 encI P l) (hN:l.length<1000000) (o:Own) (n:Nat) (hn:n=l.length) (st:St):Cl EE (.func 27 [] []) [P,.slice o n (l.flatMap encI)] st (.ret (.bool true)) st:=by
 subst hn
 have:=c27 P (.slice o l.length (l.flatMap encI)) l l hP ⟨rfl,fun _ _=>rfl⟩ hN st
 rwa [beq_self_eq_true] at this
theorem s33 (P:PV) (l:List (Int×Int)) (hP:SlOf 2 enc2 P l) (hN:l.length<1000000) (o:Own) (n:Nat) (hn:n=l.length) (st:St):Cl EE (.func 33 [] []) [P,.slice o n (l.flatMap enc2)] st (.ret (.bool true)) st:=by
 subst hn
 have:=c33 P (.slice o l.length (l.flatMap enc2)) l l hP ⟨rfl,fun _ _=>rfl⟩ hN st
 rwa [beq_self_eq_true] at this
theorem s38 (P:PV) (l:List (List Int)) (hP:SlOf 1 encL P l) (hN:l.length<1000000) (hNl:∀ x∈l,x.length<1000000) (o:Own) (n:Nat) (hn:n=l.length) (st:St):Cl EE (.func 38 [] []) [P,.slice o n (l.flatMap encL)] st (.ret (.bool true)) st:=by
 subst hn
 have e:(l.map SI.of).map SI.l=l:=by
  rw [List.map_map]
  conv=>rhs;rw [← List.map_id l]
  rfl
 have:=c38 P (.slice o l.length (l.flatMap encL)) (l.map SI.of) (l.map SI.of) (slSI hP) (slSI ⟨rfl,fun _ _=>rfl⟩) (by simpa using hN) (fun x hx=>by obtain ⟨y,hy,rfl⟩:=List.mem_map.1 hx;exact hNl y hy) st
 rwa [e,beq_self_eq_true] at this
set_option maxHeartbeats 16000000 in
theorem c25 (st:St):Cl EE (.func 25 [] []) [] st (.ret (.bool true)) st:=by
 refine cF0 pr25 fn25 (fun tm hl=>?_)
 refine go2 hl fnil ?_
 refine cR hl (k80 _) ?_
 rintro v S1 ⟨b,rfl,hb,hK⟩
 have hB:=b.h
 have q1:=hK.2
 have q2:=hK.len
 try simp only at q1 q2
 have c1:=fun (o o':Own) st=>k26 b hb o o' st
 refine go2 hl (bw c1 fnil) ?_
 refine wops_gen (fun tm S=>tm.length=228∧st.heap.length≤S.lo∧S.lo≤S.heap.length∧tg tm 1=iv 2∧tg tm 2=iv 0) ⟨(sG hl),by simp only [lo_push];omega,by simp only [lo_push,len_push];omega,(sG hl),(sG hl)⟩ ?_
 rintro tm S ⟨hl,hlo,hwf,t1,t2⟩
 refine cR hl (k80 _) ?_
 rintro v S1 ⟨b,rfl,hb,hK⟩
 have hB:=b.h
 have q1:=hK.2
 have q2:=hK.len
 try simp only at q1 q2
 refine go2 hl fnil ?_
 refine wops_callR rfl rfl (sR hl) (by simp only [↓reduceIte,go_sem,hl];exact k29 b hb _ _ _) ?_
 rintro v2 S2 ⟨P,rfl,hP,hK2⟩
 have q3:=hK2.2
 have q4:=hK2.len
 try simp only [lo_push,len_push] at q3 q4
 refine go2 hl fnil ?_
 refine wops_gen (fun tm S=>tm.length=228∧st.heap.length≤S.lo∧S.lo≤S.heap.length∧tg tm 1=iv 2∧tg tm 2=iv 0∧(∃ P,tg tm 3=P∧SlOf 2 enc2 P [(1,0),(3,1),(3,1),(1,2)])∧tg tm 4=iv 0) ⟨(sG hl),by omega,by omega,(sG (bw hl t1)),(sG (bw hl t2)),⟨_,(sR hl),hP⟩,(sG hl)⟩ ?_
 rintro tm S ⟨hl,hlo,hwf,t1,t2,⟨P3,t3,p3⟩,t4⟩
 refine cR hl (k80 _) ?_
 rintro v S1 ⟨b,rfl,hb,hK⟩
 have hB:=b.h
 have q1:=hK.2
 have q2:=hK.len
 try simp only at q1 q2
 refine go2 hl fnil ?_
 refine wops_callR rfl rfl (sR hl) (by simp only [↓reduceIte,go_sem,hl];exact k37 b hb _ _ _) ?_
 rintro v2 S2 ⟨P,rfl,hP,hK2⟩
 have q3:=hK2.2
 have q4:=hK2.len
 try simp only [lo_push,len_push] at q3 q4
 refine go2 hl fnil ?_
 refine wops_gen (fun tm S=>tm.length=228∧st.heap.length≤S.lo∧S.lo≤S.heap.length∧tg tm 1=iv 2∧tg tm 2=iv 0∧(∃ P,tg tm 3=P∧SlOf 2 enc2 P [(1,0),(3,1),(3,1),(1,2)])∧tg tm 4=iv 0∧(∃ P,tg tm 5=P∧SlOf 1 encL P [[0,2],[0,1,2],[0,1,1,2]])∧tg tm 6=iv 0) ⟨(sG hl),by omega,by omega,(sG (bw hl t1)),(sG (bw hl t2)),⟨P3,(sG (bw hl t3)),p3⟩,(sG (bw hl t4)),⟨_,(sR hl),hP⟩,(sG hl)⟩ ?_
 rintro tm S ⟨hl,hlo,hwf,t1,t2,⟨P3,t3,p3⟩,t4,⟨P5,t5,p5⟩,t6⟩
 refine cR hl (k80 _) ?_
 rintro v S1 ⟨b,rfl,hb,hK⟩
 have hB:=b.h
 have q1:=hK.2
 have q2:=hK.len
 try simp only at q1 q2
 refine wops_callR rfl rfl (sR hl) (by simp only [↓reduceIte,go_sem,hl];exact k42 b hb _) ?_
 rintro v2 S2 ⟨P,rfl,hP,hK2⟩
 have q3:=hK2.2
 have q4:=hK2.len
 try simp only [lo_push,len_push] at q3 q4
 refine go2 hl fnil ?_
 refine wops_gen (fun tm S=>tm.length=228∧st.heap.length≤S.lo∧S.lo≤S.heap.length∧tg tm 1=iv 2∧tg tm 2=iv 0∧(∃ P,tg tm 3=P∧SlOf 2 enc2 P [(1,0),(3,1),(3,1),(1,2)])∧tg tm 4=iv 0∧(∃ P,tg tm 5=P∧SlOf 1 encL P [[0,2],[0,1,2],[0,1,1,2]])∧tg tm 6=iv 0∧(∃ P,tg tm 7=P∧SlOf 1 encL P [[1],[1,1],[1,2]])∧tg tm 8=iv 2∧tg tm 9=iv 0) ⟨(sG hl),by omega,by omega,(sG (bw hl t1)),(sG (bw hl t2)),⟨P3,(sG (bw hl t3)),p3⟩,(sG (bw hl t4)),⟨P5,(sG (bw hl t5)),p5⟩,(sG (bw hl t6)),⟨_,(sR hl),hP⟩,(sG hl),(sG hl)⟩ ?_
 rintro tm S ⟨hl,hlo,hwf,t1,t2,⟨P3,t3,p3⟩,t4,⟨P5,t5,p5⟩,t6,⟨P7,t7,p7⟩,t8,t9⟩
 refine cR hl (k80 _) ?_
 rintro v S1 ⟨b,rfl,hb,hK⟩
 have hB:=b.h
 have q1:=hK.2
 have q2:=hK.len
 try simp only at q1 q2
 refine wops_callR rfl rfl (sR hl) (by simp only [↓reduceIte,go_sem,hl];exact k43 b hb _) ?_
 rintro v2 S2 ⟨P,rfl,hP,hK2⟩
 have q3:=hK2.2
 have q4:=hK2.len
 try simp only [lo_push,len_push] at q3 q4
 refine go2 hl fnil ?_
 refine wops_gen (fun tm S=>tm.length=228∧st.heap.length≤S.lo∧S.lo≤S.heap.length∧tg tm 1=iv 2∧tg tm 2=iv 0∧(∃ P,tg tm 3=P∧SlOf 2 enc2 P [(1,0),(3,1),(3,1),(1,2)])∧tg tm 4=iv 0∧(∃ P,tg tm 5=P∧SlOf 1 encL P [[0,2],[0,1,2],[0,1,1,2]])∧tg tm 6=iv 0∧(∃ P,tg tm 7=P∧SlOf 1 encL P [[1],[1,1],[1,2]])∧tg tm 8=iv 2∧tg tm 9=iv 0∧(∃ P,tg tm 10=P∧SlOf 1 encI P [1])∧tg tm 11=iv 0) ⟨(sG hl),by omega,by omega,(sG (bw hl t1)),(sG (bw hl t2)),⟨P3,(sG (bw hl t3)),p3⟩,(sG (bw hl t4)),⟨P5,(sG (bw hl t5)),p5⟩,(sG (bw hl t6)),⟨P7,(sG (bw hl t7)),p7⟩,(sG (bw hl t8)),(sG (bw hl t9)),⟨_,(sR hl),hP⟩,(sG hl)⟩ ?_
 rintro tm S ⟨hl,hlo,hwf,t1,t2,⟨P3,t3,p3⟩,t4,⟨P5,t5,p5⟩,t6,⟨P7,t7,p7⟩,t8,t9,⟨P10,t10,p10⟩,t11⟩
 refine cR hl (k80 _) ?_
 rintro v S1 ⟨b,rfl,hb,hK⟩
 have hB:=b.h
 have q1:=hK.2
 have q2:=hK.len
 try simp only at q1 q2
 refine wops_callR rfl rfl (sR hl) (by simp only [↓reduceIte,go_sem,hl];exact k50 b hb _) ?_
 rintro v2 S2 ⟨P,rfl,hP,hK2⟩
 have q3:=hK2.2
 have q4:=hK2.len
 try simp only [lo_push,len_push] at q3 q4
 refine go2 hl fnil ?_
 refine wops_gen (fun tm S=>tm.length=228∧st.heap.length≤S.lo∧S.lo≤S.heap.length∧tg tm 1=iv 2∧tg tm 2=iv 0∧(∃ P,tg tm 3=P∧SlOf 2 enc2 P [(1,0),(3,1),(3,1),(1,2)])∧tg tm 4=iv 0∧(∃ P,tg tm 5=P∧SlOf 1 encL P [[0,2],[0,1,2],[0,1,1,2]])∧tg tm 6=iv 0∧(∃ P,tg tm 7=P∧SlOf 1 encL P [[1],[1,1],[1,2]])∧tg tm 8=iv 2∧tg tm 9=iv 0∧(∃ P,tg tm 10=P∧SlOf 1 encI P [1])∧tg tm 11=iv 0∧(∃ P,tg tm 12=P∧SlOf 1 encL P [[0,1,2],[1]])∧tg tm 13=iv 3∧tg tm 14=iv 4∧tg tm 15=iv 0) ⟨(sG hl),by omega,by omega,(sG (bw hl t1)),(sG (bw hl t2)),⟨P3,(sG (bw hl t3)),p3⟩,(sG (bw hl t4)),⟨P5,(sG (bw hl t5)),p5⟩,(sG (bw hl t6)),⟨P7,(sG (bw hl t7)),p7⟩,(sG (bw hl t8)),(sG (bw hl t9)),⟨P10,(sG (bw hl t10)),p10⟩,(sG (bw hl t11)),⟨_,(sR hl),hP⟩,(sG hl),(sG hl),(sG hl)⟩ ?_
 rintro tm S ⟨hl,hlo,hwf,t1,t2,⟨P3,t3,p3⟩,t4,⟨P5,t5,p5⟩,t6,⟨P7,t7,p7⟩,t8,t9,⟨P10,t10,p10⟩,t11,⟨P12,t12,p12⟩,t13,t14,t15⟩
 refine cR hl (k80 _) ?_
 rintro v S1 ⟨b,rfl,hb,hK⟩
 have hB:=b.h
 have q1:=hK.2
 have q2:=hK.len
 try simp only at q1 q2
 have c1:=fun st=>k51 b hb st
 refine go2 hl (bw c1 fnil) ?_
 refine wops_gen (fun tm S=>tm.length=228∧st.heap.length≤S.lo∧S.lo≤S.heap.length∧tg tm 1=iv 2∧tg tm 2=iv 0∧(∃ P,tg tm 3=P∧SlOf 2 enc2 P [(1,0),(3,1),(3,1),(1,2)])∧tg tm 4=iv 0∧(∃ P,tg tm 5=P∧SlOf 1 encL P [[0,2],[0,1,2],[0,1,1,2]])∧tg tm 6=iv 0∧(∃ P,tg tm 7=P∧SlOf 1 encL P [[1],[1,1],[1,2]])∧tg tm 8=iv 2∧tg tm 9=iv 0∧(∃ P,tg tm 10=P∧SlOf 1 encI P [1])∧tg tm 11=iv 0∧(∃ P,tg tm 12=P∧SlOf 1 encL P [[0,1,2],[1]])∧tg tm 13=iv 3∧tg tm 14=iv 4∧tg tm 15=iv 0∧(∃ a,tg tm 16 = .ptr a 0∧st.heap.length≤a∧hp S a=some (.var [iv 0,iv 1]))∧tg tm 17=iv 0) ⟨(sG hl),by simp only [lo_setVar,lo_push];omega,by simp only [lo_setVar,lo_push,len_setVar,len_push];omega,(sG (bw hl t1)),(sG (bw hl t2)),⟨P3,(sG (bw hl t3)),p3⟩,(sG (bw hl t4)),⟨P5,(sG (bw hl t5)),p5⟩,(sG (bw hl t6)),⟨P7,(sG (bw hl t7)),p7⟩,(sG (bw hl t8)),(sG (bw hl t9)),⟨P10,(sG (bw hl t10)),p10⟩,(sG (bw hl t11)),⟨P12,(sG (bw hl t12)),p12⟩,(sG (bw hl t13)),(sG (bw hl t14)),(sG (bw hl t15)),⟨_,(sR hl),by omega,(sG fnil)⟩,(sG hl)⟩ ?_
 rintro tm S ⟨hl,hlo,hwf,t1,t2,⟨P3,t3,p3⟩,t4,⟨P5,t5,p5⟩,t6,⟨P7,t7,p7⟩,t8,t9,⟨P10,t10,p10⟩,t11,⟨P12,t12,p12⟩,t13,t14,t15,⟨a16,t16,g16,b16⟩,t17⟩
 refine cR hl (k80 _) ?_
 rintro v S1 ⟨b,rfl,hb,hK⟩
 have hB:=b.h
 have q1:=hK.2
 have q2:=hK.len
 try simp only at q1 q2
 have c1:=fun st=>k55 b hb st
 refine go2 hl (bw c1 fnil) ?_
 refine wops_gen (fun tm S=>tm.length=228∧st.heap.length≤S.lo∧S.lo≤S.heap.length∧tg tm 1=iv 2∧tg tm 2=iv 0∧(∃ P,tg tm 3=P∧SlOf 2 enc2 P [(1,0),(3,1),(3,1),(1,2)])∧tg tm 4=iv 0∧(∃ P,tg tm 5=P∧SlOf 1 encL P [[0,2],[0,1,2],[0,1,1,2]])∧tg tm 6=iv 0∧(∃ P,tg tm 7=P∧SlOf 1 encL P [[1],[1,1],[1,2]])∧tg tm 8=iv 2∧tg tm 9=iv 0∧(∃ P,tg tm 10=P∧SlOf 1 encI P [1])∧tg tm 11=iv 0∧(∃ P,tg tm 12=P∧SlOf 1 encL P [[0,1,2],[1]])∧tg tm 13=iv 3∧tg tm 14=iv 4∧tg tm 15=iv 0∧(∃ a,tg tm 16 = .ptr a 0∧st.heap.length≤a∧hp S a=some (.var [iv 0,iv 1]))∧tg tm 17=iv 0∧tg tm 18=iv 1∧tg tm 19=iv 1∧tg tm 20=iv 4∧tg tm 21=iv 0) ⟨(sG hl),by omega,by omega,(sG (bw hl t1)),(sG (bw hl t2)),⟨P3,(sG (bw hl t3)),p3⟩,(sG (bw hl t4)),⟨P5,(sG (bw hl t5)),p5⟩,(sG (bw hl t6)),⟨P7,(sG (bw hl t7)),p7⟩,(sG (bw hl t8)),(sG (bw hl t9)),⟨P10,(sG (bw hl t10)),p10⟩,(sG (bw hl t11)),⟨P12,(sG (bw hl t12)),p12⟩,(sG (bw hl t13)),(sG (bw hl t14)),(sG (bw hl t15)),⟨a16,(sG (bw hl t16)),g16,(hK.1).hp b16⟩,(sG (bw hl t17)),(sG hl),(sG hl),(sG hl),(sG hl)⟩ ?_
 rintro tm S ⟨hl,hlo,hwf,t1,t2,⟨P3,t3,p3⟩,t4,⟨P5,t5,p5⟩,t6,⟨P7,t7,p7⟩,t8,t9,⟨P10,t10,p10⟩,t11,⟨P12,t12,p12⟩,t13,t14,t15,⟨a16,t16,g16,b16⟩,t17,t18,t19,t20,t21⟩
 refine cR hl (k80 _) ?_
 rintro v S1 ⟨b,rfl,hb,hK⟩
 have hB:=b.h
 have q1:=hK.2
 have q2:=hK.len
 try simp only at q1 q2
 refine go2 hl fnil ?_
 refine wops_callR rfl rfl (sR hl) (by simp only [↓reduceIte,go_sem,hl];exact k70 b hb _ _) ?_
 rintro v2 S2 ⟨P,rfl,hP,hK2⟩
 have q3:=hK2.2
 have q4:=hK2.len
 try simp only [lo_push,len_push] at q3 q4
 refine go2 hl fnil ?_
 refine wops_gen (fun tm S=>tm.length=228∧st.heap.length≤S.lo∧S.lo≤S.heap.length∧tg tm 1=iv 2∧tg tm 2=iv 0∧(∃ P,tg tm 3=P∧SlOf 2 enc2 P [(1,0),(3,1),(3,1),(1,2)])∧tg tm 4=iv 0∧(∃ P,tg tm 5=P∧SlOf 1 encL P [[0,2],[0,1,2],[0,1,1,2]])∧tg tm 6=iv 0∧(∃ P,tg tm 7=P∧SlOf 1 encL P [[1],[1,1],[1,2]])∧tg tm 8=iv 2∧tg tm 9=iv 0∧(∃ P,tg tm 10=P∧SlOf 1 encI P [1])∧tg tm 11=iv 0∧(∃ P,tg tm 12=P∧SlOf 1 encL P [[0,1,2],[1]])∧tg tm 13=iv 3∧tg tm 14=iv 4∧tg tm 15=iv 0∧(∃ a,tg tm 16 = .ptr a 0∧st.heap.length≤a∧hp S a=some (.var [iv 0,iv 1]))∧tg tm 17=iv 0∧tg tm 18=iv 1∧tg tm 19=iv 1∧tg tm 20=iv 4∧tg tm 21=iv 0∧(∃ P,tg tm 22=P∧SlOf 1 encI P [3,-1,0,-1])∧tg tm 23=iv 4∧tg tm 24=iv 0) ⟨(sG hl),by omega,by omega,(sG (bw hl t1)),(sG (bw hl t2)),⟨P3,(sG (bw hl t3)),p3⟩,(sG (bw hl t4)),⟨P5,(sG (bw hl t5)),p5⟩,(sG (bw hl t6)),⟨P7,(sG (bw hl t7)),p7⟩,(sG (bw hl t8)),(sG (bw hl t9)),⟨P10,(sG (bw hl t10)),p10⟩,(sG (bw hl t11)),⟨P12,(sG (bw hl t12)),p12⟩,(sG (bw hl t13)),(sG (bw hl t14)),(sG (bw hl t15)),⟨a16,(sG (bw hl t16)),g16,(hK.1.trans ((HExt.push _ _).trans ((HExt.push _ _).trans ((HExt.push _ _).trans hK2.1)))).hp b16⟩,(sG (bw hl t17)),(sG (bw hl t18)),(sG (bw hl t19)),(sG (bw hl t20)),(sG (bw hl t21)),⟨_,(sR hl),hP⟩,(sG hl),(sG hl)⟩ ?_
 rintro tm S ⟨hl,hlo,hwf,t1,t2,⟨P3,t3,p3⟩,t4,⟨P5,t5,p5⟩,t6,⟨P7,t7,p7⟩,t8,t9,⟨P10,t10,p10⟩,t11,⟨P12,t12,p12⟩,t13,t14,t15,⟨a16,t16,g16,b16⟩,t17,t18,t19,t20,t21,⟨P22,t22,p22⟩,t23,t24⟩
 refine cR hl (k80 _) ?_
 rintro v S1 ⟨b,rfl,hb,hK⟩
 have hB:=b.h
 have q1:=hK.2
 have q2:=hK.len
 try simp only at q1 q2
 have c1:=fun st=>k59 b hb st
 have m16:=hp_lt b16
 refine go2 hl (bw c1 fnil) ?_
 refine wops_gen (fun tm S=>tm.length=228∧st.heap.length≤S.lo∧S.lo≤S.heap.length∧tg tm 1=iv 2∧tg tm 2=iv 0∧(∃ P,tg tm 3=P∧SlOf 2 enc2 P [(1,0),(3,1),(3,1),(1,2)])∧tg tm 4=iv 0∧(∃ P,tg tm 5=P∧SlOf 1 encL P [[0,2],[0,1,2],[0,1,1,2]])∧tg tm 6=iv 0∧(∃ P,tg tm 7=P∧SlOf 1 encL P [[1],[1,1],[1,2]])∧tg tm 8=iv 2∧tg tm 9=iv 0∧(∃ P,tg tm 10=P∧SlOf 1 encI P [1])∧tg tm 11=iv 0∧(∃ P,tg tm 12=P∧SlOf 1 encL P [[0,1,2],[1]])∧tg tm 13=iv 3∧tg tm 14=iv 4∧tg tm 15=iv 0∧(∃ a,tg tm 16 = .ptr a 0∧st.heap.length≤a∧hp S a=some (.var [iv 0,iv 1]))∧tg tm 17=iv 0∧tg tm 18=iv 1∧tg tm 19=iv 1∧tg tm 20=iv 4∧tg tm 21=iv 0∧(∃ P,tg tm 22=P∧SlOf 1 encI P [3,-1,0,-1])∧tg tm 23=iv 4∧tg tm 24=iv 0∧(∃ a,tg tm 25 = .ptr a 0∧st.heap.length≤a∧hp S a=some (.var [iv 0,iv 1,iv 1,iv 1]))∧tg tm 26=iv 0) ⟨(sG hl),by simp only [lo_setVar,lo_push];omega,by simp only [lo_setVar,lo_push,len_setVar,len_push];omega,(sG (bw hl t1)),(sG (bw hl t2)),⟨P3,(sG (bw hl t3)),p3⟩,(sG (bw hl t4)),⟨P5,(sG (bw hl t5)),p5⟩,(sG (bw hl t6)),⟨P7,(sG (bw hl t7)),p7⟩,(sG (bw hl t8)),(sG (bw hl t9)),⟨P10,(sG (bw hl t10)),p10⟩,(sG (bw hl t11)),⟨P12,(sG (bw hl t12)),p12⟩,(sG (bw hl t13)),(sG (bw hl t14)),(sG (bw hl t15)),⟨a16,(sG (bw hl t16)),g16,(by rw [hp_setVar,if_neg (by omega),hp_push,if_neg (by omega)];exact hK.1.hp b16)⟩,(sG (bw hl t17)),(sG (bw hl t18)),(sG (bw hl t19)),(sG (bw hl t20)),(sG (bw hl t21)),⟨P22,(sG (bw hl t22)),p22⟩,(sG (bw hl t23)),(sG (bw hl t24)),⟨_,(sR hl),by omega,(sG fnil)⟩,(sG hl)⟩ ?_
 rintro tm S ⟨hl,hlo,hwf,t1,t2,⟨P3,t3,p3⟩,t4,⟨P5,t5,p5⟩,t6,⟨P7,t7,p7⟩,t8,t9,⟨P10,t10,p10⟩,t11,⟨P12,t12,p12⟩,t13,t14,t15,⟨a16,t16,g16,b16⟩,t17,t18,t19,t20,t21,⟨P22,t22,p22⟩,t23,t24,⟨a25,t25,g25,b25⟩,t26⟩
 refine wops_callR rfl rfl (sR hl) (by simp only [↓reduceIte,go_sem,hl];exact k75 _) ?_
 rintro v2 S2 ⟨b,rfl,hb,hK⟩
 have q1:=hK.2
 have q2:=hK.len
 have hB:=b.h
 have x16:=hK.hp b16
 have x25:=hK.hp b25
 have m16:=hp_lt x16
 have m25:=hp_lt x25
 have e0:∀ n:Int,(n != n)=false:=fun n=>by simp
 have e1:∀ n:Int,(n==n)=true:=fun n=>by simp
 have e2:([0,1]==([0,1]:List Int))=true:=by decide
 have e3:([0,1,1,1]==([0,1,1,1]:List Int))=true:=by decide
 have e4:(([98,111,111,107,32,50,10,99,111,112,121,10,108,105,110,101,32,49,32,48,10,108,111,115,116,10,101,110,100,32,49,52,51,10]:List UInt8)==[98,111,111,107,32,50,10,99,111,112,121,10,108,105,110,101,32,49,32,48,10,108,111,115,116,10,101,110,100,32,49,52,51,10])=true:=by decide +kernel
 have c1:=fun o st=>s33 P3 _ p3 (by decide) o 4 rfl st
 have c2:=fun o st=>s38 P5 _ p5 (by decide) (by decide) o 3 rfl st
 have c3:=fun o st=>s38 P7 _ p7 (by decide) (by decide) o 3 rfl st
 have c4:=fun o st=>s27 P10 _ p10 (by decide) o 1 rfl st
 have c5:=fun o st=>s38 P12 _ p12 (by decide) (by decide) o 2 rfl st
 have c6:=fun o st=>s27 P22 _ p22 (by decide) o 4 rfl st
 have c7:=fun st=>k76 b hb st
 refine go2 (bw (bw31 hl t1 t2 t3 t4 t5 t6 t7 t8 t9 t10 t11 t12 t13 t14 t15 t16 t17 t18 t19 t20 t21 t22 t23 t24 t25 t26 x16 x25 (n4 m16) (n4 m25)) (bw6 e0 e1 e2 e3 e4 @beq_self_eq_true.{0})) (bw8 c1 c2 c3 c4 c5 c6 c7 fnil) ?_
 exact fQ hl
end Go.Den.Ve
end

/- Part of the proofs of laws of the package version. Texts: VwR, VwS, VwT, VwU. -/
import Derived.Test.YtehdcjbdhkkipaaGreatDoorVLBb
set_option linter.unusedSimpArgs false
set_option linter.unusedVariables false
section
namespace Go.Den.Ve
theorem rowSum_bG{i:Nat}{r:List UInt8}(hi:i≤505):∀ k,k≤1510→rowSum i r k≤k*195000000
 | 0,_=>by simp[rowSum]
 | k+1,hk=>by
  have:=rowSum_bG (i:=i) (r:=r) hi k (by omega)
  have hb:(r.getD k 0).toNat≤255:=by have:=(r.getD k 0).toNat_lt;omega
  have h1:(r.getD k 0).toNat*(k+1)≤255*1510:=Nat.mul_le_mul hb (by omega)
  have h2:(r.getD k 0).toNat*(k+1)*(i+1)≤255*1510*506:=Nat.mul_le_mul h1 (by omega)
  simp only[rowSum]
  omega
theorem allSum_bG{rows:List (List UInt8)}(h:∀ r∈rows,r.length≤1510):∀ i,i≤505→allSum rows i≤i*294450000000
 | 0,_=>by simp[allSum]
 | i+1,hi=>by
  have h0:=allSum_bG h i (by omega)
  have hl:(rows.getD i []).length≤1510:=by
   rw[List.getD_eq_getElem?_getD]
   cases hr:rows[i]? with
   | none=>simp
   | some r=>exact h r (List.mem_of_getElem? hr)
  have h1:=rowSum_bG (i:=i) (r:=rows.getD i []) (by omega) _ hl
  simp only[allSum]
  omega
theorem joinL_lenG{rows:List (List UInt8)}(h:∀ r∈rows,r.length≤1510):∀ i,(joinL (rows.take i)).length≤rows.length*1511:=by
 intro i
 have:∀ l:List (List UInt8),(∀ r∈l,r.length≤1510)→(joinL l).length≤l.length*1511:=by
  intro l
  induction l with
  | nil=>simp[joinL]
  | cons r l ih =>
   intro hl
   have h1:=ih (fun x hx=>hl x (by simp[hx]))
   have h2:=hl r (by simp)
   simp only[joinL,List.flatMap_cons,List.length_append,List.length_cons,List.length_nil] at h1 ⊢
   omega
 have h1:=this (rows.take i) (fun r hr=>h r (List.mem_of_mem_take hr))
 have h2:(rows.take i).length≤rows.length:=by rw[List.length_take];omega
 have h3:(rows.take i).length*1511≤rows.length*1511:=Nat.mul_le_mul_right _ h2
 exact Nat.le_trans h1 h3
set_option maxHeartbeats 1000000 in
theorem c125G(w:List UInt8)(U:PV)(ns:List Int)(hU:SlOf 1 encI U ns)(hns:∀ n∈ns,0≤n∧n<100)(hl3:ns.length≤500)(hwl:w.length≤6)(st:St):Cl EE (.func 125 [] []) [.str (toB w),U] st (.ret (.str (toB (rowL w ns)))) st:=by
 have hUs:=hU.slen
 refine cF2 pr125 fn125 (fun tm hl h0 h1=>?_)
 refine go2 (bw hl h0) fnil ?_
 refine wp_for [5,0] (fun i vs st'=>vs=[iv i,.str (toB (rowL w (ns.take i)))]∧i≤ns.length∧st'={ heap:=st.heap,lo:=st.heap.length }) (fun i=>ns.length - i) ⟨(sR (bw hl h0)),Nat.zero_le _,rfl⟩ ?_
 rintro i tm1 st1 ⟨hv,hi,rfl⟩ hS
 obtain⟨hv5,hv0⟩:=mv2 hv
 have hl1:tm1.length=21:=lN hS hl;have i1:tg tm1 1=U:=tQ hS (bw hl h1);clear hS
 refine go2 (bw4 hl1 hv5 i1 hUs) fnil ?_
 refine⟨decide ((i:Int)<ns.length),(sG hl1),fun hb=>?_,fun hb1=>?_⟩
 ·have hlt:=of_decide_eq_false hb
  have hin:i=ns.length:=by omega
  rw[hin,List.take_length] at hv0
  refine go2 (bw hl1 hv0) fnil ?_
  exact fnq_flat (results_one (by rw[rdRes_tmp];simp only[↓reduceIte,go_sem,hl1];first|done|rfl)) (by first|exact Nat.le_refl _|(simp only[lo_push];omega)) (by rfl)
 ·have hlt:i<ns.length:=by have:=of_decide_eq_true hb1;omega
  have hw1:=wS i (by omega)
  have hr:=hns _ (List.getElem_mem hlt)
  have hi2:=itoaL_len ns[i].toNat
  have hrl:=rowL_len w (ns.take i)
  have htl:(ns.take i).length≤500:=by rw[List.length_take];omega
  have o1:((rowL w (ns.take i)).length+1≤1000000)=True:=by simp only[eq_iff_iff,iff_true];omega
  have o2:((rowL w (ns.take i)++[32]).length+(itoaL ns[i].toNat).length≤1000000)=True:=by simp only[eq_iff_iff,iff_true,List.length_append,List.length_cons,List.length_nil];omega
  refine⟨by omega,?_⟩
  have q10:=fun st=>c158 ns[i] hr.1 hr.2 st
  refine go2 (bw7 hl1 hv5 hv0 i1 o1 o2 hw1) (bw q10 fnil) ?_
  rw[rowL_take w hlt]
  refine⟨?_,by omega,rfl⟩
  have ea:rowL w (ns.take i)++(32::itoaL ns[i].toNat)=rowL w (ns.take i)++[32]++itoaL ns[i].toNat:=by simp
  rw[ea]
  simp only[↓reduceIte,go_sem,hl1]
set_option maxHeartbeats 8000000 in
theorem c126G(V:PV)(rows:List (List UInt8))(hV:SlOf 1 encS V rows)(hrows:∀ r∈rows,r.length≤1510)(hN:rows.length≤505)(st:St):Cl EE (.func 126 [] []) [V,iv 197] st (.ret (.str (toB (sealL rows 197)))) st:=by
 have hVs:=hV.slen
 refine cF2 pr126 fn126 (fun tm hl h0 h1=>?_)
 have hab:=allSum_bG (rows:=rows) (fun r hr=>by have:=hrows r hr;omega)
 have hol:=joinL_lenG hrows
 have hN16:rows.length*1511≤505*1511:=Nat.mul_le_mul_right _ hN
 refine go2 hl fnil ?_
 refine wp_for [7,5,6] (fun i vs st'=>vs=[iv i,.str (toB (joinL (rows.take i))),iv (allSum rows i)]∧i≤rows.length∧st'={ heap:=st.heap,lo:=st.heap.length }) (fun i=>rows.length - i) ⟨(sR hl),Nat.zero_le _,rfl⟩ ?_
 rintro i tm1 st1 ⟨hv,hi,rfl⟩ hS
 obtain⟨hv7,hv5,hv6⟩:=mv3 hv
 have hl1:tm1.length=65:=lN hS hl;have i0:tg tm1 0=V:=tQ hS (bw3 hl h0 h1);have i1:tg tm1 1=iv 197:=tQ hS (bw3 hl h0 h1);clear hS
 refine go2 (bw4 hl1 hv7 i0 hVs) fnil ?_
 refine⟨decide ((i:Int)<rows.length),(sG hl1),fun hb=>?_,fun hb1=>?_⟩
 ·have hlt:=of_decide_eq_false hb
  have hin:i=rows.length:=by omega
  have habn:=hab rows.length (by omega)
  have holn:=hol rows.length
  rw[List.take_length] at holn
  rw[hin] at hv6
  rw[hin,List.take_length] at hv5
  have er:endRow rows 197=endW++itoaL (allSum rows rows.length % 197 / 100)++itoaL (allSum rows rows.length % 197 / 10 % 10)++itoaL (allSum rows rows.length % 197 % 10):=rfl
  have ht:sealL rows 197=joinL rows++endRow rows 197++[10]:=by rw[sealL,inter_out]
  rw[ht,er]
  generalize hAd:allSum rows rows.length=A at hv6 habn
  have w57:Int.tmod (A:Int) 197=((A % 197:Nat):Int):=by rw[Int.natCast_emod];exact Int.tmod_eq_emod_of_nonneg (by omega)
  have hC:A % 197<197:=Nat.mod_lt _ (by omega)
  generalize hCd:A % 197=C at w57 hC
  have w60:IntKind.wrap .i64 (Int.tdiv (C:Int) 100)=((C / 100:Nat):Int):=by rw[Int.tdiv_eq_ediv_of_nonneg (by omega)];exact wrap_nat (n:=C / 100) (by omega)
  have w64:IntKind.wrap .i64 (Int.tdiv (C:Int) 10)=((C / 10:Nat):Int):=by rw[Int.tdiv_eq_ediv_of_nonneg (by omega)];exact wrap_nat (n:=C / 10) (by omega)
  have w65:Int.tmod ((C / 10:Nat):Int) 10=((C / 10 % 10:Nat):Int):=by rw[Int.natCast_emod];exact Int.tmod_eq_emod_of_nonneg (by omega)
  have w69:Int.tmod (C:Int) 10=((C % 10:Nat):Int):=by rw[Int.natCast_emod];exact Int.tmod_eq_emod_of_nonneg (by omega)
  have hz:((197:Int)=0)=False:=by simp
  have hz2:((100:Int)=0)=False:=by simp
  have hz3:((10:Int)=0)=False:=by simp
  have k1:∀ st,Cl EE (.func 158 [] []) [iv ((C / 100:Nat):Int)] st (.ret (.str (toB (itoaL (C / 100))))) st:=fun st=>by have:=c158 ((C / 100:Nat):Int) (by omega) (by omega) st;rwa [Int.toNat_natCast] at this
  have k2:∀ st,Cl EE (.func 158 [] []) [iv ((C / 10 % 10:Nat):Int)] st (.ret (.str (toB (itoaL (C / 10 % 10))))) st:=fun st=>by have:=c158 ((C / 10 % 10:Nat):Int) (by omega) (by omega) st;rwa [Int.toNat_natCast] at this
  have k3:∀ st,Cl EE (.func 158 [] []) [iv ((C % 10:Nat):Int)] st (.ret (.str (toB (itoaL (C % 10))))) st:=fun st=>by have:=c158 ((C % 10:Nat):Int) (by omega) (by omega) st;rwa [Int.toNat_natCast] at this
  have i1l:=itoaL_len (C / 100)
  have i2l:=itoaL_len (C / 10 % 10)
  have i4l:=itoaL_len (C % 10)
  refine go2 (bw12 hl1 hv5 hv6 i1 w57 w60 w64 w65 w69 hz hz2 hz3) fnil ?_
  refine wops_add (s:=joinL rows) (t:=endW) rfl rfl (sR hl1) (sR hl1) (by simp only[endW,List.length_cons,List.length_nil];omega) ?_
  generalize hXd:joinL rows++endW=X
  have hX:X.length≤505*1511+4:=by rw[← hXd];simp only[endW,List.length_append,List.length_cons,List.length_nil];omega
  refine go2 (bw10 hl1 hv6 w57 w60 w64 w65 w69 hz hz2 hz3) (bw4 k1 k2 k3 fnil) ?_
  refine wops_add rfl rfl (sR hl1) (sR hl1) (by first|omega|(simp only[List.length_append,List.length_cons,List.length_nil];omega)) ?_
  refine go2 (bw10 hl1 hv6 w57 w60 w64 w65 w69 hz hz2 hz3) (bw4 k1 k2 k3 fnil) ?_
  refine wops_add rfl rfl (sR hl1) (sR hl1) (by first|omega|(simp only[List.length_append,List.length_cons,List.length_nil];omega)) ?_
  refine go2 (bw10 hl1 hv6 w57 w60 w64 w65 w69 hz hz2 hz3) (bw4 k1 k2 k3 fnil) ?_
  refine wops_add rfl rfl (sR hl1) (sR hl1) (by first|omega|(simp only[List.length_append,List.length_cons,List.length_nil];omega)) ?_
  refine wops_add (t:=[10]) rfl rfl (sR hl1) (sR hl1) (by first|omega|(simp only[List.length_append,List.length_cons,List.length_nil];omega)) ?_
  refine go2 hl1 fnil ?_
  have ef:joinL rows++(endW++itoaL (C / 100)++itoaL (C / 10 % 10)++itoaL (C % 10))++[10]=X++itoaL (C / 100)++itoaL (C / 10 % 10)++itoaL (C % 10)++[10]:=by rw[← hXd];simp
  rw[ef]
  exact fnq_flat (results_one (by rw[rdRes_tmp];simp only[↓reduceIte,go_sem,hl1];first|done|rfl)) (by first|exact Nat.le_refl _|(simp only[lo_push];omega)) (by rfl)
 ·have hlt:i<rows.length:=by have:=of_decide_eq_true hb1;omega
  have hw1:=wS i (by omega)
  have hri:=hrows _ (List.getElem_mem hlt)
  have hgi:rows.getD i []=rows[i]:=by rw[List.getD_eq_getElem?_getD,List.getElem?_eq_getElem hlt];rfl
  have habi:=hab i (by omega)
  have holi:=hol i
  refine⟨by omega,?_⟩
  refine go2 hl1 fnil ?_
  refine wp_for [8,6] (fun k vs st'=>vs=[iv k,iv ((allSum rows i+rowSum i rows[i] k:Nat):Int)]∧k≤rows[i].length∧st'={ heap:=st.heap,lo:=st.heap.length }) (fun k=>rows[i].length - k) ⟨(sR (bw hl1 hv6)),Nat.zero_le _,rfl⟩ ?_
  rintro k tm2 st2 ⟨hv,hk,rfl⟩ hS
  obtain⟨hw8,hw6⟩:=mv2 hv
  have hl2:tm2.length=65:=lN hS hl1;have k0:tg tm2 0=V:=tQ hS (bw4 hl1 i0 hv7 hv5);have k7:tg tm2 7=iv i:=tQ hS (bw4 hl1 i0 hv7 hv5);have k5:tg tm2 5 = .str (toB (joinL (rows.take i))):=tQ hS (bw4 hl1 i0 hv7 hv5);clear hS
  refine go2 (bw4 hl2 hw8 k0 k7) fnil ?_
  refine⟨decide ((k:Int)<rows[i].length),(sG hl2),fun hb=>?_,fun hb2=>?_⟩
  ·have hlt2:=of_decide_eq_false hb
   have hkn:k=rows[i].length:=by omega
   rw[hkn] at hw6
   refine go2 (bw4 hl2 k0 k7 k5) fnil ?_
   refine wops_add (s:=joinL (rows.take i)) (t:=rows[i]) rfl rfl (sR hl2) (sR hl2) (by omega) ?_
   refine wops_add (t:=[10]) rfl rfl (sR hl2) (sR hl2) (by simp only[List.length_append,List.length_cons,List.length_nil];omega) ?_
   refine go2 (bw3 hl2 k7 hw1) fnil ?_
   rw[joinL_take hlt]
   refine⟨?_,by omega,rfl⟩
   have ea:allSum rows (i+1)=allSum rows i+rowSum i rows[i] rows[i].length:=by simp only[allSum,hgi]
   rw[ea]
   simp only[↓reduceIte,go_sem,hl2,hw6]
  ·have hk2:k<rows[i].length:=by have:=of_decide_eq_true hb2;omega
   have hgk:rows[i].getD k 0=rows[i][k]:=by rw[List.getD_eq_getElem?_getD,List.getElem?_eq_getElem hk2];rfl
   have hix:=getElem?_toB rows[i] k hk2
   have hrb:=rowSum_bG (i:=i) (r:=rows[i]) (by omega) (k+1) (by omega)
   generalize hbd:rows[i][k]=b at hix hgk
   have hb255:b.toNat<256:=b.toNat_lt
   have hk0:((0:Int)≤(k:Int))=True:=by simp
   have w46:IntKind.wrap .i64 (b.toNat:Int)=(b.toNat:Int):=wrap_nat (by omega)
   have w48:=wS k (by omega)
   have b1:b.toNat*(k+1)≤255*1510:=Nat.mul_le_mul (by omega) (by omega)
   have b2:b.toNat*(k+1)*(i+1)≤255*1510*505:=Nat.mul_le_mul b1 (by omega)
   have w49:IntKind.wrap .i64 ((b.toNat:Int)*((k+1:Nat):Int))=((b.toNat*(k+1):Nat):Int):=by rw[← Int.natCast_mul];exact wrap_nat (by omega)
   have w52:IntKind.wrap .i64 (((b.toNat*(k+1):Nat):Int)*((i+1:Nat):Int))=((b.toNat*(k+1)*(i+1):Nat):Int):=by rw[← Int.natCast_mul];exact wrap_nat (by omega)
   have e53:allSum rows i+rowSum i rows[i] (k+1)=allSum rows i+rowSum i rows[i] k+b.toNat*(k+1)*(i+1):=by simp only[rowSum,hgk];omega
   have w53:IntKind.wrap .i64 (((allSum rows i+rowSum i rows[i] k:Nat):Int)+((b.toNat*(k+1)*(i+1):Nat):Int))=((allSum rows i+rowSum i rows[i] (k+1):Nat):Int):=by
    rw[← Int.natCast_add,← e53];exact wrap_nat (by omega)
   refine⟨by omega,?_⟩
   refine go2 (bw15 hl2 hw8 hw6 k0 k7 @op_indexStr hk0 Int.toNat_natCast hix w46 w48 w49 hw1 w52 w53) fnil ?_
   refine⟨?_,by omega,rfl⟩
   simp only[↓reduceIte,go_sem,hl2]
end Go.Den.Ve
end
section
namespace Go.Den.Ve
structure OkG (b:BP):Prop where
 w:0≤b.words∧b.words<100
 n:∀ c∈b.cs,∀ x∈c.ls,x.lost=false→∀ n∈x.l,0≤n∧n<100
 l:∀ c∈b.cs,∀ x∈c.ls,x.lost=false→x.l.length≤500
 rows:(rowsV b.bk).length≤505
theorem OkG.cs{b:BP}(h:OkG b):b.cs.length≤505:=by
 have h1:∀ cs:List (List LN),cs.length≤(cs.flatMap copyRows).length:=fun cs=>by
  induction cs with
  | nil=>simp
  | cons c cs ih=>rw[List.flatMap_cons,List.length_append,List.length_cons];simp only[copyRows,List.length_cons];omega
 have h2:=h1 (b.cs.map CP.c)
 have h3:=h.rows
 simp only[rowsV,List.length_cons] at h3
 rw[List.length_map] at h2
 omega
theorem OkG.row{b:BP}(h:OkG b):∀ r∈rowsV b.bk,r.length≤1510:=fun r hr=>by
 simp only[rowsV,List.mem_cons,List.mem_flatMap,copyRows,List.mem_map] at hr
 rcases hr with rfl|⟨c,⟨d,hd,rfl⟩,rfl|⟨x,hx,rfl⟩⟩
 ·have:=rowL_len bookW [b.bk.words];simp[bookW] at this ⊢;omega
 ·simp[copyW]
 ·obtain⟨y,hy,rfl⟩:=List.mem_map.1 hx
  unfold lnRow
  split
  ·simp[lostW]
  ·rename_i hl
   have h1:=h.l d hd y hy (by simpa using hl)
   have h2:=rowL_len lineW y.l
   have h3:y.ln.words=y.l:=rfl
   rw[h3]
   simp only[lineW,List.length_cons,List.length_nil] at h2 ⊢
   omega
set_option maxHeartbeats 8000000 in
theorem c76G(b:BP)(hP:OkG b)(st:St):Cl EE (.func 76 [] []) [b.pv] st (.ret (.str (toB (textV b.bk)))) st:=by
 have hB:=b.h
 have hc5:=hP.cs
 have hrl:=hP.rows
 have hrows:=hP.row
 refine cF1 pr76 fn76 (fun tm hl h0=>?_)
 have hh:∀ (o:Own) st,Cl EE (.func 125 [] []) [.str (toB bookW),.slice o 1 [iv b.words]] st (.ret (.str (toB (rowL bookW [b.words])))) st:=fun o st=>c125G bookW _ [b.words] ⟨rfl,fun _ _=>rfl⟩ (by simpa using hP.w) (by simp) (by decide) st
 refine go2 (bw hl h0) (bw hh fnil) ?_
 refine wp_for [4,3] (fun i vs st'=>∃ v,vs=[iv i,v]∧i≤b.cs.length∧OwnS (st.heap.length+1) st' 1 v (rowsK b.bk i).length ((rowsK b.bk i).flatMap encS)∧st.heap.length≤st'.lo∧st'.lo≤st'.heap.length∧hp st' st.heap.length=some (.var [iv b.words,b.v])) (fun i=>b.cs.length - i) ⟨_,(sR hl),Nat.zero_le _,⟨by simp[rowsK,encS],.inr ⟨st.heap.length+2,by simp[rowsK,encS],by omega,(sG fnil)⟩⟩,by simp only[lo_push];omega,by simp only[lo_push,len_push];omega,(sG fnil)⟩ ?_
 rintro i tm1 st1 ⟨v,hv,hi,hO,hlo,hwf,hbx⟩ hS
 obtain⟨hv4,hv3⟩:=mv2 hv
 have mb:=hp_lt hbx
 have hl1:tm1.length=58:=lN hS hl;have i1:tg tm1 1 = .ptr st.heap.length 0:=tQ hS hl;clear hS
 refine go2 (bw4 hl1 hv4 i1 hbx) fnil ?_
 refine⟨decide ((i:Int)<b.cs.length),(sG hl1),fun hb=>?_,fun hb1=>?_⟩
 ·have hlt:=of_decide_eq_false hb
  have hin:i=b.cs.length:=by omega
  have her:rowsK b.bk b.cs.length=rowsV b.bk:=by rw[rowsK,rowsV,List.take_of_length_le (by simp)]
  rw[hin,her] at hO
  have hV:SlOf 1 encS v (rowsV b.bk):=SlOf.of_sl hO.sl rfl rfl (fun _=>rfl)
  have q126:=fun st=>c126G v (rowsV b.bk) hV (fun r hr=>by have:=hrows r hr;omega) (by omega) st
  have ht:sealL (rowsV b.bk) 197=textV b.bk:=rfl
  rw[ht] at q126
  refine go2 (bw hl1 hv3) (bw q126 fnil) ?_
  exact fnq_flat (results_one (by rw[rdRes_tmp];simp only[↓reduceIte,go_sem,hl1];first|done|rfl)) hlo (by rfl)
 ·have hlt:i<b.cs.length:=by have:=of_decide_eq_true hb1;omega
  have hw1:=wS i (by omega)
  have hC:=b.cs[i].h
  have hks:=rowsK_succ b hlt
  have hkl:=rowsK_le b.bk (i+1)
  have hcc:(copyRows b.cs[i].c).length=b.cs[i].ls.length+1:=by simp[copyRows]
  have hkl2:(rowsK b.bk i).length+(b.cs[i].ls.length+1)≤505:=by rw[hks,List.length_append] at hkl;omega
  refine⟨by omega,?_⟩
  refine go2 (bw hl1 hv3) fnil ?_
  refine aP (bw hl1 hv3) (hO.push) ?_
  intro v1 s2 hO2 hF2 hk2
  have y1:=hF2.lo
  have y2:=hF2.up
  have y3:=hF2.len
  simp only[lo_push,len_push] at y1 y2 y3
  have e0:hp s2 st.heap.length=some (.var [iv b.words,b.v]):=hk2 _ _ (by rw[hp_push,if_neg (by omega)];exact hbx) (by simp)
  refine go2 hl1 fnil ?_
  refine wp_for [5,3] (fun q vs s'=>∃ u,vs=[iv q,u]∧q≤b.cs[i].ls.length∧OwnS (st.heap.length+1) s' 1 u (rowsK b.bk i++copyW::(b.cs[i].c.take q).map lnRow).length ((rowsK b.bk i++copyW::(b.cs[i].c.take q).map lnRow).flatMap encS)∧st.heap.length≤s'.lo∧s'.lo≤s'.heap.length∧hp s' st.heap.length=some (.var [iv b.words,b.v])) (fun q=>b.cs[i].ls.length - q) ⟨v1,(sR hl1),Nat.zero_le _,by simpa[share_str,encS,copyW] using hO2,by omega,by omega,e0⟩ ?_
  clear hO hlo hwf hbx mb hO2 e0 y1 y2 y3
  rintro q tm2 s3 ⟨u,hv,hq,hO,hlo,hwf,hbx⟩ hS2
  obtain⟨hv5,hu⟩:=mv2 hv
  have mb:=hp_lt hbx
  have hl2:tm2.length=58:=lN hS2 hl1;have k1:tg tm2 1 = .ptr st.heap.length 0:=tQ hS2 (bw3 hl1 i1 hv4);have k4:tg tm2 4=iv i:=tQ hS2 (bw3 hl1 i1 hv4);clear hS2
  refine go2 (bw5 hl2 hv5 k1 k4 hbx) fnil ?_
  refine⟨decide ((q:Int)<b.cs[i].ls.length),(sG hl2),fun hb=>?_,fun hb2=>?_⟩
  ·have hlt2:=of_decide_eq_false hb
   have hqn:q=b.cs[i].ls.length:=by omega
   rw[hqn,List.take_of_length_le (by simp)] at hO
   refine go2 (bw3 hl2 k4 hw1) fnil ?_
   refine⟨u,(sG (bw hl2 hu)),by omega,?_,hlo,hwf,hbx⟩
   rw[hks,copyRows];exact hO
  ·have hlt2:q<b.cs[i].ls.length:=by have:=of_decide_eq_true hb2;omega
   have hw2:=wS q (by omega)
   have hqc:q<b.cs[i].c.length:=by simpa using hlt2
   have hqs:(b.cs[i].c.take (q+1)).map lnRow=(b.cs[i].c.take q).map lnRow++[lnRow b.cs[i].ls[q].ln]:=by rw[List.take_succ_eq_append_getElem hqc,List.map_append];simp
   have hll:(rowsK b.bk i++copyW::(b.cs[i].c.take q).map lnRow).length≤505:=by simp only[List.length_append,List.length_cons,List.length_map,List.length_take];omega
   refine⟨by omega,?_⟩
   cases hlost:b.cs[i].ls[q].lost
   ·have hn:=hP.n _ (List.getElem_mem hlt) _ (List.getElem_mem hlt2) hlost
    have h4:=hP.l _ (List.getElem_mem hlt) _ (List.getElem_mem hlt2) hlost
    have kv:=fun st=>c125G lineW b.cs[i].ls[q].w b.cs[i].ls[q].l b.cs[i].ls[q].h hn h4 (by decide) st
    have hrow:lnRow b.cs[i].ls[q].ln=rowL lineW b.cs[i].ls[q].l:=by simp[lnRow,hlost]
    refine go2 (bw7 hl2 k1 k4 hv5 hu hbx hlost) (bw kv fnil) ?_
    refine aP (bw hl2 hu) (hO.push) ?_
    intro u' s4 hO4 hF4 hk4'
    have z1:=hF4.lo
    have z2:=hF4.up
    have z3:=hF4.len
    simp only[lo_push,len_push] at z1 z2 z3
    refine go2 (bw3 hl2 hv5 hw2) fnil ?_
    refine⟨u',(sG hl2),by omega,?_,by omega,by omega,hk4' _ _ (sG (bw hbx (n4 mb))) (by simp)⟩
    rw[hqs,hrow]
    simpa[share_str,encS,Nat.add_assoc] using hO4
   ·have hrow:lnRow b.cs[i].ls[q].ln=lostW:=by simp[lnRow,hlost]
    refine go2 (bw7 hl2 k1 k4 hv5 hu hbx hlost) fnil ?_
    refine aP (bw hl2 hu) (hO.push) ?_
    intro u' s4 hO4 hF4 hk4'
    have z1:=hF4.lo
    have z2:=hF4.up
    have z3:=hF4.len
    simp only[lo_push,len_push] at z1 z2 z3
    refine go2 (bw3 hl2 hv5 hw2) fnil ?_
    refine⟨u',(sG hl2),by omega,?_,by omega,by omega,hk4' _ _ (sG (bw hbx (n4 mb))) (by simp)⟩
    rw[hqs,hrow]
    simpa[share_str,encS,Nat.add_assoc,lostW] using hO4
set_option maxHeartbeats 8000000 in
theorem c76H(b:BP)(hP:OkG b)(l:Nat)(st:St)(ha:hp st l=some (.arr (b.cs.map CP.v))):Cl EE (.func 76 [] []) [.agg [iv b.words,.hslice l 1 b.cs.length]] st (.ret (.str (toB (textV b.bk)))) st:=by
 have ha0:hp { heap:=st.heap,lo:=st.heap.length } l=some (.arr (b.cs.map CP.v)):=ha
 have hll0:=hp_lt ha
 have hc5:=hP.cs
 have hrl:=hP.rows
 have hrows:=hP.row
 refine cF1 pr76 fn76 (fun tm hl h0=>?_)
 have hh:∀ (o:Own) st,Cl EE (.func 125 [] []) [.str (toB bookW),.slice o 1 [iv b.words]] st (.ret (.str (toB (rowL bookW [b.words])))) st:=fun o st=>c125G bookW _ [b.words] ⟨rfl,fun _ _=>rfl⟩ (by simpa using hP.w) (by simp) (by decide) st
 refine go2 (bw hl h0) (bw hh fnil) ?_
 refine wp_for [4,3] (fun i vs st'=>∃ v,vs=[iv i,v]∧i≤b.cs.length∧OwnS (st.heap.length+1) st' 1 v (rowsK b.bk i).length ((rowsK b.bk i).flatMap encS)∧st.heap.length≤st'.lo∧st'.lo≤st'.heap.length∧hp st' st.heap.length=some (.var [iv b.words,.hslice l 1 b.cs.length])∧hp st' l=some (.arr (b.cs.map CP.v))) (fun i=>b.cs.length - i) ⟨_,(sR hl),Nat.zero_le _,⟨by simp[rowsK,encS],.inr ⟨st.heap.length+2,by simp[rowsK,encS],by omega,(sG fnil)⟩⟩,by simp only[lo_push];omega,by simp only[lo_push,len_push];omega,(sG fnil),(sG (bw ha0 (n4 hll0)))⟩ ?_
 rintro i tm1 st1 ⟨v,hv,hi,hO,hlo,hwf,hbx,hA⟩ hS
 obtain⟨hv4,hv3⟩:=mv2 hv
 have mb:=hp_lt hbx
 have hl1:tm1.length=58:=lN hS hl;have i1:tg tm1 1 = .ptr st.heap.length 0:=tQ hS hl;clear hS
 refine go2 (bw4 hl1 hv4 i1 hbx) fnil ?_
 refine⟨decide ((i:Int)<b.cs.length),(sG hl1),fun hb=>?_,fun hb1=>?_⟩
 ·have hlt:=of_decide_eq_false hb
  have hin:i=b.cs.length:=by omega
  have her:rowsK b.bk b.cs.length=rowsV b.bk:=by rw[rowsK,rowsV,List.take_of_length_le (by simp)]
  rw[hin,her] at hO
  have hV:SlOf 1 encS v (rowsV b.bk):=SlOf.of_sl hO.sl rfl rfl (fun _=>rfl)
  have q126:=fun st=>c126G v (rowsV b.bk) hV (fun r hr=>by have:=hrows r hr;omega) (by omega) st
  have ht:sealL (rowsV b.bk) 197=textV b.bk:=rfl
  rw[ht] at q126
  refine go2 (bw hl1 hv3) (bw q126 fnil) ?_
  exact fnq_flat (results_one (by rw[rdRes_tmp];simp only[↓reduceIte,go_sem,hl1];first|done|rfl)) hlo (by rfl)
 ·have hlt:i<b.cs.length:=by have:=of_decide_eq_true hb1;omega
  have hw1:=wS i (by omega)
  have hC:=b.cs[i].h
  have hks:=rowsK_succ b hlt
  have hkl:=rowsK_le b.bk (i+1)
  have hcc:(copyRows b.cs[i].c).length=b.cs[i].ls.length+1:=by simp[copyRows]
  have hkl2:(rowsK b.bk i).length+(b.cs[i].ls.length+1)≤505:=by rw[hks,List.length_append] at hkl;omega
  refine⟨by omega,?_⟩
  refine go2 (bw hl1 hv3) fnil ?_
  refine aP (bw hl1 hv3) (hO.push) ?_
  intro v1 s2 hO2 hF2 hk2
  have y1:=hF2.lo
  have y2:=hF2.up
  have y3:=hF2.len
  simp only[lo_push,len_push] at y1 y2 y3
  have e0:hp s2 st.heap.length=some (.var [iv b.words,.hslice l 1 b.cs.length]):=hk2 _ _ (by rw[hp_push,if_neg (by omega)];exact hbx) (by simp)
  have eA:hp s2 l=some (.arr (b.cs.map CP.v)):=hk2 _ _ (by rw[hp_push,if_neg (by have:=hp_lt hA;omega)];exact hA) (by simp)
  refine go2 hl1 fnil ?_
  refine wp_for [5,3] (fun q vs s'=>∃ u,vs=[iv q,u]∧q≤b.cs[i].ls.length∧OwnS (st.heap.length+1) s' 1 u (rowsK b.bk i++copyW::(b.cs[i].c.take q).map lnRow).length ((rowsK b.bk i++copyW::(b.cs[i].c.take q).map lnRow).flatMap encS)∧st.heap.length≤s'.lo∧s'.lo≤s'.heap.length∧hp s' st.heap.length=some (.var [iv b.words,.hslice l 1 b.cs.length])∧hp s' l=some (.arr (b.cs.map CP.v))) (fun q=>b.cs[i].ls.length - q) ⟨v1,(sR hl1),Nat.zero_le _,by simpa[share_str,encS,copyW] using hO2,by omega,by omega,e0,eA⟩ ?_
  clear hO hlo hwf hbx hA mb hO2 e0 eA y1 y2 y3
  rintro q tm2 s3 ⟨u,hv,hq,hO,hlo,hwf,hbx,hA⟩ hS2
  obtain⟨hv5,hu⟩:=mv2 hv
  have mb:=hp_lt hbx
  have mA:=hp_lt hA
  have hI:∀ S,idxR 1 (.hslice l 1 b.cs.length) (.int .i64 (i:Int)) S=some (.val (.aptr l (i*1)) S):=fun S=>by rw[idxR_h,if_pos hlt]
  have hL:ldR false 1 (.aptr l (i*1)) s3=some (.val b.cs[i].v s3):=by
   rw[ldR_aptr hA,Nat.mul_one,if_pos (by rw[List.length_map];omega),List.drop_eq_getElem_cons (by rw[List.length_map];exact hlt),List.getElem_map]
   rfl
  have hl2:tm2.length=58:=lN hS2 hl1;have k1:tg tm2 1 = .ptr st.heap.length 0:=tQ hS2 (bw3 hl1 i1 hv4);have k4:tg tm2 4=iv i:=tQ hS2 (bw3 hl1 i1 hv4);clear hS2
  refine go2 (bw8 hl2 hv5 k1 k4 hbx @op_indexAddrM hI hL) fnil ?_
  refine⟨decide ((q:Int)<b.cs[i].ls.length),(sG hl2),fun hb=>?_,fun hb2=>?_⟩
  ·have hlt2:=of_decide_eq_false hb
   have hqn:q=b.cs[i].ls.length:=by omega
   rw[hqn,List.take_of_length_le (by simp)] at hO
   refine go2 (bw3 hl2 k4 hw1) fnil ?_
   refine⟨u,(sG (bw hl2 hu)),by omega,?_,hlo,hwf,hbx,hA⟩
   rw[hks,copyRows];exact hO
  ·have hlt2:q<b.cs[i].ls.length:=by have:=of_decide_eq_true hb2;omega
   have hw2:=wS q (by omega)
   have hqc:q<b.cs[i].c.length:=by simpa using hlt2
   have hqs:(b.cs[i].c.take (q+1)).map lnRow=(b.cs[i].c.take q).map lnRow++[lnRow b.cs[i].ls[q].ln]:=by rw[List.take_succ_eq_append_getElem hqc,List.map_append];simp
   have hll:(rowsK b.bk i++copyW::(b.cs[i].c.take q).map lnRow).length≤505:=by simp only[List.length_append,List.length_cons,List.length_map,List.length_take];omega
   refine⟨by omega,?_⟩
   cases hlost:b.cs[i].ls[q].lost
   ·have hn:=hP.n _ (List.getElem_mem hlt) _ (List.getElem_mem hlt2) hlost
    have h4:=hP.l _ (List.getElem_mem hlt) _ (List.getElem_mem hlt2) hlost
    have kv:=fun st=>c125G lineW b.cs[i].ls[q].w b.cs[i].ls[q].l b.cs[i].ls[q].h hn h4 (by decide) st
    have hrow:lnRow b.cs[i].ls[q].ln=rowL lineW b.cs[i].ls[q].l:=by simp[lnRow,hlost]
    refine go2 (bw10 hl2 k1 k4 hv5 hu hbx hlost @op_indexAddrM hI hL) (bw kv fnil) ?_
    refine aP (bw hl2 hu) (hO.push) ?_
    intro u' s4 hO4 hF4 hk4'
    have z1:=hF4.lo
    have z2:=hF4.up
    have z3:=hF4.len
    simp only[lo_push,len_push] at z1 z2 z3
    refine go2 (bw3 hl2 hv5 hw2) fnil ?_
    refine⟨u',(sG hl2),by omega,?_,by omega,by omega,hk4' _ _ (sG (bw hbx (n4 mb))) (by simp),hk4' _ _ (sG (bw hA (n4 mA))) (by simp)⟩
    rw[hqs,hrow]
    simpa[share_str,encS,Nat.add_assoc] using hO4
   ·have hrow:lnRow b.cs[i].ls[q].ln=lostW:=by simp[lnRow,hlost]
    refine go2 (bw10 hl2 k1 k4 hv5 hu hbx hlost @op_indexAddrM hI hL) fnil ?_
    refine aP (bw hl2 hu) (hO.push) ?_
    intro u' s4 hO4 hF4 hk4'
    have z1:=hF4.lo
    have z2:=hF4.up
    have z3:=hF4.len
    simp only[lo_push,len_push] at z1 z2 z3
    refine go2 (bw3 hl2 hv5 hw2) fnil ?_
    refine⟨u',(sG hl2),by omega,?_,by omega,by omega,hk4' _ _ (sG (bw hbx (n4 mb))) (by simp),hk4' _ _ (sG (bw hA (n4 mA))) (by simp)⟩
    rw[hqs,hrow]
    simpa[share_str,encS,Nat.add_assoc,lostW] using hO4
end Go.Den.Ve
end
section
namespace Go.Den
theorem finish_hold{st st1:St}{a:Int}{t n:Nat}{b:Bool}(ht:st.heap.length≤t)(hlo:st.heap.length≤st1.lo):finishCall st st1 (.tuple [.agg [.int .i64 a,.hslice t 1 n],.bool b])=(.tuple [.agg [.int .i64 a,.hslice t 1 n],.bool b],{ heap:=st1.heap,lo:=st.lo }):=by
 unfold finishCall
 rw[if_pos hlo]
 have h:decide (t<st.heap.length)=false:=decide_eq_false (by omega)
 have:letGo st.heap.length st1.heap (.tuple [.agg [.int .i64 a,.hslice t 1 n],.bool b])=none:=by
  simp only[letGo,freezeL,freeze1,retagL,retag1,PV.low,lowL,h,Bool.and_true,Bool.true_and,Bool.false_and,Bool.false_eq_true,if_false,Option.map_none]
 rw[this]
end Go.Den
namespace Go.Den.Ve
theorem cntR_step(cs:List (List LN))(r:List UInt8):cntR (refStep cs r)≤cntR cs+1:=by
 unfold refStep
 split
 ·rw[cntR_new];omega
 ·split
  ·omega
  ·rename_i h
   have e:=List.dropLast_concat_getLast h
   rw[← e,addLn_snoc,cntR_add];omega
theorem cntR_fold:∀ (rs:List (List UInt8)) (cs:List (List LN)),cntR (rs.foldl refStep cs)≤cntR cs+rs.length
 | [],cs=>by simp
 | r::rs,cs=>by
  have h1:=cntR_fold rs (refStep cs r)
  have h2:=cntR_step cs r
  rw[List.foldl_cons,List.length_cons]
  omega
theorem refB_zero(rows:List (List UInt8)):refB rows 0=⟨0,[]⟩:=rfl
theorem refB_one(rows:List (List UInt8)):refB rows 1=⟨(rowNs (rows.getD 0 [])).getD 0 0,[]⟩:=by
 unfold refB
 rw[if_neg (by omega)]
 cases rows <;> rfl
theorem refB_succ{rows:List (List UInt8)}{i:Nat}(hi:i<rows.length)(h0:i≠0):refB rows (i+1)=⟨(refB rows i).words,refStep (refB rows i).copies rows[i]⟩:=by
 unfold refB
 rw[if_neg (by omega),if_neg h0,List.take_succ_eq_append_getElem hi,List.drop_append_of_le_length (by rw[List.length_take];omega),List.foldl_append]
 rfl
theorem refB_cnt(rows:List (List UInt8))(i:Nat):cntR (refB rows i).copies≤i:=by
 unfold refB
 split
 ·simp[cntR]
 ·have:=cntR_fold ((rows.take i).drop 1) []
  have h2:((rows.take i).drop 1).length≤i:=by rw[List.length_drop,List.length_take];omega
  have h3:cntR []=0:=rfl
  show cntR (((rows.take i).drop 1).foldl refStep [])≤i
  omega
theorem rowNs_len{r:List UInt8}(h:r.length≤500):(rowNs r).length≤500:=by
 have h1:=splitL_len 32 [] r
 unfold rowNs wordsL
 rw[List.length_map,List.length_tail]
 omega
theorem refStep_few:∀ (rs:List (List UInt8)) (cs:List (List LN)),(∀ r∈rs,r.length≤500)→(∀ c∈cs,∀ x∈c,x.words.length≤500)→∀ c∈rs.foldl refStep cs,∀ x∈c,x.words.length≤500
 | [],cs,_,h=>h
 | r::rs,cs,hr,h=>by
  rw[List.foldl_cons]
  refine refStep_few rs _ (fun q hq=>hr q (by simp[hq])) ?_
  unfold refStep
  split
  ·intro c hc x hx
   rcases List.mem_append.1 hc with hc|hc
   ·exact h c hc x hx
   ·rw[List.mem_singleton.1 hc] at hx;cases hx
  ·split
   ·exact h
   ·rename_i hne
    intro c hc x hx
    have e:=List.dropLast_concat_getLast hne
    rw[← e,addLn_snoc] at hc
    rcases List.mem_append.1 hc with hc|hc
    ·exact h c (List.dropLast_subset _ hc) x hx
    ·rw[List.mem_singleton.1 hc] at hx
     rcases List.mem_append.1 hx with hx|hx
     ·exact h _ (List.getLast_mem hne) x hx
     ·rw[List.mem_singleton.1 hx];exact rowNs_len (hr r (by simp))
theorem refB_few{rows:List (List UInt8)}(h:∀ r∈rows,r.length≤500)(i:Nat):∀ c∈(refB rows i).copies,∀ x∈c,x.words.length≤500:=by
 unfold refB
 split
 ·exact fun c hc=>by cases hc
 ·exact refStep_few _ _ (fun r hr=>h r (List.mem_of_mem_take (List.mem_of_mem_drop hr))) (fun c hc=>by cases hc)
theorem refOkV_iff{rows:List (List UInt8)}{m:Nat}:refOkV rows m=true↔∀ i<m,rowOk i (rows.getD i [])=true:=by
 unfold refOkV
 rw[List.all_eq_true]
 exact⟨fun h i hi=>h i (List.mem_range.2 hi),fun h i hi=>h i (List.mem_range.1 hi)⟩
theorem refV_no{s:List UInt8}{i:Nat}(hi:i<(splitL 10 [] s).length - 2)(h:rowOk i ((splitL 10 [] s).getD i [])=false):refV s=none:=by
 unfold refV
 rw[if_neg]
 rw[Bool.and_eq_true]
 rintro⟨h1,_⟩
 rw[refOkV_iff.1 h1 i hi] at h;cases h
theorem OkG.ref{rows:List (List UInt8)}{m:Nat}(hr:∀ r∈rows,r.length≤500)(hm:m≤rows.length)(h5:m≤500)(hok:refOkV rows m=true){b:BP}(hb:b.bk=refB rows m):OkG b:=by
 have h1:=refB_in hm hok
 have h2:=refB_few hr m
 have h3:=refB_cnt rows m
 rw[← hb] at h1 h2 h3
 refine⟨h1.1,fun c hc x hx _=>?_,fun c hc x hx _=>?_,?_⟩
 ·exact h1.2 c.c (List.mem_map.2 ⟨c,hc,rfl⟩) x.ln (List.mem_map.2 ⟨x,hx,rfl⟩)
 ·exact h2 c.c (List.mem_map.2 ⟨c,hc,rfl⟩) x.ln (List.mem_map.2 ⟨x,hx,rfl⟩)
 ·unfold cntR at h3
  have h4:(rowsV b.bk).length=(b.bk.copies.flatMap copyRows).length+1:=rfl
  omega
end Go.Den.Ve
end
section
namespace Go.Den.Ve
def RefRd (s:List UInt8) (st:St) (v:PV) (st':St):Prop :=
 (v = .tuple [.agg [iv 0,.nilslice],.bool false]∧refV s=none∧Keep st st') ∨
 (∃ n:Int,refV s=some ⟨n,[]⟩∧v = .tuple [.agg [iv n,.nilslice],.bool true]∧Keep st st') ∨
 ∃ (b:BP) (t:Nat),refV s=some b.bk∧OkG b∧v = .tuple [.agg [iv b.words,.hslice t 1 b.cs.length],.bool true]∧hp st' t=some (.arr (b.cs.map CP.v))∧Keep st st'
theorem headD_getB{l:List (List UInt8)}(h:0<l.length):l.headD []=l[0]:=by
 cases l with
 | nil=>simp at h
 | cons x l=>rfl
set_option maxHeartbeats 32000000 in
theorem c78(s:List UInt8)(hs:s.length≤500)(st:St):ClR EE (.func 78 [] []) [.str (toB s)] st (RefRd s st):=by
 have hpm:=splitL_mem 10 500 [] s (by simpa using hs)
 have hps:=splitL_len 10 [] s
 have hpp:=splitL_pos 10 s []
 have k127:∀ st,ClR EE (.func 127 [] []) [.str (toB s),.int .u8 10] st (RetS st 1 (splitL 10 [] s).length ((splitL 10 [] s).flatMap encS)):=c127 s 10 (by omega)
 have fin:∀ (S:St),st.heap.length≤S.lo→refV s=none→RefRd s st (finishCall st S (.tuple [.agg [iv 0,.nilslice],.bool false])).1 (finishCall st S (.tuple [.agg [iv 0,.nilslice],.bool false])).2:=by
  intro S hl h
  rw[finish_tuple hl (by rfl)]
  exact .inl ⟨rfl,h,.refl _,rfl⟩
 refine cG1 pr78 fn78 (fun tm hl h0=>?_)
 refine go2 (bw hl h0) fnil ?_
 refine cR (bw hl h0) (k127 _) ?_
 intro V S1 hR1
 have q1:=hR1.lo
 have q2:=hR1.len
 try simp only[lo_push,len_push] at q1 q2
 have a0:=hR1.hp (l:=st.heap.length) (o := .var [iv 0,.nilslice]) (sG fnil)
 have a1:=hR1.hp (l:=st.heap.length+1) (o := .var [iv 0,.nilslice]) (sG fnil)
 have hV:=slS hR1
 have hVs:=hV.slen
 have hwn:IntKind.wrap .i64 (((splitL 10 [] s).length:Int) - 2)=((splitL 10 [] s).length:Int) - 2:=wrap_in (by unfold inI;omega)
 have hx1:HExt st.heap S1.heap:=(HExt.push (⟨st.heap,st.heap.length⟩:St) _).trans ((HExt.push _ _).trans hR1.w.hext)
 have hrp:refV s=if refOkV (splitL 10 [] s) ((splitL 10 [] s).length - 2)&&(textV (refB (splitL 10 [] s) ((splitL 10 [] s).length - 2))==s) then some (refB (splitL 10 [] s) ((splitL 10 [] s).length - 2)) else none:=rfl
 have hno:∀ i,i<(splitL 10 [] s).length - 2→rowOk i ((splitL 10 [] s).getD i [])=false→refV s=none:=fun i h1 h2=>refV_no h1 h2
 generalize splitL 10 [] s=rows at hV hVs hwn hrp hno hpm hps hpp
 have hpl:∀ r∈rows,r.length≤500:=fun r hr=>by have:=hpm r hr;omega
 refine go2 hl fnil ?_
 refine wp_for [6] (fun i vs S=>vs=[iv i]∧i≤rows.length - 2∧(∀ j<i,rowOk j (rows.getD j [])=true)∧hp S st.heap.length=some (.var [iv 0,.nilslice])∧RepC (st.heap.length+2) (st.heap.length+1) (refB rows i).words (refB rows i).copies S∧st.heap.length+2≤S.heap.length∧HExt st.heap S.heap∧st.heap.length≤S.lo∧S.lo≤S.heap.length) (fun i=>rows.length - 2 - i) ⟨(sR hl),Nat.zero_le _,(fun j hj=>absurd hj (by omega)),a0,.inl ⟨rfl,a1⟩,by omega,hx1,by omega,by omega⟩ ?_
 clear a0 a1 hx1 q1 q2 hR1
 rintro i tm1 S ⟨hv,hi,hok,a0,hRC,hge,hx,hlo,hwf⟩ hS
 replace hv:=mv1 hv
 have hl1:tm1.length=102:=lN hS hl;have i0:tg tm1 0 = .str (toB s):=tQ hS (bw hl h0);have i2:tg tm1 2 = .ptr st.heap.length 0:=tQ hS (bw hl h0);have i4:tg tm1 4 = .ptr (st.heap.length+1) 0:=tQ hS (bw hl h0);have i5:tg tm1 5=V:=tQ hS (bw hl h0);clear hS
 have m0:=hp_lt a0
 refine go2 (bw5 hl1 hv i5 hVs hwn) fnil ?_
 refine⟨decide ((i:Int)<(rows.length:Int) - 2),(sG hl1),fun hb=>?_,fun hb1=>?_⟩
 ·have hlt:=of_decide_eq_false hb
  obtain rfl:i=rows.length - 2:=by omega
  have hro:=refOkV_iff.2 hok
  rw[hro,Bool.true_and] at hrp
  have hG:∀ {b:BP},b.bk=refB rows (rows.length - 2)→OkG b:=fun h=>OkG.ref hpl (by omega) (by omega) hro h
  generalize refB rows (rows.length - 2)=bk at hrp hG hRC
  obtain⟨n,cs⟩:=bk
  rcases hRC with ⟨rfl,hC⟩|⟨pre,c,vp,v,t,rfl,hC,hmt,hA,hRp,hOw⟩
  ·have mC:=hp_lt hC
   have hP:OkG ⟨n,.nilslice,[],.nil⟩:=hG rfl
   have k76:=fun st=>c76G ⟨n,.nilslice,[],.nil⟩ hP st
   have e0:(⟨n,.nilslice,[],.nil⟩:BP).bk=⟨n,[]⟩:=rfl
   rw[e0] at k76
   cases hE:(textV ⟨n,[]⟩==s)
   ·rw[hE] at hrp
    refine go2 (bw9 hl1 i0 i2 i4 a0 (n4 m0) m0 hC hE) (bw k76 fnil) ?_
    refine fnr_ret (v := .tuple [.agg [iv 0,.nilslice],.bool false]) (results_two ?_ ?_) (fin _ (by simp only[lo_setVar];omega) hrp)
    ·rw[rdRes_hp (l:=st.heap.length) (off:=0) (sG (bw hl1 i2))]
     simp only[↓reduceIte,go_sem,hl1,m0];first|done|rfl
    ·rw[rdRes_tmp];simp only[↓reduceIte,go_sem,hl1];first|done|rfl
   ·rw[hE] at hrp
    refine go2 (bw9 hl1 i0 i2 i4 a0 (n4 m0) m0 hC hE) (bw k76 fnil) ?_
    refine fnr_ret (v := .tuple [.agg [iv n,.nilslice],.bool true]) (results_two ?_ ?_) ?_
    ·rw[rdRes_hp (l:=st.heap.length) (off:=0) (sG (bw hl1 i2))]
     simp only[↓reduceIte,go_sem,hl1,m0];first|done|rfl
    ·rw[rdRes_tmp];simp only[↓reduceIte,go_sem,hl1];first|done|rfl
    ·rw[finish_tuple (by simp only[lo_setVar];omega) (by rfl)]
     exact .inr (.inl ⟨n,hrp,rfl,.refl _,rfl⟩)
  ·have mC:=hp_lt hC
   have mA:=hp_lt hA
   have hRs:=hRp.snoc hOw.sl
   obtain⟨bs,hbv,hbc⟩:=hRs.cps
   have hbl:bs.length=(pre++[c]).length:=by rw[← hbc,List.length_map]
   obtain⟨b,rfl,rfl,hbw⟩:∃ b:BP,b.cs=bs∧b.words=n∧b.bk=⟨n,pre++[c]⟩:=⟨⟨n,.slice .shared bs.length (bs.flatMap encCP),bs,⟨rfl,fun _ _=>rfl⟩⟩,rfl,rfl,by rw[← hbc]⟩
   have hP:OkG b:=hG hbw
   rw[← hbv] at hA
   rw[← hbl] at hC
   rw[← hbw] at hrp
   have k76:=fun st ha=>c76H b hP t st ha
   have k1:=k76 S hA
   cases hE:(textV b.bk==s)
   ·rw[hE] at hrp
    refine go2 (bw9 hl1 i0 i2 i4 a0 (n4 m0) m0 hC hE) (bw k1 fnil) ?_
    refine fnr_ret (v := .tuple [.agg [iv 0,.nilslice],.bool false]) (results_two ?_ ?_) (fin _ (by simp only[lo_setVar];omega) hrp)
    ·rw[rdRes_hp (l:=st.heap.length) (off:=0) (sG (bw hl1 i2))]
     simp only[↓reduceIte,go_sem,hl1,m0];first|done|rfl
    ·rw[rdRes_tmp];simp only[↓reduceIte,go_sem,hl1];first|done|rfl
   ·rw[hE] at hrp
    refine go2 (bw9 hl1 i0 i2 i4 a0 (n4 m0) m0 hC hE) (bw k1 fnil) ?_
    refine fnr_ret (v := .tuple [.agg [iv b.words,.hslice t 1 b.cs.length],.bool true]) (results_two ?_ ?_) ?_
    ·rw[rdRes_hp (l:=st.heap.length) (off:=0) (sG (bw hl1 i2))]
     simp only[↓reduceIte,go_sem,hl1,m0];first|done|rfl
    ·rw[rdRes_tmp];simp only[↓reduceIte,go_sem,hl1];first|done|rfl
    ·rw[finish_hold (by omega) (by simp only[lo_setVar];omega)]
     refine .inr (.inr ⟨b,t,hrp,hP,rfl,?_,hx.setVar (Nat.le_refl _),rfl⟩)
     show hp (setVar S st.heap.length _) t=_
     rw[hp_setVar,if_neg (by omega)];exact hA
 have hlt:i<rows.length - 2:=by have:=of_decide_eq_true hb1;omega
 have hir:i<rows.length:=by omega
 have hw1:=wS i (by omega)
 have hrl:=hpl _ (List.getElem_mem hir)
 have hrg:rows.getD i []=rows[i]:=by rw[List.getD_eq_getElem?_getD,List.getElem?_eq_getElem hir];rfl
 have k127r:∀ st,ClR EE (.func 127 [] []) [.str (toB rows[i]),.int .u8 32] st (RetS st 1 (splitL 32 [] rows[i]).length ((splitL 32 [] rows[i]).flatMap encS)):=c127 rows[i] 32 (by omega)
 refine⟨by omega,?_⟩
 refine go2 (bw3 hl1 hv i5) fnil ?_
 refine cR hl1 (k127r _) ?_
 intro V2 S2 hR2
 have x1:=hR2.lo
 have x2:=hR2.len
 have hV2:=slS hR2
 have hsp:=splitL_pos 32 rows[i] []
 have hwl:=splitL_len 32 [] rows[i]
 have hwm:=splitL_mem 32 500 [] rows[i] (by simpa using hrl)
 refine go2 hl1 fnil ?_
 refine wops_slice rfl rfl (sR hl1) hV2 (m:=(splitL 32 [] rows[i]).length) (n:=1) (by rfl) (by rfl) (by omega) (Nat.le_refl _) ?_
 intro V3 hV3
 have e3:((splitL 32 [] rows[i]).drop 1).take ((splitL 32 [] rows[i]).length - 1)=wordsL rows[i]:=by unfold wordsL;rw[List.drop_one,List.take_of_length_le (by simp)]
 rw[e3] at hV3
 have hwt:∀ w∈wordsL rows[i],w.length≤1000:=fun w hw=>by
  have:=hwm w (List.mem_of_mem_tail hw)
  omega
 have hwtl:(wordsL rows[i]).length≤500:=by unfold wordsL;rw[List.length_tail];omega
 obtain⟨ns,b,hN,hb0,kN⟩:=c128 V3 (wordsL rows[i]) hV3 hwt (by omega)
 refine go2 hl1 fnil ?_
 refine cR hl1 (kN _) ?_
 rintro u S3 ⟨P,rfl,hP,hPsh,hK3⟩
 have x3:=hK3.2
 have x4:=hK3.len
 have hPs:=hP.slen
 have hPc:=hP.cells
 have hPi:=hP.isCell
 have hnl:ns.length≤500:=by
  cases b with
  | false=>rw[hb0 rfl];simp
  | true=>have:=(hN.2 rfl).1;omega
 have hx3:HExt S.heap S3.heap:=hR2.w.hext.trans hK3.1
 have d0:=hx3.hp a0
 have n0:=hp_lt d0
 have hRC3:RepC (st.heap.length+2) (st.heap.length+1) (refB rows i).words (refB rows i).copies S3:=by
  rcases hRC with ⟨e,hC⟩|⟨pre,c,vp,v,t,e,hC,hmt,hA,hRp,hOw⟩
  ·exact .inl ⟨e,hx3.hp hC⟩
  ·exact .inr ⟨pre,c,vp,v,t,e,hx3.hp hC,hmt,hx3.hp hA,hRp,own_hext hOw hx3⟩
 have hx9:HExt st.heap S3.heap:=hx.trans hx3
 clear hRC
 refine go2 hl1 fnil ?_
 refine wp_for [10,9] (fun k vs Z=>vs=[iv k,.bool (b&&allP ns k)]∧k≤ns.length∧Z=S3) (fun k=>ns.length - k) ⟨by simp only[↓reduceIte,go_sem,hl1];cases b <;> first|done|rfl,Nat.zero_le _,rfl⟩ ?_
 rintro k tm2 Z ⟨hv2,hk,rfl⟩ hS
 obtain⟨hv10,hv9⟩:=mv2 hv2
 have hl2:tm2.length=102:=lN hS hl1;have j0:tg tm2 0 = .str (toB s):=tQ hS (bw6 hl1 i0 i2 i4 i5 hv);have j2:tg tm2 2 = .ptr st.heap.length 0:=tQ hS (bw6 hl1 i0 i2 i4 i5 hv);have j4:tg tm2 4 = .ptr (st.heap.length+1) 0:=tQ hS (bw6 hl1 i0 i2 i4 i5 hv);have j5:tg tm2 5=V:=tQ hS (bw6 hl1 i0 i2 i4 i5 hv);have j6:tg tm2 6=iv i:=tQ hS (bw6 hl1 i0 i2 i4 i5 hv);have j7:tg tm2 7=V2:=tQ hS (bw6 hl1 i0 i2 i4 i5 hv);have j8:tg tm2 8=P:=tQ hS (bw6 hl1 i0 i2 i4 i5 hv);clear hS
 refine go2 (bw4 hl2 hv10 j8 hPs) fnil ?_
 refine⟨decide ((k:Int)<ns.length),(sG hl2),fun hb2=>?_,fun hb3=>?_⟩
 rotate_left
 ·have hltk:k<ns.length:=by have:=of_decide_eq_true hb3;omega
  have hw2:=wS k (by omega)
  have hsu:=allP_succ hltk
  refine⟨by omega,?_⟩
  cases hbk:(b&&allP ns k)
  ·rw[hbk] at hv9
   have e:(b&&allP ns (k+1))=false:=by rw[hsu,← Bool.and_assoc,hbk];rfl
   refine go2 (bw5 hl2 hv10 hv9 j8 hw2) fnil ?_
   exact⟨(sG (bw hl2 e)),by omega,rfl⟩
  ·rw[hbk] at hv9
   have e:(b&&allP ns (k+1))=decide (ns[k]≥0):=by rw[hsu,← Bool.and_assoc,hbk,Bool.true_and]
   refine go2 (bw5 hl2 hv10 hv9 j8 hw2) fnil ?_
   exact⟨(sG (bw hl2 e)),by omega,rfl⟩
 have hltk:=of_decide_eq_false hb2
 obtain rfl:k=ns.length:=by omega
 rw[nums_ok hN] at hv9
 clear hb2 hltk hk
 have hbad:rowOk i rows[i]=false→refV s=none:=fun h=>hno i hlt (by rw[hrg];exact h)
 have hnum:(wordsL rows[i]).all numB=true→ns=rowNs rows[i]∧ns.length=(wordsL rows[i]).length:=fun h=>by
  have hb:=hN.1 h
  exact⟨(hN.2 hb).2.1 h,(hN.2 hb).1⟩
 cases hw:(wordsL rows[i]).all numB
 ·rw[hw] at hv9
  have hr:=hbad (by unfold rowOk;rw[hw];rfl)
  refine go2 (bw6 hl2 hv9 j2 d0 (n4 n0) n0) fnil ?_
  refine fnr_ret (v := .tuple [.agg [iv 0,.nilslice],.bool false]) (results_two ?_ ?_) (fin _ (by simp only[lo_setVar];omega) hr)
  ·rw[rdRes_hp (l:=st.heap.length) (off:=0) (sG (bw hl2 j2))]
   simp only[↓reduceIte,go_sem,hl2,n0];first|done|rfl
  ·rw[rdRes_tmp];simp only[↓reduceIte,go_sem,hl2];first|done|rfl
 obtain⟨hns,hnl2⟩:=hnum hw
 rw[hw] at hv9
 by_cases hi0:i=0
 ·have z1:((i:Int)==0)=true:=by rw[hi0];rfl
  cases z3:((ns.length:Int) != 1)
  case true =>
   have hr:=hbad (by unfold rowOk;rw[hw,Bool.true_and,← hnl2,decide_eq_false (by omega:¬ i≠0),Bool.false_or,decide_eq_false_iff_not];intro h;rw[h] at z3;cases z3)
   refine go2 (bw11 hl2 hv9 j2 j6 j8 hPs d0 (n4 n0) n0 z1 z3) fnil ?_
   refine fnr_ret (v := .tuple [.agg [iv 0,.nilslice],.bool false]) (results_two ?_ ?_) (fin _ (by simp only[lo_setVar];omega) hr)
   ·rw[rdRes_hp (l:=st.heap.length) (off:=0) (sG (bw hl2 j2))]
    simp only[↓reduceIte,go_sem,hl2,n0];first|done|rfl
   ·rw[rdRes_tmp];simp only[↓reduceIte,go_sem,hl2];first|done|rfl
  have hn1:ns.length=1:=by have:=bne_eq_false_iff_eq.1 z3;omega
  have hrow:rowOk i rows[i]=true:=by unfold rowOk;rw[hw,← hnl2,hn1];simp
  subst hi0
  rw[refB_zero] at hRC3
  rcases hRC3 with ⟨_,hC⟩|⟨pre,c,vp,v,t,e,_⟩
  ·have mC:=hp_lt hC
   have zl:IntKind.wrap .i64 ((0:Int) - 1) = -1:=by decide
   have zl2:IntKind.wrap .i64 (((0:Nat):Int) - 1) = -1:=by decide
   have hn0:0<ns.length:=by omega
   have e0:rows.getD 0 []=rows[0]:=hrg
   refine go2 (bw15 hl2 hv9 j2 j4 j6 j8 hPs hC (n4 mC) mC z1 z3 zl zl2 hw1) fnil ?_
   refine⟨(sG hl2),by omega,fun j hj=>?_,by rw[hp_setVar,if_neg (by omega)];exact d0,.inl ⟨by rw[refB_one],?_⟩,by rw[len_setVar];omega,hx9.setVar (by omega),by rw[lo_setVar];omega,by rw[lo_setVar,len_setVar];omega⟩
   ·rw[show j=0 by omega,hrg];exact hrow
   ·rw[hp_setVar,if_pos rfl,if_pos mC,refB_one,e0,← hns,List.getD_eq_getElem?_getD,List.getElem?_eq_getElem hn0];rfl
  ·simp at e
 ·have z1:((i:Int)==0)=false:=by rw[beq_eq_false_iff_ne];omega
  have hrow:rowOk i rows[i]=true:=by unfold rowOk;rw[hw,decide_eq_true hi0];rfl
  have hBs:=refB_succ hir hi0
  have hcnt:=refB_cnt rows i
  have hok':∀ j<i+1,rowOk j (rows.getD j [])=true:=fun j hj=>by
   by_cases hji:j=i
   ·rw[hji,hrg];exact hrow
   ·exact hok j (by omega)
  have hrl5:rows.length≤501:=by omega
  obtain⟨hd,hde⟩:∃ hd,hd=headW rows[i]:=⟨_,rfl⟩
  have hhd:(splitL 32 [] rows[i])[0]'(by omega)=hd:=by rw[hde];exact (headD_getB (by omega)).symm
  have hV20:0<(splitL 32 [] rows[i]).length:=by omega
  have zn:decide ((-1:Int)≥0)=false:=rfl
  have zl:IntKind.wrap .i64 ((0:Int) - 1) = -1:=by decide
  have zl2:IntKind.wrap .i64 (((0:Nat):Int) - 1) = -1:=by decide
  have m1:st.heap.length+1<Z.heap.length:=by
   rcases hRC3 with ⟨_,hC⟩|⟨_,_,_,_,_,_,hC,_⟩ <;> exact hp_lt hC
  generalize refB rows i=bk at hBs hcnt hRC3
  obtain⟨n,cs⟩:=bk
  simp only at hBs hcnt hRC3
  rw[hBs]
  have hcl:=cntR_len cs
  have lc:({ data:=#[99,111,112,121] }:ByteArray)=toB copyW:=rfl
  have ll:({ data:=#[108,111,115,116] }:ByteArray)=toB lostW:=rfl
  cases hcp:(hd==copyW)
  ·have hncp:¬ headW rows[i]=copyW:=by rw[← hde];intro h;rw[h] at hcp;simp at hcp
   rcases hRC3 with ⟨rfl,hC⟩|⟨pre,c,vp,v,t,rfl,hC,hmt,hA,hRp,hOw⟩
   ·have hst:refStep [] rows[i]=[]:=by unfold refStep;rw[if_neg hncp,if_pos rfl]
    refine go2 (bw18 hl2 hv9 j2 j4 j6 j7 j8 hPs hC z1 zl zl2 hhd lc ll hcp zn hw1) fnil ?_
    exact⟨(sG hl2),by omega,hok',d0,.inl ⟨hst,hC⟩,by omega,hx9,by omega,by omega⟩
   ·have mA:=hp_lt hA
    have mC:=hp_lt hC
    have hcz:¬ (pre++[c])=[]:=by simp
    have hgt:decide (((pre.length:Nat):Int)≥0)=true:=by simp
    have hlast:IntKind.wrap .i64 ((((pre++[c]).length:Nat):Int) - 1)=((pre.length:Nat):Int):=by rw[wrap_in (by unfold inI;omega)];simp
    have hI:∀ st,idxR 1 (.hslice t 1 (pre++[c]).length) (.int .i64 ((pre.length:Nat):Int)) st=some (.val (.aptr t (pre.length*1)) st):=fun st=>by rw[idxR_h,if_pos (by simp)]
    have hll:=cntR_last pre c
    have hst:refStep (pre++[c]) rows[i]=pre++[c++[⟨hd==lostW,ns⟩]]:=by
     unfold refStep
     rw[if_neg hncp,if_neg hcz,addLn_snoc,← hde,← hns]
     have e:decide (hd=lostW)=(hd==lostW):=by rw[Bool.eq_iff_iff,decide_eq_true_iff,beq_iff_eq]
     rw[e]
    simp only[hst]
    refine go2 (bw19 hl2 hv9 j2 j4 j6 j7 j8 hPs hC z1 hlast hgt hhd lc ll hcp hw1 @op_indexAddrM hI) fnil ?_
    refine wopsD_ldA (v:=v) (cs:=vp++[v]) (off:=pre.length*1) (by omega) rfl rfl (sR hl2) hA (by simp[hRp.len]) (by rw[Nat.mul_one,← hRp.len,List.drop_left];rfl) ?_
    refine go2 (bw8 hl2 j7 j8 hhd ll hPc hPi hPsh) fnil ?_
    refine wopsD_append' (m:=st.heap.length+2) (by simp only[lo_push,len_push,lo_setVar,len_setVar];omega) rfl rfl (sR hl2) (sR hl2) hOw.push rfl (by simp only[lo_push,len_push,lo_setVar,len_setVar];omega) (by rfl) (by simp only[List.all_cons,List.all_nil,el_isCell,Bool.and_true];rfl) (by simp only[maxList];omega) ?_
    intro v' S5 ft hft hO5 hF5 hk5
    have y1:=hF5.lo
    have y2:=hF5.up
    have y3:=hF5.len
    simp only[lo_push,len_push,lo_setVar,len_setVar] at y1 y2 y3
    have hA5:=hk5 t _ (by rw[hp_push,if_neg (by omega)];exact hA) (by simp)
    have hC5:=hk5 (st.heap.length+1) _ (by rw[hp_push,if_neg (by omega)];exact hC) (by simp)
    have hL5:=hk5 st.heap.length _ (by rw[hp_push,if_neg (by omega)];exact d0) (by simp)
    have v1:=sl_cells hO5.sl
    have v2:=sl_isCell hO5.sl
    have mA5:=hp_lt hA5
    refine go2 (bw3 hl2 @op_indexAddrM hI) fnil ?_
    refine wopsD_setA (v:=v') (cs:=vp++[v]) (off:=pre.length*1) (by omega) rfl rfl (sR hl2) (sR hl2) v1 v2 hA5 (by simp[hRp.len]) ?_
    apply wopsD_nil
    refine⟨?_,?_⟩
    ·simp only[footOk,List.all_cons,List.all_nil,List.getElem?_cons_zero,List.getElem?_cons_succ,clash_q,hft _ (Nat.lt_succ_self _),Bool.not_false,Bool.and_self]
    ·refine go2 (bw3 hl2 j6 hw1) fnil ?_
     have hsp9:splice (vp++[v]) (pre.length*1) [v']=vp++[v']:=by rw[← hRp.len];exact splice_last
     have hsp8:List.take (pre.length*1) (vp++[v])++[v']++List.drop (pre.length*1+1) (vp++[v])=vp++[v']:=hsp9
     rw[hsp8]
     refine⟨(sG hl2),by omega,hok',by rw[hp_setVar,if_neg (by omega)];exact hL5,.inr ⟨pre,c++[⟨hd==lostW,ns⟩],vp,v',t,rfl,?_,hmt,by rw[hp_setVar,if_pos rfl,if_pos mA5],hRp,?_⟩,by rw[len_setVar];omega,?_,by rw[lo_setVar];omega,by rw[lo_setVar,len_setVar];omega⟩
     ·rw[hp_setVar,if_neg (by omega),hC5];simp
     ·have hO6:=hO5.setVar (l:=t) (o := .arr (vp++[v'])) (by rw[hA5];simp)
      rw[List.length_append,List.flatMap_append,List.flatMap_singleton]
      have e9:encLN ⟨hd==lostW,ns⟩=[.bool (hd==lostW),elL ns]:=rfl
      rw[e9]
      simpa[share_bool,el_share,hPsh] using hO6
     ·exact ((hx9.trans (HExt.push _ _)).fr (hF5.mono (by omega))).setVar (by omega)
  ·have hst:refStep cs rows[i]=cs++[[]]:=by unfold refStep;rw[if_pos (by rw[← hde];exact eq_of_beq hcp)]
   simp only[hst]
   rcases hRC3 with ⟨rfl,hC⟩|⟨pre,c,vp,v,t,rfl,hC,hmt,hA,hRp,hOw⟩
   ·refine go2 (bw18 hl2 hv9 j2 j4 j6 j7 j8 hPs hC z1 zl zl2 hhd lc ll hcp zn hw1) fnil ?_
    refine wops_appendH (m:=st.heap.length+2) (n:=0) rfl rfl (sR hl2) (sR hl2) (⟨rfl,.inl ⟨rfl,rfl⟩⟩:OwnH (st.heap.length+2) _ 1 .nilslice 0 []) rfl (by simp only[len_push];omega) (by decide) (by rfl) (by rfl) (by simp only[maxList];omega) ?_
    intro Z2 hA2 hln hF2 hk2
    have e0:=hk2 _ _ (by rw[hp_push,if_neg (by omega)];exact hC:hp (Z.push (.tag true)) (st.heap.length+1)=some (.var [iv n,.nilslice])) rfl
    have eL:=hk2 _ _ (by rw[hp_push,if_neg (by omega)];exact d0:hp (Z.push (.tag true)) st.heap.length=some (.var [iv 0,.nilslice])) rfl
    have y1:=hF2.lo
    have y2:=hF2.up
    simp only[lo_push,len_push] at y1 y2 hln hA2
    have le0:=hp_lt e0
    refine go2 (bw6 hl2 j4 j6 e0 (n4 le0) hw1) fnil ?_
    refine⟨(sG hl2),by omega,hok',by rw[hp_setVar,if_neg (by omega)];exact eL,.inr ⟨[],[],[],.nilslice,Z.heap.length+1,rfl,?_,by omega,?_,.nil,.nil⟩,by rw[len_setVar];omega,?_,by rw[lo_setVar];omega,by rw[lo_setVar,len_setVar];omega⟩
    ·rw[hp_setVar,if_pos rfl,if_pos le0];rfl
    ·rw[hp_setVar,if_neg (by omega)];exact hA2
    ·exact ((hx9.trans (HExt.push Z _)).fr (hF2.mono (by omega))).setVar (by omega)
   ·have mA:=hp_lt hA
    refine go2 (bw18 hl2 hv9 j2 j4 j6 j7 j8 hPs hC z1 zl zl2 hhd lc ll hcp zn hw1) fnil ?_
    refine wops_appendH (m:=st.heap.length+2) (n:=(pre++[c]).length) rfl rfl (sR hl2) (sR hl2) (⟨by simp[hRp.len],.inr ⟨t,rfl,hmt,by rw[hp_push,if_neg (by omega)];exact hA⟩⟩:OwnH (st.heap.length+2) _ 1 (.hslice t 1 (pre++[c]).length) (pre++[c]).length (vp++[v])) rfl (by simp only[len_push];omega) (by decide) (by rfl) (by rfl) (by simp only[maxList];omega) ?_
    intro Z2 hA2 hln hF2 hk2
    have e0:=hk2 _ _ (by rw[hp_push,if_neg (by omega)];exact hC:hp (Z.push (.tag true)) (st.heap.length+1)=some (.var [iv n,.hslice t 1 (pre++[c]).length])) rfl
    have eL:=hk2 _ _ (by rw[hp_push,if_neg (by omega)];exact d0:hp (Z.push (.tag true)) st.heap.length=some (.var [iv 0,.nilslice])) rfl
    have y1:=hF2.lo
    have y2:=hF2.up
    simp only[lo_push,len_push] at y1 y2 hln hA2
    have le0:=hp_lt e0
    refine go2 (bw6 hl2 j4 j6 e0 (n4 le0) hw1) fnil ?_
    refine⟨(sG hl2),by omega,hok',by rw[hp_setVar,if_neg (by omega)];exact eL,.inr ⟨pre++[c],[],vp++[v],.nilslice,Z.heap.length+1,rfl,?_,by omega,?_,hRp.snoc hOw.sl,.nil⟩,by rw[len_setVar];omega,?_,by rw[lo_setVar];omega,by rw[lo_setVar,len_setVar];omega⟩
    ·rw[hp_setVar,if_pos rfl,if_pos le0];simp
    ·rw[hp_setVar,if_neg (by omega)];exact hA2
    ·exact ((hx9.trans (HExt.push Z _)).fr (hF2.mono (by omega))).setVar (by omega)
end Go.Den.Ve
end

/- Part of the proofs of laws of the package version. Texts: VtB, VtC. -/
import Derived.Test.YtehdcjbdhkkipaaGreatDoorVMAv
set_option linter.unusedSimpArgs false
set_option linter.unusedVariables false
section
namespace Go.Den.Ve
structure OkP (b:BP):Prop where
 w:0≤b.words∧b.words<100
 n:∀ c∈b.cs,∀ x∈c.ls,x.lost=false→∀ n∈x.l,0≤n∧n<100
 rows:(rowsV b.bk).length≤450
 row:∀ r∈rowsV b.bk,r.length≤700
theorem rowL_ge(w:List UInt8)(ns:List Int):w.length+ns.length≤(rowL w ns).length:=by
 unfold rowL
 induction ns generalizing w with
 | nil=>simp
 | cons n ns ih =>
  have:=ih (w++(32::itoaL n.toNat))
  simp only[List.foldl_cons,List.length_append,List.length_cons] at this ⊢
  omega
def rowsK (b:BK) (k:Nat):List (List UInt8):=rowL bookW [b.words]::(b.copies.take k).flatMap copyRows
theorem rowsK_succ(b:BP){k:Nat}(hk:k<b.cs.length):rowsK b.bk (k+1)=rowsK b.bk k++copyRows b.cs[k].c:=by
 have hk':k<b.bk.copies.length:=by simpa using hk
 rw[rowsK,List.take_succ_eq_append_getElem hk',List.flatMap_append,rowsK,List.cons_append]
 simp
theorem rowsK_le(b:BK)(k:Nat):(rowsK b k).length≤(rowsV b).length:=by
 have:(b.copies.flatMap copyRows).length=((b.copies.take k).flatMap copyRows).length+((b.copies.drop k).flatMap copyRows).length:=by
  rw[← List.length_append,← List.flatMap_append,List.take_append_drop]
 simp only[rowsK,rowsV,List.length_cons]
 omega
theorem OkP.cs{b:BP}(h:OkP b):b.cs.length≤450:=by
 have h1:∀ cs:List (List LN),cs.length≤(cs.flatMap copyRows).length:=fun cs=>by
  induction cs with
  | nil=>simp
  | cons c cs ih=>simp only[List.flatMap_cons,List.length_append,List.length_cons,copyRows] at ih ⊢;omega
 have h2:=h1 b.bk.copies
 have h3:=h.rows
 simp only[rowsV,List.length_cons,List.length_map] at h2 h3
 omega
theorem OkP.ls{b:BP}(h:OkP b){c:CP}(hc:c∈b.cs):c.ls.length≤450:=by
 have h1:(copyRows c.c).length≤(b.bk.copies.flatMap copyRows).length:=by
  have:∀ cs:List (List LN),c.c∈cs→(copyRows c.c).length≤(cs.flatMap copyRows).length:=fun cs=>by
   induction cs with
   | nil=>intro h;cases h
   | cons d cs ih =>
    intro h
    simp only[List.flatMap_cons,List.length_append]
    rcases List.mem_cons.1 h with rfl|h
    ·omega
    ·have:=ih h;omega
  exact this _ (List.mem_map.2 ⟨c,hc,rfl⟩)
 have h3:=h.rows
 simp only[rowsV,copyRows,List.length_cons,List.length_map] at h1 h3
 omega
theorem OkP.l{b:BP}(h:OkP b){c:CP}(hc:c∈b.cs){x:LP}(hx:x∈c.ls)(hl:x.lost=false):x.l.length≤700:=by
 have h1:=h.row (lnRow x.ln) (by
  rw[rowsV]
  refine List.mem_cons_of_mem _ (List.mem_flatMap.2 ⟨c.c,List.mem_map.2 ⟨c,hc,rfl⟩,?_⟩)
  exact List.mem_cons_of_mem _ (List.mem_map.2 ⟨x.ln,List.mem_map.2 ⟨x,hx,rfl⟩,rfl⟩))
 have h2:lnRow x.ln=rowL lineW x.l:=by simp[lnRow,hl]
 have:=rowL_ge lineW x.l
 rw[h2] at h1
 omega
theorem rowSum_b{i:Nat}{r:List UInt8}(hi:i≤450):∀ k,k≤700→rowSum i r k≤k*81000000
 | 0,_=>by simp[rowSum]
 | k+1,hk=>by
  have:=rowSum_b (i:=i) (r:=r) hi k (by omega)
  have hb:(r.getD k 0).toNat≤255:=by have:=(r.getD k 0).toNat_lt;omega
  have h1:(r.getD k 0).toNat*(k+1)≤255*700:=Nat.mul_le_mul hb (by omega)
  have h2:(r.getD k 0).toNat*(k+1)*(i+1)≤255*700*451:=Nat.mul_le_mul h1 (by omega)
  simp only[rowSum]
  omega
theorem allSum_b{rows:List (List UInt8)}(h:∀ r∈rows,r.length≤700):∀ i,i≤450→allSum rows i≤i*56700000000
 | 0,_=>by simp[allSum]
 | i+1,hi=>by
  have h0:=allSum_b h i (by omega)
  have hl:(rows.getD i []).length≤700:=by
   rw[List.getD_eq_getElem?_getD]
   cases hr:rows[i]? with
   | none=>simp
   | some r=>exact h r (List.mem_of_getElem? hr)
  have h1:=rowSum_b (i:=i) (r:=rows.getD i []) (by omega) _ hl
  have h2:(rows.getD i []).length*81000000≤700*81000000:=Nat.mul_le_mul_right _ hl
  simp only[allSum]
  omega
set_option maxHeartbeats 8000000 in
theorem c121(b:BP)(hP:OkP b)(st:St):Cl EE (.func 121 [] []) [b.pv] st (.ret (.str (toB (textV b.bk)))) st:=by
 have hB:=b.h
 have hc4:=hP.cs
 have k1:=fun st=>c151h b.words hP.w st
 refine cF1 pr121 fn121 (fun tm hl h0=>?_)
 refine go2 (bw hl h0) (bw k1 fnil) ?_
 refine wp_range b.cs.length [3] (fun k vs st'=>∃ v,vs=[v]∧OwnS st.heap.length st' 1 v (rowsK b.bk k).length ((rowsK b.bk k).flatMap encS)∧hp st' st.heap.length=some (.var [iv b.words,b.v])∧st.heap.length≤st'.lo∧st'.lo≤st'.heap.length) (by omega) (sG hl) (sG hl) (sG hl) (by decide) ⟨_,(sR hl),⟨by simp[rowsK,encS],.inr ⟨st.heap.length+1,by simp[rowsK,encS],by omega,(sG fnil)⟩⟩,(sG fnil),by simp[lo_push],by simp only[lo_push,len_push];omega⟩ ?_ ?_
 ·rintro k hk tm1 st1 ⟨v,hv,hO,d0,hlo,hwf⟩ hS hka
  replace hv:=mv1 hv
  have hl1:tm1.length=100:=lN hS hl;have j18:tg tm1 18=b.v:=tQ hS hl;clear hS
  have hC:=b.cs[k].h
  have hcl:=hP.ls (List.getElem_mem hk)
  have hks:=rowsK_succ b hk
  have hkl:=rowsK_le b.bk (k+1)
  have hrr:=hP.rows
  have hkl2:(rowsK b.bk k).length+(b.cs[k].ls.length+1)≤450:=by rw[hks,List.length_append] at hkl;simp[copyRows] at hkl;omega
  refine go2 (bw3 hl1 j18 hka) (bw c151s fnil) ?_
  refine aP (bw hl1 hv) (hO.push) ?_
  intro v1 s2 hO2 hF2 hk2
  have y1:=hF2.lo
  have y2:=hF2.up
  have y3:=hF2.len
  simp only[lo_push,len_push] at y1 y2 y3
  have e0:hp s2 st.heap.length=some (.var [iv b.words,b.v]):=hk2 _ _ (by rw[hp_push,if_neg (by have:=hp_lt d0;omega)];exact d0) (by simp)
  refine go2 hl1 fnil ?_
  refine wp_range b.cs[k].ls.length [3] (fun q vs s'=>∃ u,vs=[u]∧OwnS st.heap.length s' 1 u (rowsK b.bk k++copyW::(b.cs[k].c.take q).map lnRow).length ((rowsK b.bk k++copyW::(b.cs[k].c.take q).map lnRow).flatMap encS)∧hp s' st.heap.length=some (.var [iv b.words,b.v])∧st.heap.length≤s'.lo∧s'.lo≤s'.heap.length) (by omega) (sG hl1) (sG hl1) (sG hl1) (by decide) ⟨v1,(sG hl1),by simpa[share_str,encS] using hO2,e0,by omega,by omega⟩ ?_ ?_
  ·clear hO d0 hlo hwf hO2 e0 y1 y2 y3
   rintro q hq tm2 s3 ⟨u,hu,hO,d0,hlo,hwf⟩ hS2 hqa
   replace hu:=mv1 hu
   have hl2:tm2.length=100:=lN hS2 hl1;have k30:tg tm2 30=b.cs[k].v:=tQ hS2 hl1;clear hS2
   have hqc:q<b.cs[k].c.length:=by simpa using hq
   have hqs:(b.cs[k].c.take (q+1)).map lnRow=(b.cs[k].c.take q).map lnRow++[lnRow b.cs[k].ls[q].ln]:=by rw[List.take_succ_eq_append_getElem hqc,List.map_append];simp
   have hO0:=own_new (z:=[.bool false,.nilslice]) (y:=[.bool b.cs[k].ls[q].lost,b.cs[k].ls[q].w]) hO
   have ld0:=hp_lt d0
   have hll:(rowsK b.bk k++copyW::(b.cs[k].c.take q).map lnRow).length≤450:=by simp only[List.length_append,List.length_cons,List.length_map,List.length_take];omega
   cases hlost:b.cs[k].ls[q].lost
   ·rw[hlost] at hO0
    have hn:=hP.n _ (List.getElem_mem hk) _ (List.getElem_mem hq) hlost
    have hnl:=hP.l (List.getElem_mem hk) (List.getElem_mem hq) hlost
    have kv:=fun st=>c151v b.cs[k].ls[q].w b.cs[k].ls[q].l b.cs[k].ls[q].h hn (by omega) st
    have hrow:lnRow b.cs[k].ls[q].ln=rowL lineW b.cs[k].ls[q].l:=by simp[lnRow,hlost]
    refine go2 (bw4 hl2 k30 hqa hlost) (bw kv fnil) ?_
    refine aP (bw hl2 hu) (hO0.push) ?_
    intro u' s4 hO4 hF4 hk4'
    have z1:=hF4.lo
    have z2:=hF4.up
    have z3:=hF4.len
    simp only[lo_push,len_push,lo_setVar,len_setVar] at z1 z2 z3
    refine go2 hl2 fnil ?_
    refine⟨u',(sG hl2),?_,hk4' _ _ (sG (bw d0 (n4 ld0))) (by simp),by omega,by omega⟩
    rw[hqs,hrow]
    simpa[share_str,encS,Nat.add_assoc] using hO4
   ·rw[hlost] at hO0
    have hrow:lnRow b.cs[k].ls[q].ln=lostW:=by simp[lnRow,hlost]
    refine go2 (bw4 hl2 k30 hqa hlost) (bw c151p fnil) ?_
    refine aP (bw hl2 hu) (hO0.push) ?_
    intro u' s4 hO4 hF4 hk4'
    have z1:=hF4.lo
    have z2:=hF4.up
    have z3:=hF4.len
    simp only[lo_push,len_push,lo_setVar,len_setVar] at z1 z2 z3
    refine go2 hl2 fnil ?_
    refine⟨u',(sG hl2),?_,hk4' _ _ (sG (bw d0 (n4 ld0))) (by simp),by omega,by omega⟩
    rw[hqs,hrow]
    simpa[share_str,encS,Nat.add_assoc] using hO4
  ·clear hO d0 hlo hwf hO2 e0 y1 y2 y3
   rintro tm2 s3 ⟨u,hu,hO,d0,hlo,hwf⟩ hS2
   replace hu:=mv1 hu
   have hl2:tm2.length=100:=by rw[hS2.1];simp only[↓reduceIte,go_sem,hl1]
   refine go2 hl2 fnil ?_
   refine⟨u,(sG (bw hl2 hu)),?_,d0,hlo,hwf⟩
   rw[hks,copyRows]
   rw[List.take_of_length_le (by simp)] at hO
   exact hO
 ·rintro tm1 st1 ⟨v,hv,hO,d0,hlo,hwf⟩ hS
  replace hv:=mv1 hv
  have hl1:tm1.length=100:=by rw[hS.1];simp only[↓reduceIte,go_sem,hl]
  have her:rowsK b.bk b.cs.length=rowsV b.bk:=by rw[rowsK,rowsV,List.take_of_length_le (by simp)]
  rw[her] at hO
  have hrows:=hP.row
  have hrl:=hP.rows
  have hab:=allSum_b hrows
  have ht:textV b.bk=sealL (rowsV b.bk) 197:=rfl
  rw[ht]
  generalize rowsV b.bk=R at hO hrows hrl hab
  have hV:SlOf 1 encS v R:=SlOf.of_sl hO.sl rfl rfl (fun _=>rfl)
  have hVs:=hV.slen
  refine go2 (bw3 hl1 hv hVs) fnil ?_
  refine wp_range R.length [8] (fun i vs st'=>vs=[iv (allSum R i)]∧st'=st1) (by omega) (sG hl1) (sG hl1) (sG hl1) (by decide) ⟨(sR hl1),rfl⟩ ?_ ?_
  ·rintro i hi tm2 st2 ⟨hv6,rfl⟩ hS hia
   replace hv6:=mv1 hv6
   have hl2:tm2.length=100:=lN hS hl1;have i53:tg tm2 53=v:=tQ hS (bw hl1 hv);clear hS
   have hri:=hrows _ (List.getElem_mem hi)
   have hgi:R.getD i []=R[i]:=by rw[List.getD_eq_getElem?_getD,List.getElem?_eq_getElem hi];rfl
   have habi:=hab i (by omega)
   refine go2 (bw3 hl2 i53 hia) fnil ?_
   refine wp_range R[i].length [8] (fun k vs st'=>vs=[iv ((allSum R i+rowSum i R[i] k:Nat):Int)]∧st'=st2) (by omega) (sG hl2) (sG hl2) (sG hl2) (by decide) ⟨(sR (bw hl2 hv6)),rfl⟩ ?_ ?_
   ·rintro k hk tm3 st3 ⟨hw6,rfl⟩ hS hka
    replace hw6:=mv1 hw6
    have hl3:tm3.length=100:=lN hS hl2;have k9:tg tm3 9=iv i:=tQ hS (bw hl2 hia);have k10:tg tm3 10 = .str (toB R[i]):=tQ hS (bw hl2 hia);clear hS
    have hgk:R[i].getD k 0=R[i][k]:=by rw[List.getD_eq_getElem?_getD,List.getElem?_eq_getElem hk];rfl
    have hix:=getElem?_toB R[i] k hk
    have hrb:=rowSum_b (i:=i) (r:=R[i]) (by omega) (k+1) (by omega)
    generalize hbd:R[i][k]=b at hix hgk
    have hb255:b.toNat<256:=b.toNat_lt
    have hk0:((0:Int)≤(k:Int))=True:=by simp
    have w46:IntKind.wrap .i64 (b.toNat:Int)=(b.toNat:Int):=wrap_nat (by omega)
    have w48:=wS k (by omega)
    have w51:=wS i (by omega)
    have b1:b.toNat*(k+1)≤255*701:=Nat.mul_le_mul (by omega) (by omega)
    have b2:b.toNat*(k+1)*(i+1)≤255*701*451:=Nat.mul_le_mul b1 (by omega)
    have w49:IntKind.wrap .i64 ((b.toNat:Int)*((k+1:Nat):Int))=((b.toNat*(k+1):Nat):Int):=by rw[← Int.natCast_mul];exact wrap_nat (by omega)
    have w52:IntKind.wrap .i64 (((b.toNat*(k+1):Nat):Int)*((i+1:Nat):Int))=((b.toNat*(k+1)*(i+1):Nat):Int):=by rw[← Int.natCast_mul];exact wrap_nat (by omega)
    have e53:allSum R i+rowSum i R[i] (k+1)=allSum R i+rowSum i R[i] k+b.toNat*(k+1)*(i+1):=by simp only[rowSum,hgk];omega
    have w53:IntKind.wrap .i64 (((allSum R i+rowSum i R[i] k:Nat):Int)+((b.toNat*(k+1)*(i+1):Nat):Int))=((allSum R i+rowSum i R[i] (k+1):Nat):Int):=by
     rw[← Int.natCast_add,← e53];exact wrap_nat (by omega)
    refine go2 (bw15 hl3 k9 k10 hka hw6 @op_indexStr hk0 Int.toNat_natCast hix w46 w48 w49 w51 w52 w53) fnil ?_
    exact⟨(sG hl3),rfl⟩
   ·rintro tm3 st3 ⟨hw6,rfl⟩ hS
    replace hw6:=mv1 hw6
    have hl3:tm3.length=100:=lN hS hl2;clear hS
    refine go2 hl3 fnil ?_
    refine⟨?_,rfl⟩
    simp only[↓reduceIte,go_sem,hl3,hw6]
    simp only[allSum,hgi]
  ·rintro tm2 st2 ⟨hv6,rfl⟩ hS
   replace hv6:=mv1 hv6
   have hl2:tm2.length=100:=lN hS hl1;have i3:tg tm2 3=v:=tQ hS (bw hl1 hv);clear hS
   have habn:=hab R.length (by omega)
   have er:endRow R 197=endW++itoaL (allSum R R.length % 197 / 100)++itoaL (allSum R R.length % 197 / 10 % 10)++itoaL (allSum R R.length % 197 % 10):=rfl
   generalize hAd:allSum R R.length=A at hv6 habn er
   have w57:Int.tmod (A:Int) 197=((A % 197:Nat):Int):=by rw[Int.natCast_emod];exact Int.tmod_eq_emod_of_nonneg (by omega)
   have hC:A % 197<197:=Nat.mod_lt _ (by omega)
   generalize hCd:A % 197=C at w57 hC er
   have w60:IntKind.wrap .i64 (Int.tdiv (C:Int) 100)=((C / 100:Nat):Int):=by rw[Int.tdiv_eq_ediv_of_nonneg (by omega)];exact wrap_nat (n:=C / 100) (by omega)
   have w64:IntKind.wrap .i64 (Int.tdiv (C:Int) 10)=((C / 10:Nat):Int):=by rw[Int.tdiv_eq_ediv_of_nonneg (by omega)];exact wrap_nat (n:=C / 10) (by omega)
   have w65:Int.tmod ((C / 10:Nat):Int) 10=((C / 10 % 10:Nat):Int):=by rw[Int.natCast_emod];exact Int.tmod_eq_emod_of_nonneg (by omega)
   have w69:Int.tmod (C:Int) 10=((C % 10:Nat):Int):=by rw[Int.natCast_emod];exact Int.tmod_eq_emod_of_nonneg (by omega)
   have hz:((197:Int)=0)=False:=by simp
   have hz2:((100:Int)=0)=False:=by simp
   have hz3:((10:Int)=0)=False:=by simp
   have q1:=fun st=>c152 ((C / 100:Nat):Int) (by omega) (by omega) st
   have q2:=fun st=>c152 ((C / 10 % 10:Nat):Int) (by omega) (by omega) st
   have q3:=fun st=>c152 ((C % 10:Nat):Int) (by omega) (by omega) st
   refine go2 (bw11 hl2 i3 hv6 w57 w60 w64 w65 w69 hz hz2 hz3) (bw4 q1 q2 q3 fnil) ?_
   have i1:=itoaL_len (C / 100)
   have i2:=itoaL_len (C / 10 % 10)
   have i4:=itoaL_len (C % 10)
   have i5:endW.length=4:=rfl
   refine wops_add (s:=endW) rfl rfl (sR hl2) (by simp only[↓reduceIte,go_sem,hl2,Int.toNat_natCast];first|done|rfl) (by first|omega|(simp only[List.length_append,List.length_cons,List.length_nil];omega)) ?_
   refine go2 (bw10 hl2 hv6 w57 w60 w64 w65 w69 hz hz2 hz3) (bw4 q1 q2 q3 fnil) ?_
   refine wops_add rfl rfl (sR hl2) (by simp only[↓reduceIte,go_sem,hl2,Int.toNat_natCast];first|done|rfl) (by first|omega|(simp only[List.length_append,List.length_cons,List.length_nil];omega)) ?_
   refine go2 (bw10 hl2 hv6 w57 w60 w64 w65 w69 hz hz2 hz3) (bw4 q1 q2 q3 fnil) ?_
   refine wops_add rfl rfl (sR hl2) (by simp only[↓reduceIte,go_sem,hl2,Int.toNat_natCast];first|done|rfl) (by first|omega|(simp only[List.length_append,List.length_cons,List.length_nil];omega)) ?_
   refine go2 hl2 fnil ?_
   have erl:(endRow R 197).length≤10:=by rw[er];simp[endW];omega
   rw[← er]
   generalize hRd:endRow R 197=E at erl
   have ht:sealL R 197=List.intercalate [10] (R++[E])++[10]:=by rw[sealL,hRd]
   rw[ht]
   refine aP hl2 (hO.push) ?_
   intro v' st3 hO' hFr hk
   have f1:=hFr.lo
   have f2:=hFr.up
   have f3:=hFr.len
   simp only[lo_push,len_push] at f1 f2 f3
   have hV':SlOf 1 encS v' (R++[E]):=SlOf.of_sl hO'.sl (by simp) (by simp[share_str,encS]) (fun _=>rfl)
   have hjoin:=c153 v' (R++[E]) [10] hV' (by simp) (by simp;omega) (by simp) (fun s hs=>by
    rcases List.mem_append.1 hs with h|h
    ·have:=hrows s h;omega
    ·simp only[List.mem_singleton] at h;subst h;omega) st3
   refine go2 hl2 (bw hjoin fnil) ?_
   have hil:=inter_len 700 (R++[E]) (fun s hs=>by
    rcases List.mem_append.1 hs with h|h
    ·exact hrows s h
    ·simp only[List.mem_singleton] at h;subst h;omega)
   have hil2:(R++[E]).length≤451:=by simp;omega
   have hil3:(R++[E]).length*701≤451*701:=Nat.mul_le_mul_right _ hil2
   refine wops_add (s:=List.intercalate [10] (R++[E])) (t:=[10]) rfl rfl (sR hl2) (sR hl2) (by simp only[List.length_cons,List.length_nil];omega) ?_
   refine go2 hl2 fnil ?_
   refine fnq_flat (results_one (by rw[rdRes_tmp];simp only[↓reduceIte,go_sem,hl2];first|done|rfl)) (by omega) (by rfl)
set_option maxHeartbeats 8000000 in
theorem c121h(b:BP)(hP:OkP b)(l:Nat)(st:St)(ha:hp st l=some (.arr (b.cs.map CP.v))):Cl EE (.func 121 [] []) [.agg [.int .i64 b.words,.hslice l 1 b.cs.length]] st (.ret (.str (toB (textV b.bk)))) st:=by
 have ha0:hp { heap:=st.heap,lo:=st.heap.length } l=some (.arr (b.cs.map CP.v)):=ha
 have hll0:=hp_lt ha
 have hc4:=hP.cs
 have k1:=fun st=>c151h b.words hP.w st
 refine cF1 pr121 fn121 (fun tm hl h0=>?_)
 refine go2 (bw hl h0) (bw k1 fnil) ?_
 refine wp_range b.cs.length [3] (fun k vs st'=>∃ v,vs=[v]∧OwnS st.heap.length st' 1 v (rowsK b.bk k).length ((rowsK b.bk k).flatMap encS)∧hp st' st.heap.length=some (.var [iv b.words,.hslice l 1 b.cs.length])∧hp st' l=some (.arr (b.cs.map CP.v))∧st.heap.length≤st'.lo∧st'.lo≤st'.heap.length) (by omega) (sG hl) (sG hl) (sG hl) (by decide) ⟨_,(sR hl),⟨by simp[rowsK,encS],.inr ⟨st.heap.length+1,by simp[rowsK,encS],by omega,(sG fnil)⟩⟩,(sG fnil),(sG (bw ha0 (n4 hll0))),by simp[lo_push],by simp only[lo_push,len_push];omega⟩ ?_ ?_
 ·rintro k hk tm1 st1 ⟨v,hv,hO,d0,dA,hlo,hwf⟩ hS hka
  replace hv:=mv1 hv
  have hl1:tm1.length=100:=lN hS hl;have j18:tg tm1 18 = .hslice l 1 b.cs.length:=tQ hS hl;clear hS
  have hC:=b.cs[k].h
  have hcl:=hP.ls (List.getElem_mem hk)
  have hks:=rowsK_succ b hk
  have hkl:=rowsK_le b.bk (k+1)
  have hrr:=hP.rows
  have hkl2:(rowsK b.bk k).length+(b.cs[k].ls.length+1)≤450:=by rw[hks,List.length_append] at hkl;simp[copyRows] at hkl;omega
  have hI:idxR 1 (.hslice l 1 b.cs.length) (.int .i64 (k:Int)) st1=some (.val (.aptr l (k*1)) st1):=by rw[idxR_h,if_pos hk]
  have hL:ldR false 1 (.aptr l (k*1)) st1=some (.val b.cs[k].v st1):=by
   rw[ldR_aptr dA,Nat.mul_one,if_pos (by rw[List.length_map];omega),List.drop_eq_getElem_cons (by rw[List.length_map];exact hk),List.getElem_map]
   rfl
  refine go2 (bw6 hl1 j18 hka @op_indexAddrM hI hL) (bw c151s fnil) ?_
  refine aP (bw hl1 hv) (hO.push) ?_
  intro v1 s2 hO2 hF2 hk2
  have y1:=hF2.lo
  have y2:=hF2.up
  have y3:=hF2.len
  simp only[lo_push,len_push] at y1 y2 y3
  have e0:hp s2 st.heap.length=some (.var [iv b.words,.hslice l 1 b.cs.length]):=hk2 _ _ (by rw[hp_push,if_neg (by have:=hp_lt d0;omega)];exact d0) (by simp)
  have eA:hp s2 l=some (.arr (b.cs.map CP.v)):=hk2 _ _ (by rw[hp_push,if_neg (by have:=hp_lt dA;omega)];exact dA) (by simp)
  refine go2 hl1 fnil ?_
  refine wp_range b.cs[k].ls.length [3] (fun q vs s'=>∃ u,vs=[u]∧OwnS st.heap.length s' 1 u (rowsK b.bk k++copyW::(b.cs[k].c.take q).map lnRow).length ((rowsK b.bk k++copyW::(b.cs[k].c.take q).map lnRow).flatMap encS)∧hp s' st.heap.length=some (.var [iv b.words,.hslice l 1 b.cs.length])∧hp s' l=some (.arr (b.cs.map CP.v))∧st.heap.length≤s'.lo∧s'.lo≤s'.heap.length) (by omega) (sG hl1) (sG hl1) (sG hl1) (by decide) ⟨v1,(sG hl1),by simpa[share_str,encS] using hO2,e0,eA,by omega,by omega⟩ ?_ ?_
  ·clear hO d0 dA hlo hwf hO2 e0 eA y1 y2 y3 hI hL
   rintro q hq tm2 s3 ⟨u,hu,hO,d0,dA,hlo,hwf⟩ hS2 hqa
   replace hu:=mv1 hu
   have hl2:tm2.length=100:=lN hS2 hl1;have k30:tg tm2 30=b.cs[k].v:=tQ hS2 hl1;clear hS2
   have hqc:q<b.cs[k].c.length:=by simpa using hq
   have hqs:(b.cs[k].c.take (q+1)).map lnRow=(b.cs[k].c.take q).map lnRow++[lnRow b.cs[k].ls[q].ln]:=by rw[List.take_succ_eq_append_getElem hqc,List.map_append];simp
   have hO0:=own_new (z:=[.bool false,.nilslice]) (y:=[.bool b.cs[k].ls[q].lost,b.cs[k].ls[q].w]) hO
   have ld0:=hp_lt d0
   have ldA:=hp_lt dA
   have hll:(rowsK b.bk k++copyW::(b.cs[k].c.take q).map lnRow).length≤450:=by simp only[List.length_append,List.length_cons,List.length_map,List.length_take];omega
   cases hlost:b.cs[k].ls[q].lost
   ·rw[hlost] at hO0
    have hn:=hP.n _ (List.getElem_mem hk) _ (List.getElem_mem hq) hlost
    have hnl:=hP.l (List.getElem_mem hk) (List.getElem_mem hq) hlost
    have kv:=fun st=>c151v b.cs[k].ls[q].w b.cs[k].ls[q].l b.cs[k].ls[q].h hn (by omega) st
    have hrow:lnRow b.cs[k].ls[q].ln=rowL lineW b.cs[k].ls[q].l:=by simp[lnRow,hlost]
    refine go2 (bw4 hl2 k30 hqa hlost) (bw kv fnil) ?_
    refine aP (bw hl2 hu) (hO0.push) ?_
    intro u' s4 hO4 hF4 hk4'
    have z1:=hF4.lo
    have z2:=hF4.up
    have z3:=hF4.len
    simp only[lo_push,len_push,lo_setVar,len_setVar] at z1 z2 z3
    refine go2 hl2 fnil ?_
    refine⟨u',(sG hl2),?_,hk4' _ _ (sG (bw d0 (n4 ld0))) (by simp),hk4' _ _ (sG (bw dA (n4 ldA))) (by simp),by omega,by omega⟩
    rw[hqs,hrow]
    simpa[share_str,encS,Nat.add_assoc] using hO4
   ·rw[hlost] at hO0
    have hrow:lnRow b.cs[k].ls[q].ln=lostW:=by simp[lnRow,hlost]
    refine go2 (bw4 hl2 k30 hqa hlost) (bw c151p fnil) ?_
    refine aP (bw hl2 hu) (hO0.push) ?_
    intro u' s4 hO4 hF4 hk4'
    have z1:=hF4.lo
    have z2:=hF4.up
    have z3:=hF4.len
    simp only[lo_push,len_push,lo_setVar,len_setVar] at z1 z2 z3
    refine go2 hl2 fnil ?_
    refine⟨u',(sG hl2),?_,hk4' _ _ (sG (bw d0 (n4 ld0))) (by simp),hk4' _ _ (sG (bw dA (n4 ldA))) (by simp),by omega,by omega⟩
    rw[hqs,hrow]
    simpa[share_str,encS,Nat.add_assoc] using hO4
  ·clear hO d0 dA hlo hwf hO2 e0 eA y1 y2 y3 hI hL
   rintro tm2 s3 ⟨u,hu,hO,d0,dA,hlo,hwf⟩ hS2
   replace hu:=mv1 hu
   have hl2:tm2.length=100:=by rw[hS2.1];simp only[↓reduceIte,go_sem,hl1]
   refine go2 hl2 fnil ?_
   refine⟨u,(sG (bw hl2 hu)),?_,d0,dA,hlo,hwf⟩
   rw[hks,copyRows]
   rw[List.take_of_length_le (by simp)] at hO
   exact hO
 ·rintro tm1 st1 ⟨v,hv,hO,d0,dA,hlo,hwf⟩ hS
  replace hv:=mv1 hv
  have hl1:tm1.length=100:=by rw[hS.1];simp only[↓reduceIte,go_sem,hl]
  have her:rowsK b.bk b.cs.length=rowsV b.bk:=by rw[rowsK,rowsV,List.take_of_length_le (by simp)]
  rw[her] at hO
  have hrows:=hP.row
  have hrl:=hP.rows
  have hab:=allSum_b hrows
  have ht:textV b.bk=sealL (rowsV b.bk) 197:=rfl
  rw[ht]
  generalize rowsV b.bk=R at hO hrows hrl hab
  have hV:SlOf 1 encS v R:=SlOf.of_sl hO.sl rfl rfl (fun _=>rfl)
  have hVs:=hV.slen
  refine go2 (bw3 hl1 hv hVs) fnil ?_
  refine wp_range R.length [8] (fun i vs st'=>vs=[iv (allSum R i)]∧st'=st1) (by omega) (sG hl1) (sG hl1) (sG hl1) (by decide) ⟨(sR hl1),rfl⟩ ?_ ?_
  ·rintro i hi tm2 st2 ⟨hv6,rfl⟩ hS hia
   replace hv6:=mv1 hv6
   have hl2:tm2.length=100:=lN hS hl1;have i53:tg tm2 53=v:=tQ hS (bw hl1 hv);clear hS
   have hri:=hrows _ (List.getElem_mem hi)
   have hgi:R.getD i []=R[i]:=by rw[List.getD_eq_getElem?_getD,List.getElem?_eq_getElem hi];rfl
   have habi:=hab i (by omega)
   refine go2 (bw3 hl2 i53 hia) fnil ?_
   refine wp_range R[i].length [8] (fun k vs st'=>vs=[iv ((allSum R i+rowSum i R[i] k:Nat):Int)]∧st'=st2) (by omega) (sG hl2) (sG hl2) (sG hl2) (by decide) ⟨(sR (bw hl2 hv6)),rfl⟩ ?_ ?_
   ·rintro k hk tm3 st3 ⟨hw6,rfl⟩ hS hka
    replace hw6:=mv1 hw6
    have hl3:tm3.length=100:=lN hS hl2;have k9:tg tm3 9=iv i:=tQ hS (bw hl2 hia);have k10:tg tm3 10 = .str (toB R[i]):=tQ hS (bw hl2 hia);clear hS
    have hgk:R[i].getD k 0=R[i][k]:=by rw[List.getD_eq_getElem?_getD,List.getElem?_eq_getElem hk];rfl
    have hix:=getElem?_toB R[i] k hk
    have hrb:=rowSum_b (i:=i) (r:=R[i]) (by omega) (k+1) (by omega)
    generalize hbd:R[i][k]=b at hix hgk
    have hb255:b.toNat<256:=b.toNat_lt
    have hk0:((0:Int)≤(k:Int))=True:=by simp
    have w46:IntKind.wrap .i64 (b.toNat:Int)=(b.toNat:Int):=wrap_nat (by omega)
    have w48:=wS k (by omega)
    have w51:=wS i (by omega)
    have b1:b.toNat*(k+1)≤255*701:=Nat.mul_le_mul (by omega) (by omega)
    have b2:b.toNat*(k+1)*(i+1)≤255*701*451:=Nat.mul_le_mul b1 (by omega)
    have w49:IntKind.wrap .i64 ((b.toNat:Int)*((k+1:Nat):Int))=((b.toNat*(k+1):Nat):Int):=by rw[← Int.natCast_mul];exact wrap_nat (by omega)
    have w52:IntKind.wrap .i64 (((b.toNat*(k+1):Nat):Int)*((i+1:Nat):Int))=((b.toNat*(k+1)*(i+1):Nat):Int):=by rw[← Int.natCast_mul];exact wrap_nat (by omega)
    have e53:allSum R i+rowSum i R[i] (k+1)=allSum R i+rowSum i R[i] k+b.toNat*(k+1)*(i+1):=by simp only[rowSum,hgk];omega
    have w53:IntKind.wrap .i64 (((allSum R i+rowSum i R[i] k:Nat):Int)+((b.toNat*(k+1)*(i+1):Nat):Int))=((allSum R i+rowSum i R[i] (k+1):Nat):Int):=by
     rw[← Int.natCast_add,← e53];exact wrap_nat (by omega)
    refine go2 (bw15 hl3 k9 k10 hka hw6 @op_indexStr hk0 Int.toNat_natCast hix w46 w48 w49 w51 w52 w53) fnil ?_
    exact⟨(sG hl3),rfl⟩
   ·rintro tm3 st3 ⟨hw6,rfl⟩ hS
    replace hw6:=mv1 hw6
    have hl3:tm3.length=100:=lN hS hl2;clear hS
    refine go2 hl3 fnil ?_
    refine⟨?_,rfl⟩
    simp only[↓reduceIte,go_sem,hl3,hw6]
    simp only[allSum,hgi]
  ·rintro tm2 st2 ⟨hv6,rfl⟩ hS
   replace hv6:=mv1 hv6
   have hl2:tm2.length=100:=lN hS hl1;have i3:tg tm2 3=v:=tQ hS (bw hl1 hv);clear hS
   have habn:=hab R.length (by omega)
   have er:endRow R 197=endW++itoaL (allSum R R.length % 197 / 100)++itoaL (allSum R R.length % 197 / 10 % 10)++itoaL (allSum R R.length % 197 % 10):=rfl
   generalize hAd:allSum R R.length=A at hv6 habn er
   have w57:Int.tmod (A:Int) 197=((A % 197:Nat):Int):=by rw[Int.natCast_emod];exact Int.tmod_eq_emod_of_nonneg (by omega)
   have hC:A % 197<197:=Nat.mod_lt _ (by omega)
   generalize hCd:A % 197=C at w57 hC er
   have w60:IntKind.wrap .i64 (Int.tdiv (C:Int) 100)=((C / 100:Nat):Int):=by rw[Int.tdiv_eq_ediv_of_nonneg (by omega)];exact wrap_nat (n:=C / 100) (by omega)
   have w64:IntKind.wrap .i64 (Int.tdiv (C:Int) 10)=((C / 10:Nat):Int):=by rw[Int.tdiv_eq_ediv_of_nonneg (by omega)];exact wrap_nat (n:=C / 10) (by omega)
   have w65:Int.tmod ((C / 10:Nat):Int) 10=((C / 10 % 10:Nat):Int):=by rw[Int.natCast_emod];exact Int.tmod_eq_emod_of_nonneg (by omega)
   have w69:Int.tmod (C:Int) 10=((C % 10:Nat):Int):=by rw[Int.natCast_emod];exact Int.tmod_eq_emod_of_nonneg (by omega)
   have hz:((197:Int)=0)=False:=by simp
   have hz2:((100:Int)=0)=False:=by simp
   have hz3:((10:Int)=0)=False:=by simp
   have q1:=fun st=>c152 ((C / 100:Nat):Int) (by omega) (by omega) st
   have q2:=fun st=>c152 ((C / 10 % 10:Nat):Int) (by omega) (by omega) st
   have q3:=fun st=>c152 ((C % 10:Nat):Int) (by omega) (by omega) st
   refine go2 (bw11 hl2 i3 hv6 w57 w60 w64 w65 w69 hz hz2 hz3) (bw4 q1 q2 q3 fnil) ?_
   have i1:=itoaL_len (C / 100)
   have i2:=itoaL_len (C / 10 % 10)
   have i4:=itoaL_len (C % 10)
   have i5:endW.length=4:=rfl
   refine wops_add (s:=endW) rfl rfl (sR hl2) (by simp only[↓reduceIte,go_sem,hl2,Int.toNat_natCast];first|done|rfl) (by first|omega|(simp only[List.length_append,List.length_cons,List.length_nil];omega)) ?_
   refine go2 (bw10 hl2 hv6 w57 w60 w64 w65 w69 hz hz2 hz3) (bw4 q1 q2 q3 fnil) ?_
   refine wops_add rfl rfl (sR hl2) (by simp only[↓reduceIte,go_sem,hl2,Int.toNat_natCast];first|done|rfl) (by first|omega|(simp only[List.length_append,List.length_cons,List.length_nil];omega)) ?_
   refine go2 (bw10 hl2 hv6 w57 w60 w64 w65 w69 hz hz2 hz3) (bw4 q1 q2 q3 fnil) ?_
   refine wops_add rfl rfl (sR hl2) (by simp only[↓reduceIte,go_sem,hl2,Int.toNat_natCast];first|done|rfl) (by first|omega|(simp only[List.length_append,List.length_cons,List.length_nil];omega)) ?_
   refine go2 hl2 fnil ?_
   have erl:(endRow R 197).length≤10:=by rw[er];simp[endW];omega
   rw[← er]
   generalize hRd:endRow R 197=E at erl
   have ht:sealL R 197=List.intercalate [10] (R++[E])++[10]:=by rw[sealL,hRd]
   rw[ht]
   refine aP hl2 (hO.push) ?_
   intro v' st3 hO' hFr hk
   have f1:=hFr.lo
   have f2:=hFr.up
   have f3:=hFr.len
   simp only[lo_push,len_push] at f1 f2 f3
   have hV':SlOf 1 encS v' (R++[E]):=SlOf.of_sl hO'.sl (by simp) (by simp[share_str,encS]) (fun _=>rfl)
   have hjoin:=c153 v' (R++[E]) [10] hV' (by simp) (by simp;omega) (by simp) (fun s hs=>by
    rcases List.mem_append.1 hs with h|h
    ·have:=hrows s h;omega
    ·simp only[List.mem_singleton] at h;subst h;omega) st3
   refine go2 hl2 (bw hjoin fnil) ?_
   have hil:=inter_len 700 (R++[E]) (fun s hs=>by
    rcases List.mem_append.1 hs with h|h
    ·exact hrows s h
    ·simp only[List.mem_singleton] at h;subst h;omega)
   have hil2:(R++[E]).length≤451:=by simp;omega
   have hil3:(R++[E]).length*701≤451*701:=Nat.mul_le_mul_right _ hil2
   refine wops_add (s:=List.intercalate [10] (R++[E])) (t:=[10]) rfl rfl (sR hl2) (sR hl2) (by simp only[List.length_cons,List.length_nil];omega) ?_
   refine go2 hl2 fnil ?_
   refine fnq_flat (results_one (by rw[rdRes_tmp];simp only[↓reduceIte,go_sem,hl2];first|done|rfl)) (by omega) (by rfl)
theorem OkP.of{b:BP}(h:OkB b.bk):OkP b:=⟨⟨by have:=h.w1;have:(1:Int)≤b.words:=this;omega,by have:=h.w3;have:b.words≤3:=this;omega⟩,fun c hc x hx hl n hn=>by
  have h1:=(h.all c.c (List.mem_map.2 ⟨c,hc,rfl⟩)).2 x.ln (List.mem_map.2 ⟨x,hx,rfl⟩)
  have:=(lineB_iff.1 h1.1).2 n hn
  have hw:b.words≤3:=h.w3
  have e:b.bk.words=b.words:=rfl
  rw[e] at this
  omega,by have:=rowsV_many h;omega,fun r hr=>by have:=rowsV_len h r hr;omega⟩
end Go.Den.Ve
end
section
namespace Go.Den.Ve
def noneX (s:ByteArray):PV := .iface 201 (.agg [.str s])
theorem c156(b:Bool)(s:ByteArray)(st:St)(hwf:st.lo≤st.heap.length):ClA EE (.func 156 [] []) [.bool b,.str s] st (fun r st'=>st'=st∧((b=true∧r = .ret (.tuple []))∨(b=false∧r = .panic (noneX s)))):=by
 refine cA2 pr156 fn156 (fun tm hl h0 h1=>?_)
 cases b
 ·refine go2 (bw3 hl h0 h1) fnil ?_
  refine fna_panic ⟨?_,.inr ⟨rfl,rfl⟩⟩
  simp only[Nat.min_eq_left hwf]
 ·refine go2 (bw3 hl h0 h1) fnil ?_
  refine fna_normal results_nil ?_
  rw[finish_tuple (Nat.le_refl _) (by rfl)]
  exact⟨rfl,.inl ⟨rfl,rfl⟩⟩
theorem c156_ok(s:ByteArray)(st:St):Cl EE (.func 156 [] []) [.bool true,.str s] st (.ret (.tuple [])) st:=by
 refine cF2 pr156 fn156 (fun tm hl h0 h1=>?_)
 refine go2 (bw3 hl h0 h1) fnil ?_
 exact fnq_tuple' results_nil (Nat.le_refl _) (by rfl)
def ToldP (ns:Option (List Int)) (st:St) (r:CR) (st':St):Prop:=match r with
 | .ret v=>∃ l,ns=some l∧RetS st 1 l.length (l.flatMap encI) v st'∧(l=[]→v = .nilslice)
 | .panic v=>ns=none∧(∃ s,v=noneX s)∧HExt st.heap st'.heap∧st'.lo=st.lo
theorem told_panic{st:St}{ns:Option (List Int)}{tm:List PV}{S:St}{s:ByteArray}(hwf:st.lo≤st.heap.length)(hx:HExt st.heap S.heap)(hlo:st.heap.length≤S.lo)(hn:ns=none):FnA [.tmp 4] st (ToldP ns st) (.panic (noneX s)) tm S :=
 fna_panic ⟨hn,⟨s,rfl⟩,hx,by show min st.lo S.lo=st.lo;omega⟩
set_option maxHeartbeats 8000000 in
theorem c157(row:List UInt8)(k:Nat)(hk:k<4)(hrow:row.length≤1000)(st:St)(hwf0:st.lo≤st.heap.length):ClA EE (.func 157 [] []) [.str (toB row),iv k] st (ToldP (toldV row (kindW k)) st):=by
 have hV:=splitSl 32 row
 have hVl:=splitL_len 32 [] row
 have hVp:=splitL_pos 32 row []
 have hpm:=splitL_mem 32 1000 [] row (by simpa using hrow)
 refine cA2 pr157 fn157 (fun tm hl h0 h1=>?_)
 have hsp:=fun st=>c155 row 32 (by omega) st
 have htv:toldV row (kindW k)=if (splitL 32 [] row).headD []=kindW k then numsL (splitL 32 [] row).tail else none:=rfl
 generalize hps:splitL 32 [] row=ps at hV hsp hVl hVp hpm htv
 generalize hVd:PV.slice Own.shared ps.length (ps.flatMap encS)=V at hV hsp
 have hVs:=hV.slen
 have hVc:=hV.cells
 have hp0:0<ps.length:=hVp
 have hh:ps.headD []=ps[0]:=(head_get hp0).symm
 rw[hh] at htv
 have hix:∀ (tm:List PV) (st:St),tg tm 17=namesPV→tg tm 18=iv k→∀ rec,stepOp EE rec tm st (.indexArr false 4 1 (.t 17) (.t 18))=some (.val (.str (toB (kindW k))) st):=fun tm st h1 h2 rec=>names_at k hk tm st (sG h1) (sG h2) rec
 refine go2 (bw3 hl h0 h1) (bw3 hsp c170 fnil) ?_
 refine wopsD_pure (v := .str (toB (kindW k))) (Nat.le_refl _) (sR hl) (fun rec st1 he=>hix _ _ (sR hl) (sR hl) rec) ?_
 cases hw0:(ps[0]==kindW k)
 ·have hn:toldV row (kindW k)=none:=by
   rw[htv,if_neg]
   intro h
   rw[h] at hw0
   simp at hw0
  refine go2 (bw5 hl h0 h1 hVs hw0) (bw3 hsp c170 fnil) ?_
  refine wopsD_callA rfl rfl (sR hl) (by simp only[↓reduceIte,go_sem,hl,h0];exact c156 false (toB row) _ (Nat.le_refl _)) ?_ ?_
  ·rintro v st1 ⟨_,⟨h,_⟩|⟨_,h⟩⟩
   ·cases h
   ·cases h
  ·rintro v st1 ⟨rfl,⟨h,_⟩|⟨_,h⟩⟩
   ·cases h
   ·cases h
    refine⟨footOk_quiet (by rfl),?_⟩
    refine go2 fnil fnil ?_
    exact told_panic hwf0 (.refl _) (by show st.heap.length≤min _ _;simp) hn
 ·have ht:toldV row (kindW k)=numsL ps.tail:=by rw[htv,if_pos (eq_of_beq hw0)]
  refine go2 (bw5 hl h0 h1 hVs hw0) (bw4 hsp c170 c156_ok fnil) ?_
  refine wops_slice rfl rfl (sR hl) hV (m:=ps.length) (n:=1) (by rfl) (by rfl) (by omega) (by omega) ?_
  intro V2 hV2
  have e2:(ps.drop 1).take (ps.length - 1)=ps.tail:=by rw[List.drop_one,List.take_of_length_le (by simp)]
  rw[e2] at hV2
  have hV2s:=hV2.slen
  rw[ht]
  have hpt:∀ p∈ps.tail,p.length≤1000:=fun p hp=>hpm p (List.mem_of_mem_tail hp)
  have htl:ps.tail.length≤1000:=by rw[List.length_tail];omega
  generalize ps.tail=T at hV2 hV2s hpt htl ⊢
  refine go2 (bw hl hV2s) fnil ?_
  refine wp_range T.length [6] (fun j vs st'=>∃ ns v,vs=[v]∧numsL (T.take j)=some ns∧OwnS st.heap.length st' 1 v ns.length (ns.flatMap encI)∧ns.length=j∧(ns=[]→v = .nilslice)∧HExt st.heap st'.heap∧st.heap.length≤st'.lo∧st'.lo≤st'.heap.length) (by omega) (sG hl) (sG hl) (sG hl) (by decide) ⟨[],.nilslice,(sG hl),rfl,.nil,rfl,fun _=>rfl,.refl _,by simp,by simp⟩ ?_ ?_
  ·rintro j hj tm1 st1 ⟨ns,v,hv,hns,hO,hnl,hnv,hx,hlo,hwf⟩ hS hja
   replace hv:=mv1 hv
   have hl1:tm1.length=70:=lN hS hl;have i33:tg tm1 24=V2:=tQ hS hl;clear hS
   have hxl:=hpt _ (List.getElem_mem hj)
   have hln1:=hx.1
   have hmj:j<1000:=by omega
   refine go2 (bw4 hl1 i33 hja @op_rangeStr) fnil ?_
   apply wp_block
   refine wp_loopF (fun kk tm2 st2=>∃ p,p≤T[j].length∧kk=T[j].length - p∧tg tm2 9=iv (valL (T[j].take p))∧hp st2 st1.heap.length=some (.iter (toB T[j]) p)∧(∀ l,l≠st1.heap.length→hp st2 l=hp (st1.push (.iter (toB T[j]) 0)) l)∧st2.heap.length=st1.heap.length+1∧(T[j].take p).all isDig=true∧(p=0∨T[j].length≤2)∧st.heap.length≤st2.lo∧st2.lo≤st2.heap.length) ?_ T[j].length ⟨0,Nat.zero_le _,by omega,(sR hl1),(sG fnil),fun _ _=>rfl,len_push _ _,rfl,.inl rfl,hlo,by rw[lo_push,len_push];omega⟩
   rintro kk tm2 st2 ⟨p,hp1,rfl,t11,hit,hoth,hln2,hall,hpl,hlo2,hwf2⟩ hS
   have hl2:tm2.length=70:=lN hS hl1;have t8:tg tm2 6=v:=tQ hS (bw hl1 hv);have t10:tg tm2 8 = .str (toB T[j]):=tQ hS (bw hl1 hv);have t40:tg tm2 31 = .ptr st1.heap.length 0:=tQ hS (bw hl1 hv);clear hS
   have hxs:HExt st.heap st2.heap:=⟨by omega,fun l hl=>by
    have h1:=hoth l (by omega)
    have h2:hp (st1.push (.iter (toB T[j]) 0)) l=hp st1 l:=by rw[hp_push,if_neg (by omega)]
    exact (h1.trans h2).trans (hx.2 l hl)⟩
   have lit:=hp_lt hit
   apply wp_seq
   apply wp_region_ops
   by_cases hpx:p<T[j].length
   ·refine wops_one (v:=_) (st1:=_) rfl (fun rec=>step_next (sR (bw hl2 t40)) hit hpx) ?_
    have hgb:(toB T[j]).get! p=T[j][p]:=by
     exact getB T[j] p hpx
    have htk:T[j].take (p+1)=T[j].take p++[T[j][p]]:=List.take_succ_eq_append_getElem hpx
    by_cases hdig:isDig T[j][p]=true
    ·have hdg:=hdig
     simp only[isDig,Bool.and_eq_true,decide_eq_true_eq] at hdg
     have hdec:Utf8.decode (toB T[j]) p=(T[j][p].toNat,1):=by rw[decode_low _ _ (by rw[hgb];omega),hgb]
     rw[hdec]
     generalize hbd:T[j][p]=b at hgb htk hdig hdg
     have d1:decide (((b.toNat:Nat):Int)≥48)=true:=by simp;omega
     have d2:decide (((b.toNat:Nat):Int)≤57)=true:=by simp;omega
     by_cases h2:T[j].length≤2
     ·have d3:decide ((T[j].length:Int)≤2)=true:=by simp;omega
      have hvb:valL (T[j].take p)<100:=valL_bound hall (by simp;omega)
      have w58:IntKind.wrap .i64 (10*((valL (T[j].take p):Nat):Int))=((10*valL (T[j].take p):Nat):Int):=wrap_nat (n:=10*valL (T[j].take p)) (by omega)
      have w60:IntKind.wrap .i32 (((b.toNat:Nat):Int) - 48)=((b.toNat - 48:Nat):Int):=by
       simp[IntKind.wrap,IntKind.bits,IntKind.signed]
       omega
      have w61:IntKind.wrap .i64 ((b.toNat - 48:Nat):Int)=((b.toNat - 48:Nat):Int):=wrap_nat (by omega)
      have e62:valL (T[j].take (p+1))=10*valL (T[j].take p)+(b.toNat - 48):=by rw[htk,valL_snoc]
      have w62:IntKind.wrap .i64 (((10*valL (T[j].take p):Nat):Int)+((b.toNat - 48:Nat):Int))=((valL (T[j].take (p+1)):Nat):Int):=by
       rw[e62,← Int.natCast_add];exact wrap_nat (by omega)
      refine go2 (bw10 hl2 t10 t11 d1 d2 d3 w58 w60 w61 w62) (bw c156_ok fnil) ?_
      refine⟨T[j].length - (p+1),by omega,p+1,by omega,rfl,(sG hl2),?_,fun l hl=>?_,by rw[len_setVar];exact hln2,?_,.inr h2,by rw[lo_setVar];omega,by rw[lo_setVar,len_setVar];omega⟩
      ·rw[hp_setVar,if_pos rfl,if_pos lit]
      ·rw[hp_setVar,if_neg hl];exact hoth l hl
      ·rw[htk,List.all_append,hall];simp[hdig]
     ·have d3:decide ((T[j].length:Int)≤2)=false:=by simp;omega
      have hnb:numB T[j]=false:=by simp[numB];intro _ h;omega
      refine go2 (bw6 hl2 t10 t11 d1 d2 d3) fnil ?_
      refine wops_callA rfl rfl (sR hl2) (by simp only[↓reduceIte,go_sem,hl2,t10];exact c156 false (toB T[j]) _ (by rw[lo_setVar,len_setVar];omega)) ?_ ?_
      ·rintro v9 st9 ⟨_,⟨h,_⟩|⟨_,h⟩⟩
       ·cases h
       ·cases h
      ·rintro v9 st9 ⟨rfl,⟨h,_⟩|⟨_,h⟩⟩
       ·cases h
       ·cases h
        refine go2 fnil fnil ?_
        exact told_panic hwf0 (hxs.setVar (by omega)) (by rw[lo_setVar];omega) (numsL_bad _ hj (hnb))
    ·have hnb:numB T[j]=false:=by
      have:T[j].all isDig=false:=by
       rw[List.all_eq_false]
       exact⟨T[j][p],List.getElem_mem hpx,hdig⟩
      simp[numB,this]
     generalize hrd:(Utf8.decode (toB T[j]) p).1=r
     have hrn:¬ (48≤r∧r≤57):=by
      intro h
      by_cases hb:((toB T[j]).get! p).toNat<128
      ·rw[decode_low _ _ hb,hgb] at hrd
       simp only at hrd
       apply hdig
       simp only[isDig,Bool.and_eq_true,decide_eq_true_eq]
       omega
      ·have:=decode_high (toB T[j]) p (by omega)
       omega
     by_cases h1:48≤r
     ·have d1:decide ((r:Int)≥48)=true:=by simp;omega
      have d2:decide ((r:Int)≤57)=false:=by simp;omega
      refine go2 (bw5 hl2 t10 t11 d1 d2) fnil ?_
      refine wops_callA rfl rfl (sR hl2) (by simp only[↓reduceIte,go_sem,hl2,t10];exact c156 false (toB T[j]) _ (by rw[lo_setVar,len_setVar];omega)) ?_ ?_
      ·rintro v9 st9 ⟨_,⟨h,_⟩|⟨_,h⟩⟩
       ·cases h
       ·cases h
      ·rintro v9 st9 ⟨rfl,⟨h,_⟩|⟨_,h⟩⟩
       ·cases h
       ·cases h
        refine go2 fnil fnil ?_
        exact told_panic hwf0 (hxs.setVar (by omega)) (by rw[lo_setVar];omega) (numsL_bad _ hj (hnb))
     ·have d1:decide ((r:Int)≥48)=false:=by simp;omega
      refine go2 (bw4 hl2 t10 t11 d1) fnil ?_
      refine wops_callA rfl rfl (sR hl2) (by simp only[↓reduceIte,go_sem,hl2,t10];exact c156 false (toB T[j]) _ (by rw[lo_setVar,len_setVar];omega)) ?_ ?_
      ·rintro v9 st9 ⟨_,⟨h,_⟩|⟨_,h⟩⟩
       ·cases h
       ·cases h
      ·rintro v9 st9 ⟨rfl,⟨h,_⟩|⟨_,h⟩⟩
       ·cases h
       ·cases h
        refine go2 fnil fnil ?_
        exact told_panic hwf0 (hxs.setVar (by omega)) (by rw[lo_setVar];omega) (numsL_bad _ hj (hnb))
   ·have hpe:p=T[j].length:=by omega
    refine wops_one (v:=_) (st1:=_) rfl (fun rec=>step_end (sR (bw hl2 t40)) hit hpx) ?_
    rw[hpe,List.take_length] at hall t11
    refine go2 (bw3 hl2 t10 t11) fnil ?_
    cases hx0:(T[j]==[])
    ·have hl22:T[j].length≤2:=by
      rcases hpl with h|h
      ·exfalso
       have:T[j]=[]:=List.eq_nil_of_length_eq_zero (by omega)
       rw[this] at hx0;cases hx0
      ·exact h
     have hvb:=valL_bound hall hl22
     have q152:=fun st=>c152 ((valL T[j]:Nat):Int) (by omega) (by omega) st
     cases hit2:(itoaL (valL T[j])==T[j])
     ·have hnb:numB T[j]=false:=by unfold numB;rw[hall,hx0,hit2];simp
      refine go2 (bw6 hl2 t10 t11 hx0 hit2 Int.toNat_natCast) (bw q152 fnil) ?_
      refine wops_callA rfl rfl (sR hl2) (by simp only[↓reduceIte,go_sem,hl2,t10];exact c156 false (toB T[j]) _ hwf2) ?_ ?_
      ·rintro v9 st9 ⟨_,⟨h,_⟩|⟨_,h⟩⟩
       ·cases h
       ·cases h
      ·rintro v9 st9 ⟨rfl,⟨h,_⟩|⟨_,h⟩⟩
       ·cases h
       ·cases h
        refine go2 fnil fnil ?_
        exact told_panic hwf0 hxs hlo2 (numsL_bad _ hj hnb)
     ·have hnb:numB T[j]=true:=by unfold numB;rw[hall,hx0,hit2];simp[hl22]
      refine go2 (bw6 hl2 t10 t11 hx0 hit2 Int.toNat_natCast) (bw3 q152 c156_ok fnil) ?_
      have hO2:OwnS st.heap.length st2 1 v ns.length (ns.flatMap encI):=hO.keep fun t ht1 ht2=>by
       have hlt:=hp_lt ht2
       rw[hoth t (by omega),hp_push,if_neg (by omega)]
       exact ht2
      refine aP (bw hl2 t8) (hO2.push) ?_
      intro v' st3 hO' hFr hk3
      have f1:=hFr.lo
      have f2:=hFr.up
      have f3:=hFr.len
      simp only[lo_push,len_push] at f1 f2 f3
      refine go2 hl2 fnil ?_
      refine⟨ns++[((valL T[j]:Nat):Int)],v',(sG hl2),?_,?_,by simp[hnl],(fun h=>by simp at h),(hxs.trans (HExt.push st2 _)).fr hFr,by omega,by omega⟩
      ·rw[List.take_succ_eq_append_getElem hj,numsL_snoc,hns]
       simp[hnb]
      ·have e1:(ns++[((valL T[j]:Nat):Int)]).length=ns.length+1:=by simp
       have e3:(ns++[((valL T[j]:Nat):Int)]).flatMap encI=ns.flatMap encI++[iv ((valL T[j]:Nat):Int)]:=by simp
       rw[e1,e3]
       simpa[share_int] using hO'
    ·have hnb:numB T[j]=false:=by unfold numB;rw[hx0];simp
     refine go2 (bw4 hl2 t10 t11 hx0) fnil ?_
     refine wops_callA rfl rfl (sR hl2) (by simp only[↓reduceIte,go_sem,hl2,t10];exact c156 false (toB T[j]) _ hwf2) ?_ ?_
     ·rintro v9 st9 ⟨_,⟨h,_⟩|⟨_,h⟩⟩
      ·cases h
      ·cases h
     ·rintro v9 st9 ⟨rfl,⟨h,_⟩|⟨_,h⟩⟩
      ·cases h
      ·cases h
       refine go2 fnil fnil ?_
       exact told_panic hwf0 hxs hlo2 (numsL_bad _ hj hnb)
  ·rintro tm1 st1 ⟨ns,v,hv,hns,hO,hnl,hnv,hx,hlo,hwf⟩ hS
   replace hv:=mv1 hv
   have hl1:tm1.length=70:=lN hS hl;clear hS
   rw[List.take_length] at hns
   refine go2 (bw hl1 hv) fnil ?_
   exact fna_ret (results_one (v:=v) (by rw[rdRes_tmp];simp only[↓reduceIte,go_sem,hl1])) ⟨ns,hns,hO.finish hlo (fun m c hc=>encI_low _ m c hc),fun h=>by rw[hnv h,finish_flat hlo (by rfl)]⟩
end Go.Den.Ve
end

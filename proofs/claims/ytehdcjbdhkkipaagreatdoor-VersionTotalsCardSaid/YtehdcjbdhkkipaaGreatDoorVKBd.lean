/- Part of the proofs of laws of the package version. Texts: VwO, VwP, VxA, VxC, VxCb, VxD, VxJ. -/
import Derived.Test.YtehdcjbdhkkipaaGreatDoorVKBc
import Derived.Test.YtehdcjbdhkkipaaGreatDoorVKAv
set_option linter.unusedSimpArgs false
set_option linter.unusedVariables false
section
namespace Go.Den.Ve
theorem best_snocT{α:Type}(bt:α→α→Bool)(X:List α)(x:α):bestF bt (X++[x])=some (match bestF bt X with
  | none=>x
  | some o=>if bt x o then x else o):=by
 unfold bestF
 rw[List.foldl_append,List.foldl_cons,List.foldl_nil]
 cases List.foldl _ none X
 ·rfl
 ·simp only
  split <;> rfl
def growP (n i:Nat) (l:List Int) (x:Nat):List (List Int):=((List.range x).filter fun (p:Nat)=>decide ((p:Int) - 1≠i)).map fun (p:Nat)=>l++[(p:Int) - 1]
theorem growP_all(n i:Nat)(l:List Int):growP n i l (n+1)=growT n i l:=rfl
theorem growP_yes{n i:Nat}{l:List Int}{x:Nat}(h:x≠i+1):growP n i l (x+1)=growP n i l x++[l++[(x:Int) - 1]]:=by
 have e:decide ((x:Int) - 1≠i)=true:=decide_eq_true (by omega)
 simp only[growP,List.range_succ,List.filter_append,List.map_append,List.filter_cons,List.filter_nil,e,if_true,List.map_cons,List.map_nil]
theorem growP_no{n i:Nat}{l:List Int}:growP n i l (i+1+1)=growP n i l (i+1):=by
 have e:decide (((i+1:Nat):Int) - 1≠i)=false:=decide_eq_false (by omega)
 rw[growP,List.range_succ,List.filter_append,List.filter_cons,if_neg (by rw[e];simp),List.filter_nil,List.append_nil];rfl
theorem growP_len(n i:Nat)(l:List Int)(x:Nat):(growP n i l x).length≤x:=by
 unfold growP
 rw[List.length_map]
 exact Nat.le_trans (List.length_filter_le _ _) (by simp)
def outT (n i m x:Nat):List (List Int):=((levT n i).take m).flatMap (growT n i)++growP n i ((levT n i).getD m []) x
theorem outT_m{n i m:Nat}(h:m<(levT n i).length):outT n i (m+1) 0=outT n i m (n+1):=by
 unfold outT
 rw[List.take_succ_eq_append_getElem h,List.flatMap_append,List.flatMap_singleton,growP_all,List.getD_eq_getElem?_getD,List.getD_eq_getElem?_getD (i:=m),List.getElem?_eq_getElem h]
 simp[growP]
theorem outT_end(n i:Nat):outT n i (levT n i).length 0=levT n (i+1):=by
 unfold outT
 rw[List.take_length,levT];simp[growP]
theorem outT_yes{n i m x:Nat}(h:m<(levT n i).length)(hx:x≠i+1):outT n i m (x+1)=outT n i m x++[(levT n i)[m]++[(x:Int) - 1]]:=by
 unfold outT
 rw[growP_yes hx,List.append_assoc,List.getD_eq_getElem?_getD,List.getElem?_eq_getElem h];rfl
theorem outT_no(n i m:Nat):outT n i m (i+1+1)=outT n i m (i+1):=by
 unfold outT;rw[growP_no]
theorem flat_lenT{α β:Type}{f:α→List β}{c:Nat}(hf:∀ x,(f x).length≤c):∀ l:List α,(l.flatMap f).length≤l.length*c
 | []=>by simp
 | x::l=>by
  have:=flat_lenT hf l
  have:=hf x
  rw[List.flatMap_cons,List.length_append,List.length_cons,Nat.succ_mul];omega
theorem levT_len{n:Nat}(h:n≤5):∀ i,(levT n i).length≤6 ^ i
 | 0=>Nat.le_refl _
 | i+1=>by
  have ih:=levT_len h i
  have:=flat_lenT (f:=growT n i) (c:=6) (fun x=>Nat.le_trans (by rw[← growP_all];exact growP_len _ _ _ _) (by omega)) (levT n i)
  rw[levT,Nat.pow_succ]
  omega
theorem outT_len{n i m x:Nat}(h:n≤5)(hi:i≤4)(hx:x≤n+1):(outT n i m x).length≤8000:=by
 have h1:=flat_lenT (f:=growT n i) (c:=6) (fun x=>Nat.le_trans (by rw[← growP_all];exact growP_len _ _ _ _) (by omega)) ((levT n i).take m)
 have h2:=growP_len n i ((levT n i).getD m []) x
 have h3:=levT_len h i
 have h4:6 ^ i≤6 ^ 4:=Nat.pow_le_pow_right (by omega) hi
 rw[List.length_take] at h1
 unfold outT
 rw[List.length_append]
 omega
theorem row_takes{b:BK}{t:List (List Int)}{k x:Nat}(hx:x≤b.copies.length):(rowI b t k)[x]'(by simp[rowI];omega)=takesI b t k ((x:Int) - 1):=by
 unfold takesI rowI
 cases x with
 | zero=>rfl
 | succ x =>
  have hx':x<b.copies.length:=by omega
  rw[if_neg (by omega)]
  simp only[List.getElem_cons_succ,List.getElem_map]
  rw[show (((x+1:Nat):Int) - 1).toNat=x by omega,List.getD_eq_getElem?_getD (l:=b.copies) (i:=x),List.getElem?_eq_getElem hx']
  rfl
def sumT (b:BK) (t:List (List Int)) (tr:List Int) (k:Nat):Int:=((List.range k).map fun i=>((tableI b t b.copies.length).getD i []).getD (tr.getD i 0+1).toNat 0).sum
theorem sumT_succ{b:BK}{t:List (List Int)}{tr:List Int}{k:Nat}:sumT b t tr (k+1)=sumT b t tr k+((tableI b t b.copies.length).getD k []).getD (tr.getD k 0+1).toNat 0:=by
 simp[sumT,List.range_succ]
abbrev ltT:=fun x y:List Int×Int=>decide (x.2<y.2)
def pickT (b:BK) (t:List (List Int)) (q:Nat):List (List Int×Int):=(((levT b.copies.length b.copies.length).take q).filter (treeB b.copies.length)).map fun tr=>(tr,totalI b t tr)
theorem pickT_all(b:BK)(t:List (List Int)):pickT b t (levT b.copies.length b.copies.length).length=treesT b t:=by
 unfold pickT
 rw[List.take_length,levT_trees];rfl
theorem pickT_yes{b:BK}{t:List (List Int)}{q:Nat}(h:q<(levT b.copies.length b.copies.length).length)(hq:treeB b.copies.length (levT b.copies.length b.copies.length)[q]=true):pickT b t (q+1)=pickT b t q++[((levT b.copies.length b.copies.length)[q],totalI b t (levT b.copies.length b.copies.length)[q])]:=by
 unfold pickT
 rw[List.take_succ_eq_append_getElem h,List.filter_append,List.map_append,List.filter_cons,if_pos hq];rfl
theorem pickT_no{b:BK}{t:List (List Int)}{q:Nat}(h:q<(levT b.copies.length b.copies.length).length)(hq:treeB b.copies.length (levT b.copies.length b.copies.length)[q]=false):pickT b t (q+1)=pickT b t q:=by
 unfold pickT
 rw[List.take_succ_eq_append_getElem h,List.filter_append,List.filter_cons,if_neg (by rw[hq];simp),List.filter_nil,List.append_nil]
def BestAt (b:BK) (t:List (List Int)) (q:Nat) (a m:Int):Prop:=(bestF ltT (pickT b t q)=none∧a = -1∧m=0)∨∃ j:Nat,∃ h:j<(levT b.copies.length b.copies.length).length,bestF ltT (pickT b t q)=some ((levT b.copies.length b.copies.length)[j],m)∧a=j
theorem bestAt_0(b:BK)(t:List (List Int)):BestAt b t 0 (-1) 0 := .inl ⟨rfl,rfl,rfl⟩
theorem bestAt_no{b:BK}{t:List (List Int)}{q:Nat}{a m:Int}(h:q<(levT b.copies.length b.copies.length).length)(hq:treeB b.copies.length (levT b.copies.length b.copies.length)[q]=false)(hb:BestAt b t q a m):BestAt b t (q+1) a m:=by
 unfold BestAt at hb ⊢
 rw[pickT_no h hq];exact hb
theorem bestAt_yes{b:BK}{t:List (List Int)}{q:Nat}{a m:Int}(h:q<(levT b.copies.length b.copies.length).length)(hq:treeB b.copies.length (levT b.copies.length b.copies.length)[q]=true)(hb:BestAt b t q a m):if (decide (a<0) || decide (totalI b t (levT b.copies.length b.copies.length)[q]<m))=true then BestAt b t (q+1) q (totalI b t (levT b.copies.length b.copies.length)[q]) else BestAt b t (q+1) a m:=by
 unfold BestAt at hb ⊢
 rw[pickT_yes h hq,best_snocT]
 rcases hb with ⟨e,rfl,rfl⟩|⟨j,hj,e,rfl⟩
 ·rw[if_pos (by simp),e]
  exact .inr ⟨q,h,rfl,rfl⟩
 ·rw[e,decide_eq_false (show ¬ ((j:Int)<0) by omega),Bool.false_or]
  split
  ·rename_i h1
   refine .inr ⟨q,h,?_,rfl⟩
   show some (if decide (totalI b t (levT b.copies.length b.copies.length)[q]<m)=true then _ else _)=_
   rw[if_pos h1]
  ·rename_i h1
   refine .inr ⟨j,hj,?_,rfl⟩
   show some (if decide (totalI b t (levT b.copies.length b.copies.length)[q]<m)=true then _ else _)=_
   rw[if_neg h1]
theorem bestAt_end{b:BK}{t:List (List Int)}{a m:Int}{o:List Int×Int}(ho:bestF ltT (treesT b t)=some o)(hb:BestAt b t (levT b.copies.length b.copies.length).length a m):∃ j:Nat,∃ h:j<(levT b.copies.length b.copies.length).length,(levT b.copies.length b.copies.length)[j]=o.1∧m=o.2∧a=j:=by
 unfold BestAt at hb
 rw[pickT_all,ho] at hb
 rcases hb with ⟨e,_⟩|⟨j,hj,e,rfl⟩
 ·cases e
 ·have:=Option.some.inj e
  exact⟨j,hj,by rw[this],by rw[this],rfl⟩
end Go.Den.Ve
end
section
namespace Go.Den
theorem finish_el2{st st1:St}{p:List Int}{n:Int}(h:st.heap.length≤st1.lo):finishCall st st1 (.tuple [Ve.elL p,.int .i64 n])=(.tuple [Ve.elL p,.int .i64 n],st):=by
 cases p with
 | nil=>exact finish_tuple h (by rfl)
 | cons x l =>
  have hl:lowL st.heap.length ((x::l).flatMap Ve.encI)=true:=lowL_of fun c hc=>Ve.encI_low _ _ c hc
  unfold finishCall
  rw[if_pos h]
  simp only[letGo,freezeL,freeze1,retagL,retag1,PV.low,Ve.elL,hl,if_true,Option.map_some,List.length_nil,List.replicate_zero,List.append_nil]
end Go.Den
namespace Go.Den.Ve
theorem getD_row{b:BK}{t:List (List Int)}{k:Nat}(h:k<b.copies.length):(tableI b t b.copies.length)[k]'(by simp[tableI];omega)=rowI b t k:=by simp[tableI]
set_option maxHeartbeats 32000000 in
theorem c71(b:BP)(hB:OkB b.bk)(T:PV)(t:List SI)(hT:SlOf 1 encSI T t)(ht:txtB b.bk (t.map SI.l)=true)(o:List Int×Int)(ho:bestF ltT (treesT b.bk (t.map SI.l))=some o)(st:St):ClR EE (.func 71 [] []) [b.pv,T] st (fun v st'=>v = .tuple [elL o.1,iv o.2]∧st'=st):=by
 have hb:=b.h
 have hbl:b.bk.copies.length=b.cs.length:=by simp
 have hc5:=hB.c5
 rw[hbl] at hc5
 obtain⟨n,hn⟩:∃ n,n=b.cs.length:=⟨_,rfl⟩
 have hn5:n≤5:=by omega
 refine cG2 pr71 fn71 (fun tm hl h0 h1=>?_)
 refine go2 (bw3 hl h0 h1) fnil ?_
 refine wp_for [7,6] (fun k vs S=>∃ V,vs=[iv k,V]∧k≤n∧SlOf 1 encL V (levT n k)∧hp S st.heap.length=some (.var [iv b.words,b.v])∧st.heap.length≤S.lo∧S.lo≤S.heap.length) (fun k=>n - k) ⟨_,(sR hl),Nat.zero_le _,⟨rfl,fun _ _=>rfl⟩,(sG fnil),by simp only[lo_push];omega,by simp only[lo_push,len_push];omega⟩ ?_
 rintro k tm1 S ⟨V,hv,hk,hV,d0,hlo,hwf⟩ hS
 obtain⟨hv7,hv6⟩:=mv2 hv
 have hl1:tm1.length=135:=lN hS hl;have i1:tg tm1 1=T:=tQ hS (bw hl h1);have i2:tg tm1 2 = .ptr st.heap.length 0:=tQ hS (bw hl h1);clear hS
 have ld0:=hp_lt d0
 have hVs:=hV.slen
 refine go2 (bw5 hl1 hv7 i2 d0 (n4 ld0)) fnil ?_
 refine⟨decide ((k:Int)<n),(sG (bw hl1 hn)),fun hbk=>?_,fun hbk=>?_⟩
 rotate_left
 ·have hlt:k<n:=by have:=of_decide_eq_true hbk;omega
  have hwk:=wS k (by omega)
  have hll:=levT_len hn5 k
  have h64:6 ^ k≤6 ^ 4:=Nat.pow_le_pow_right (by omega) (by omega)
  refine⟨by omega,?_⟩
  refine go2 hl1 fnil ?_
  refine wp_for [9,8] (fun m vs S=>∃ v,vs=[iv m,v]∧m≤(levT n k).length∧OwnS st.heap.length S 1 v (outT n k m 0).length ((outT n k m 0).flatMap encL)∧hp S st.heap.length=some (.var [iv b.words,b.v])∧st.heap.length≤S.lo∧S.lo≤S.heap.length) (fun m=>(levT n k).length - m) ⟨_,(sR hl1),Nat.zero_le _,.nil,d0,hlo,hwf⟩ ?_
  clear d0 hlo hwf ld0
  rintro m tm2 S2 ⟨v2,hv,hm,hO,d0,hlo,hwf⟩ hS2
  obtain⟨hv9,hv8⟩:=mv2 hv
  have hl2:tm2.length=135:=lN hS2 hl1;have j2:tg tm2 2 = .ptr st.heap.length 0:=tQ hS2 (bw4 hl1 i2 hv6 hv7);have j6:tg tm2 6=V:=tQ hS2 (bw4 hl1 i2 hv6 hv7);have j7:tg tm2 7=iv k:=tQ hS2 (bw4 hl1 i2 hv6 hv7);clear hS2
  refine go2 (bw4 hl2 hv9 j6 hVs) fnil ?_
  refine⟨decide ((m:Int)<(levT n k).length),(sG hl2),fun hbm=>?_,fun hbm=>?_⟩
  ·have hlt2:=of_decide_eq_false hbm
   have hmn:m=(levT n k).length:=by omega
   rw[hmn,outT_end] at hO
   refine go2 (bw4 hl2 hv8 j7 hwk) fnil ?_
   exact⟨v2,(sG hl2),by omega,SlOf.of_sl hO.sl rfl rfl (fun _=>rfl),d0,hlo,hwf⟩
  have hlt2:m<(levT n k).length:=by have:=of_decide_eq_true hbm;omega
  have hwm:=wS m (by omega)
  refine⟨by omega,?_⟩
  refine go2 hl2 fnil ?_
  refine wp_for [10,8] (fun x vs S'=>∃ v,vs=[iv ((x:Int) - 1),v]∧x≤n+1∧OwnS st.heap.length S' 1 v (outT n k m x).length ((outT n k m x).flatMap encL)∧hp S' st.heap.length=some (.var [iv b.words,b.v])∧st.heap.length≤S'.lo∧S'.lo≤S'.heap.length) (fun x=>n+1 - x) ⟨v2,(sR (bw hl2 hv8)),Nat.zero_le _,hO,d0,hlo,hwf⟩ ?_
  clear hO d0 hlo hwf hv8
  rintro x tm3 S3 ⟨v3,hv,hx,hO,d0,hlo,hwf⟩ hS3
  obtain⟨hv10,hv8⟩:=mv2 hv
  have hl3:tm3.length=135:=lN hS3 hl2;have k2:tg tm3 2 = .ptr st.heap.length 0:=tQ hS3 (bw5 hl2 j2 j6 j7 hv9);have k6:tg tm3 6=V:=tQ hS3 (bw5 hl2 j2 j6 j7 hv9);have k7:tg tm3 7=iv k:=tQ hS3 (bw5 hl2 j2 j6 j7 hv9);have k9:tg tm3 9=iv m:=tQ hS3 (bw5 hl2 j2 j6 j7 hv9);clear hS3
  have ld0:=hp_lt d0
  refine go2 (bw5 hl3 hv10 k2 d0 (n4 ld0)) fnil ?_
  refine⟨decide ((x:Int) - 1<n),(sG (bw hl3 hn)),fun hbx=>?_,fun hbx=>?_⟩
  ·have hlt3:=of_decide_eq_false hbx
   have hxn:x=n+1:=by omega
   rw[hxn,← outT_m hlt2] at hO
   refine go2 (bw3 hl3 k9 hwm) fnil ?_
   exact⟨v3,(sG (bw hl3 hv8)),by omega,hO,d0,hlo,hwf⟩
  have hlt3:x<n+1:=by have:=of_decide_eq_true hbx;omega
  have hwx:IntKind.wrap .i64 (((x:Int) - 1)+1)=((x+1:Nat):Int) - 1:=by rw[wrap_in (by unfold inI;omega)];omega
  refine⟨by omega,?_⟩
  by_cases hxk:x=k+1
  ·have hbe:(((x:Int) - 1) != (k:Int))=false:=by rw[bne_eq_false_iff_eq];omega
   refine go2 (bw5 hl3 hv10 k7 hbe hwx) fnil ?_
   refine⟨v3,(sG (bw hl3 hv8)),by omega,?_,d0,hlo,hwf⟩
   rw[hxk,outT_no,← hxk];exact hO
  have hbe:(((x:Int) - 1) != (k:Int))=true:=by rw[bne_iff_ne];omega
  have hol:=outT_len (n:=n) (i:=k) (m:=m) (x:=x) hn5 (by omega) (by omega)
  have hml:((levT n k)[m]).length=k:=(mem_levT.1 (List.getElem_mem hlt2)).1
  refine go2 (bw7 hl3 hv10 hv8 k6 k7 k9 hbe) fnil ?_
  refine wops_append (m:=S3.heap.length) rfl rfl (sR hl3) (sR hl3) .nil (el_sl (levT n k)[m]).sl (Nat.le_refl _) (by rw[encI_map];simp) (encI_cell _) (by simp only[maxList];omega) ?_
  intro a1 s1 hO1 hF1 hk1
  rw[encI_share,Nat.zero_add,List.nil_append] at hO1
  have x1:=hF1.len
  have x2:=hF1.lo
  have x3:=hF1.up
  refine go2 (bw hl3 hv10) fnil ?_
  refine wops_append rfl rfl (sR hl3) (sR (bw hl3 hv10)) hO1.push rfl (by simp only[len_push];omega) (by rfl) (by rfl) (by simp only[maxList];omega) ?_
  intro a2 s2 hO2 hF2 hk2
  have y1:=hF2.len
  have y2:=hF2.lo
  have y3:=hF2.up
  simp only[lo_push,len_push] at y1 y2 y3
  have hO2':OwnS S3.heap.length s2 1 a2 ((levT n k)[m]++[(x:Int) - 1]).length (((levT n k)[m]++[(x:Int) - 1]).flatMap encI):=by
   rw[List.length_append,List.flatMap_append]
   simpa[share_int] using hO2
  have hsh:a2.share=elL ((levT n k)[m]++[(x:Int) - 1]):=share_own hO2' rfl rfl (by simp)
  have hac:=sl_cells hO2'.sl
  have hFF:Fr S3.heap.length S3 s2:=(hF1.push x1).trans hF2
  have hOv:=hO.frame hFF (Nat.le_refl _)
  have d2:=hFF.hp d0 (by omega)
  have ld2:=hp_lt d2
  refine go2 (bw3 hl3 hsh hac) fnil ?_
  refine wops_append rfl rfl (sR (bw hl3 hv8)) (sR hl3) hOv.push rfl (by simp only[len_push];omega) (by rfl) (by simp only[List.all_cons,List.all_nil,el_share,el_isCell,Bool.and_true]) (by simp only[maxList];omega) ?_
  intro a3 s3 hO3 hF3 hk3
  have z1:=hF3.lo
  have z2:=hF3.up
  have z3:=hF3.len
  simp only[lo_push,len_push] at z1 z2 z3
  refine go2 (bw3 hl3 hv10 hwx) fnil ?_
  refine⟨a3,(sG hl3),by omega,?_,hk3 _ _ (by rw[hp_push,if_neg (by omega)];exact d2) (by simp),by omega,by omega⟩
  rw[outT_yes hlt2 hxk,List.flatMap_append,List.flatMap_singleton,List.length_append]
  simpa[el_share] using hO3
 have hlt:=of_decide_eq_false hbk
 have hkn:k=n:=by omega
 subst hkn
 clear hbk hlt hv7 hk hl h1 ld0
 have htl:=txt_in ht
 have hrl:∀ q,(rowI b.bk (t.map SI.l) q).length=k+1:=fun q=>by simp[rowI,hn]
 have hrin:∀ q,q<k→∀ x∈rowI b.bk (t.map SI.l) q,0≤x∧x≤16:=fun q hq=>row_in hB (fun l hl=>by obtain⟨x,hx,rfl⟩:=List.mem_map.1 hl;exact htl.2 x hx) (by omega)
 have hVl:=levT_len hn5 k
 have h65:6 ^ k≤6 ^ 5:=Nat.pow_le_pow_right (by omega) hn5
 refine go2 hl1 fnil ?_
 refine wp_for [12,11] (fun q vs S=>∃ v,vs=[iv q,v]∧q≤k∧OwnS st.heap.length S 1 v q ((tableI b.bk (t.map SI.l) q).flatMap encL)∧hp S st.heap.length=some (.var [iv b.words,b.v])∧st.heap.length≤S.lo∧S.lo≤S.heap.length) (fun q=>k - q) ⟨_,(sR hl1),Nat.zero_le _,.nil,d0,hlo,hwf⟩ ?_
 clear d0 hlo hwf
 rintro q tm2 S2 ⟨v2,hv,hq,hO,d0,hlo,hwf⟩ hS2
 obtain⟨hv12,hv11⟩:=mv2 hv
 have hl2:tm2.length=135:=lN hS2 hl1;have j1:tg tm2 1=T:=tQ hS2 (bw4 hl1 i1 i2 hv6);have j2:tg tm2 2 = .ptr st.heap.length 0:=tQ hS2 (bw4 hl1 i1 i2 hv6);have j6:tg tm2 6=V:=tQ hS2 (bw4 hl1 i1 i2 hv6);clear hS2
 have ld0:=hp_lt d0
 refine go2 (bw5 hl2 hv12 j2 d0 (n4 ld0)) fnil ?_
 refine⟨decide ((q:Int)<k),(sG (bw hl2 hn)),fun hbq=>?_,fun hbq=>?_⟩
 rotate_left
 ·have hlt:q<k:=by have:=of_decide_eq_true hbq;omega
  have hwq:=wS q (by omega)
  refine⟨by omega,?_⟩
  refine go2 hl2 fnil ?_
  refine wp_for [14,13] (fun x vs S'=>∃ u,vs=[iv ((x:Int) - 1),u]∧x≤k+1∧OwnS S2.heap.length S' 1 u x (((rowI b.bk (t.map SI.l) q).take x).flatMap encI)∧Fr S2.heap.length S2 S'∧hp S' st.heap.length=some (.var [iv b.words,b.v])∧st.heap.length≤S'.lo∧S'.lo≤S'.heap.length) (fun x=>k+1 - x) ⟨_,(sR hl2),Nat.zero_le _,.nil,.refl _ _,d0,hlo,hwf⟩ ?_
  have hss:st.heap.length≤S2.heap.length:=by omega
  clear d0 hlo hwf ld0
  rintro x tm3 S3 ⟨u,hv,hx,hU,hF,d0,hlo,hwf⟩ hS3
  obtain⟨hv14,hv13⟩:=mv2 hv
  have hl3:tm3.length=135:=lN hS3 hl2;have k1:tg tm3 1=T:=tQ hS3 (bw5 hl2 j1 j2 hv11 hv12);have k2:tg tm3 2 = .ptr st.heap.length 0:=tQ hS3 (bw5 hl2 j1 j2 hv11 hv12);have k11:tg tm3 11=v2:=tQ hS3 (bw5 hl2 j1 j2 hv11 hv12);have k12:tg tm3 12=iv q:=tQ hS3 (bw5 hl2 j1 j2 hv11 hv12);clear hS3
  have ld0:=hp_lt d0
  have f1:=hF.len
  refine go2 (bw5 hl3 hv14 k2 d0 (n4 ld0)) fnil ?_
  refine⟨decide ((x:Int) - 1<k),(sG (bw hl3 hn)),fun hbx=>?_,fun hbx=>?_⟩
  ·have hlt3:=of_decide_eq_false hbx
   have hxn:x=(rowI b.bk (t.map SI.l) q).length:=by rw[hrl];omega
   rw[hxn,List.take_length] at hU
   have hsh:u.share=elL (rowI b.bk (t.map SI.l) q):=share_own hU rfl rfl (by intro e;have:=congrArg List.length e;rw[hrl,List.length_nil] at this;omega)
   have huc:=sl_cells hU.sl
   have hO2:=hO.frame hF (Nat.le_refl _)
   refine go2 (bw5 hl3 hv13 k11 hsh huc) fnil ?_
   refine wops_append rfl rfl (sR (bw hl3 k11)) (sR hl3) hO2.push rfl (by simp only[len_push];omega) (by rfl) (by simp only[List.all_cons,List.all_nil,el_share,el_isCell,Bool.and_true]) (by simp only[maxList];omega) ?_
   intro v' s3 hO3 hF3 hk3
   have y1:=hF3.lo
   have y2:=hF3.up
   have y3:=hF3.len
   simp only[lo_push,len_push] at y1 y2 y3
   refine go2 (bw3 hl3 k12 hwq) fnil ?_
   refine⟨v',(sG hl3),by omega,?_,hk3 _ _ (by rw[hp_push,if_neg (by omega)];exact d0) (by simp),by omega,by omega⟩
   rw[tableI_succ,List.flatMap_append,List.flatMap_singleton]
   simpa[el_share] using hO3
  have hlt3:x<k+1:=by have:=of_decide_eq_true hbx;omega
  have hwx:IntKind.wrap .i64 (((x:Int) - 1)+1)=((x+1:Nat):Int) - 1:=by rw[wrap_in (by unfold inI;omega)];omega
  have hxr:x<(rowI b.bk (t.map SI.l) q).length:=by rw[hrl];omega
  have hrt:=row_takes (b:=b.bk) (t:=t.map SI.l) (k:=q) (x:=x) (by omega)
  refine⟨by omega,?_⟩
  have kc:=fun st=>c120 b hB T t hT ht ((x:Int) - 1) (by omega) (by omega) q (by omega) st
  refine go2 (bw8 hl3 hv14 hv13 k1 k2 k12 d0 (n4 ld0)) (bw kc fnil) ?_
  refine wops_append rfl rfl (sR (bw hl3 hv13)) (sR hl3) hU.push rfl (by simp only[len_push];omega) (by rfl) (by rfl) (by simp only[maxList];omega) ?_
  intro u' s3 hU3 hF3 hk3
  have hFF:=(hF.push f1).trans hF3
  have y1:=hF3.lo
  have y2:=hF3.up
  have y3:=hF3.len
  simp only[lo_push,len_push] at y1 y2 y3
  refine go2 (bw3 hl3 hv14 hwx) fnil ?_
  refine⟨u',(sG hl3),by omega,?_,hFF,hk3 _ _ (by rw[hp_push,if_neg (by omega)];exact d0) (by simp),by omega,by omega⟩
  rw[List.take_succ_eq_append_getElem hxr,List.flatMap_append,hrt]
  simpa[share_int] using hU3
 have hlt:=of_decide_eq_false hbq
 have hqn:q=b.bk.copies.length:=by omega
 rw[hqn] at hO
 have hM:SlOf 1 encL v2 (tableI b.bk (t.map SI.l) b.bk.copies.length):=SlOf.of_sl hO.sl (by simp[tableI]) rfl (fun _=>rfl)
 clear hO hbq hlt hv12 hq
 have hnb:k=b.bk.copies.length:=by omega
 have hMl:(tableI b.bk (t.map SI.l) b.bk.copies.length).length=k:=by simp[tableI,hn]
 refine go2 hl2 fnil ?_
 refine wp_for [17,15,16] (fun p vs S=>∃ a m,vs=[iv p,iv a,iv m]∧p≤(levT k k).length∧BestAt b.bk (t.map SI.l) p a m∧S=S2) (fun p=>(levT k k).length - p) ⟨-1,0,(sR hl2),Nat.zero_le _,bestAt_0 _ _,rfl⟩ ?_
 rintro p tm3 S3 ⟨a,m,hv,hp',hba,rfl⟩ hS3
 obtain⟨hv17,hv15,hv16⟩:=mv3 hv
 have hl3:tm3.length=135:=lN hS3 hl2;have k2:tg tm3 2 = .ptr st.heap.length 0:=tQ hS3 (bw4 hl2 j2 j6 hv11);have k6:tg tm3 6=V:=tQ hS3 (bw4 hl2 j2 j6 hv11);have k11:tg tm3 11=v2:=tQ hS3 (bw4 hl2 j2 j6 hv11);clear hS3
 refine go2 (bw4 hl3 hv17 k6 hVs) fnil ?_
 refine⟨decide ((p:Int)<(levT k k).length),(sG hl3),fun hbp=>?_,fun hbp=>?_⟩
 ·have hlt:=of_decide_eq_false hbp
  have hpn:p=(levT k k).length:=by omega
  rw[hpn,hnb] at hba
  obtain⟨j,hj,e1,e2,e3⟩:=bestAt_end ho hba
  subst e2
  subst e3
  have hj':j<(levT k k).length:=by rw[hnb];exact hj
  have e4:(levT k k)[j]=o.1:=by rw[← e1];simp only[hnb]
  refine go2 (bw5 hl3 hv15 hv16 k6 e4) fnil ?_
  refine fX (.tuple [elL o.1,iv o.2]) hl3 ?_
  rw[finish_el2 (by omega)]
  exact⟨rfl,rfl⟩
 have hlt:p<(levT k k).length:=by have:=of_decide_eq_true hbp;omega
 have hwp:=wS p (by omega)
 obtain⟨tr,htr⟩:∃ tr,tr=(levT k k)[p]:=⟨_,rfl⟩
 have hmt:=mem_levT.1 (List.getElem_mem hlt)
 rw[← htr] at hmt
 have hP:SlOf 1 encI (elL tr) tr:=el_sl _
 have hPs:=hP.slen
 refine⟨by omega,?_⟩
 refine go2 hl3 fnil ?_
 refine wp_for [19,18] (fun c vs S=>vs=[iv c,iv (sumT b.bk (t.map SI.l) tr c)]∧c≤k∧0≤sumT b.bk (t.map SI.l) tr c∧sumT b.bk (t.map SI.l) tr c≤16*c∧S=S3) (fun c=>k - c) ⟨(sR hl3),Nat.zero_le _,Int.le_refl _,Int.le_refl _,rfl⟩ ?_
 rintro c tm4 S4 ⟨hv,hc,hs1,hs2,rfl⟩ hS4
 obtain⟨hv19,hv18⟩:=mv2 hv
 have hl4:tm4.length=135:=lN hS4 hl3;have m2:tg tm4 2 = .ptr st.heap.length 0:=tQ hS4 (bw7 hl3 k2 k6 k11 hv15 hv16 hv17);have m6:tg tm4 6=V:=tQ hS4 (bw7 hl3 k2 k6 k11 hv15 hv16 hv17);have m11:tg tm4 11=v2:=tQ hS4 (bw7 hl3 k2 k6 k11 hv15 hv16 hv17);have m15:tg tm4 15=iv a:=tQ hS4 (bw7 hl3 k2 k6 k11 hv15 hv16 hv17);have m16:tg tm4 16=iv m:=tQ hS4 (bw7 hl3 k2 k6 k11 hv15 hv16 hv17);have m17:tg tm4 17=iv p:=tQ hS4 (bw7 hl3 k2 k6 k11 hv15 hv16 hv17);clear hS4
 have hge:(levT k k)[p]=tr:=htr.symm
 refine go2 (bw6 hl4 hv19 m6 m17 hge hPs) fnil ?_
 refine⟨decide ((c:Int)<tr.length),(sG hl4),fun hbc=>?_,fun hbc=>?_⟩
 rotate_left
 ·have hltc:c<tr.length:=by have:=of_decide_eq_true hbc;omega
  have hwc:=wS c (by omega)
  have hcm:c<(tableI b.bk (t.map SI.l) b.bk.copies.length).length:=by omega
  have hMg:=getD_row (b:=b.bk) (t:=t.map SI.l) (k:=c) (by omega)
  have hti:=hmt.2 c hltc
  obtain⟨y,hy⟩:∃ y:Nat,tr[c]+1=y:=⟨(tr[c]+1).toNat,by omega⟩
  have hwy:IntKind.wrap .i64 (tr[c]+1)=(y:Int):=by rw[hy];exact wrap_nat (by omega)
  have hR:SlOf 1 encI (elL (rowI b.bk (t.map SI.l) c)) (rowI b.bk (t.map SI.l) c):=el_sl _
  have hyr:y<(rowI b.bk (t.map SI.l) c).length:=by rw[hrl];omega
  have hri:=hrin c (by omega) _ (List.getElem_mem hyr)
  have hsu:sumT b.bk (t.map SI.l) tr (c+1)=sumT b.bk (t.map SI.l) tr c+(rowI b.bk (t.map SI.l) c)[y]:=by
   rw[sumT_succ,List.getD_eq_getElem?_getD (l:=tableI _ _ _),List.getElem?_eq_getElem hcm,Option.getD_some,hMg,List.getD_eq_getElem?_getD (l:=tr),List.getElem?_eq_getElem hltc,Option.getD_some,show (tr[c]+1).toNat=y by omega,List.getD_eq_getElem?_getD,List.getElem?_eq_getElem hyr];rfl
  have hws:IntKind.wrap .i64 (sumT b.bk (t.map SI.l) tr c+(rowI b.bk (t.map SI.l) c)[y])=sumT b.bk (t.map SI.l) tr (c+1):=by rw[hsu];exact wrap_in (by unfold inI;omega)
  refine⟨by omega,?_⟩
  refine go2 (bw11 hl4 hv19 hv18 m6 m11 m17 hge hMg hwy hws hwc) fnil ?_
  exact⟨(sG hl4),by omega,by omega,by omega,rfl⟩
 have hltc:=of_decide_eq_false hbc
 have hck:c=tr.length:=by omega
 have hk72:=fun st=>c72 b (by omega) (elL tr) tr hP (by omega) st
 have htot:treeB b.bk.copies.length tr=true→sumT b.bk (t.map SI.l) tr c=totalI b.bk (t.map SI.l) tr:=fun h=>by rw[hck];exact tab_total h
 have hpl:p<(levT b.bk.copies.length b.bk.copies.length).length:=by rw[← hnb];exact hlt
 have hge':(levT b.bk.copies.length b.bk.copies.length)[p]=tr:=by rw[htr];simp only[hnb]
 have hno:=fun h=>bestAt_no (t:=t.map SI.l) (a:=a) (m:=m) hpl (by rw[hge'];exact h) hba
 have hyes:=fun h=>bestAt_yes (t:=t.map SI.l) (a:=a) (m:=m) hpl (by rw[hge'];exact h) hba
 rw[hge',hbl] at hyes
 rw[hbl] at hno htot
 cases p1:decide (a<0)
 ·cases p2:decide (sumT b.bk (t.map SI.l) tr c<m)
  ·have hB2:BestAt b.bk (t.map SI.l) (p+1) a m:=by
    cases hq:treeB b.cs.length tr
    ·exact hno hq
    ·have:=hyes hq
     rw[← htot hq,p1,p2,if_neg (by simp)] at this
     exact this
   refine go2 (bw10 hl4 hv18 m2 m6 m15 m16 m17 p1 p2 hwp) fnil ?_
   exact⟨a,m,(sG (bw3 hl4 m15 m16)),by omega,hB2,rfl⟩
  ·cases hq:treeB b.cs.length tr
   ·rw[hq] at hk72
    refine go2 (bw13 hl4 hv18 m2 m6 m15 m16 m17 p1 p2 hge hwp d0 (n4 ld0)) (bw hk72 fnil) ?_
    exact⟨a,m,(sG (bw3 hl4 m15 m16)),by omega,hno hq,rfl⟩
   ·rw[hq] at hk72
    have h2:=hyes hq
    rw[← htot hq,p1,p2,if_pos (by rfl)] at h2
    refine go2 (bw13 hl4 hv18 m2 m6 m15 m16 m17 p1 p2 hge hwp d0 (n4 ld0)) (bw hk72 fnil) ?_
    exact⟨p,_,(sR hl4),by omega,h2,rfl⟩
 ·cases hq:treeB b.cs.length tr
  ·rw[hq] at hk72
   refine go2 (bw12 hl4 hv18 m2 m6 m15 m16 m17 p1 hge hwp d0 (n4 ld0)) (bw hk72 fnil) ?_
   exact⟨a,m,(sG (bw3 hl4 m15 m16)),by omega,hno hq,rfl⟩
  ·rw[hq] at hk72
   have h2:=hyes hq
   rw[← htot hq,p1,if_pos (by rfl)] at h2
   refine go2 (bw12 hl4 hv18 m2 m6 m15 m16 m17 p1 hge hwp d0 (n4 ld0)) (bw hk72 fnil) ?_
   exact⟨p,_,(sR hl4),by omega,h2,rfl⟩
end Go.Den.Ve
end
section
namespace Go.Den.Ve
def anyArg (b:BP) (l1 l2:List Int):Bool:=smallB b&&(decide ((l1.length:Int)≤6)&&decide ((l2.length:Int)≤6))
end Go.Den.Ve
end
section
namespace Go.Den.Ve
end Go.Den.Ve
end
section
namespace Go.Den.Ve
end Go.Den.Ve
end
section
namespace Go.Den.Ve
def allH (X:List (List Int)) (l:List Int):Bool:=X.all fun x=>holdL x l
def allHK (X:List (List Int)) (l:List Int) (k:Nat):Bool:=(X.take k).all fun x=>holdL x l
def ComR (X:List (List Int)) (w:Nat):List Int:=commonR (allH X) [] (linesL w)
end Go.Den.Ve
end
section
namespace Go.Den.Ve
theorem best_tree{b:BP}{t:List SI}{o:List Int×Int}(h:bestF (fun x y:List Int×Int=>decide (x.2<y.2)) (treesT b.bk (t.map SI.l))=some o):treeB b.cs.length o.1=true∧o.2=totalI b.bk (t.map SI.l) o.1∧∀ tr,treeB b.cs.length tr=true→o.2≤totalI b.bk (t.map SI.l) tr∧(totalI b.bk (t.map SI.l) tr=o.2→bef tr o.1=false):=by
 have hbl:b.bk.copies.length=b.cs.length:=by simp
 obtain⟨A,B,e,h1,h2⟩:=best_some (m:=fun x:List Int×Int=>x.2) h
 have hs:(treesT b.bk (t.map SI.l)).Pairwise (fun x y=>bef x.1 y.1=true):=by
  unfold treesT
  rw[List.pairwise_map]
  exact trees_sorted _
 have hm:o∈treesT b.bk (t.map SI.l):=by rw[e];simp
 obtain⟨tr,htr,rfl⟩:=List.mem_map.1 hm
 rw[mem_trees,hbl] at htr
 refine⟨htr,rfl,fun y hy=>?_⟩
 have hym:(y,totalI b.bk (t.map SI.l) y)∈treesT b.bk (t.map SI.l):=List.mem_map.2 ⟨y,mem_trees.2 (by rw[hbl];exact hy),rfl⟩
 rw[e] at hs hym
 rcases List.mem_append.1 hym with hy'|hy'
 ·have h3:=h1 _ hy'
  simp only at h3
  exact⟨Int.le_of_lt h3,fun h4=>by simp only at h4;omega⟩
 ·rcases List.mem_cons.1 hy' with hy'|hy'
  ·cases hy'
   exact⟨Int.le_refl _,fun _=>bef_irr _⟩
  ·have h3:=h2 _ hy'
   simp only at h3
   refine⟨h3,fun _=>?_⟩
   rw[List.pairwise_append] at hs
   exact bef_asym _ _ ((List.pairwise_cons.1 hs.2.1).1 _ hy')
end Go.Den.Ve
end

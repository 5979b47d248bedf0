/- Part of the proofs of laws of the package version. Texts: VnN, VnO, VnP, VnQ, VnR. -/
import Derived.Test.YtehdcjbdhkkipaaGreatDoorVMAs
set_option linter.unusedSimpArgs false
set_option linter.unusedVariables false
section
namespace Go.Den.Ve
theorem minL_map{α β:Type}(m:β→Int)(f:α→β):∀ l:List α,minL m (l.map f)=minL (fun x=>m (f x)) l
 | []=>rfl
 | [x]=>rfl
 | x::y::l=>by
  have:=minL_map m f (y::l)
  simp only[List.map_cons] at this ⊢
  rw[minL,minL,this]
theorem leastL_map{α β:Type}(m:β→Int)(f:α→β)(l:List α):leastL m (l.map f)=(leastL (fun x=>m (f x)) l).map f:=by
 unfold leastL
 rw[minL_map,List.filter_map]
 rfl
theorem outF_all(b:BP)(i wd:Nat)(hwd:b.words=wd):outF [] (allL b i wd)=leastB b.bk i∧minL (mF []) (allL b i wd)=manyB b.bk i:=by
 have e:(fun l=>mF [] (l,cost1 b.bk i l))=cost1 b.bk i:=by funext l;simp[mF]
 have e2:b.bk.words.toNat=wd:=by show b.words.toNat=wd;omega
 unfold outF allL leastB manyB
 rw[leastL_map,minL_map,e,e2,List.map_map]
 exact⟨List.map_id _,rfl⟩
theorem cost_bound(b:BP)(h:OkB b.bk)(i:Nat)(hi:i<lines1 b.bk)(l:List Int)(hl:l.length≤4):0≤cost1 b.bk i l∧cost1 b.bk i l≤20:=by
 rw[← kept_sum b i (h.len hi) l]
 have h5:=kept_many b h i
 have:=sum_bound (l:=(keptS b i).map fun k=>((lev l k.l:Nat):Int)) (b:=4) (by omega) (fun y hy=>by
  obtain⟨a,ha,rfl⟩:=List.mem_map.1 hy
  have:=lev_max l a.l
  have:=kept4 b h i a ha
  omega)
 simp only[List.length_map] at this
 omega
theorem all_ok(b:BP)(h:OkB b.bk)(i wd:Nat)(hw:wd≤3)(hi:i<lines1 b.bk):OkX (allL b i wd)∧0<(allL b i wd).length:=by
 have hl:=lines_len wd hw
 have hm:∀ x∈allL b i wd,x.1∈linesL wd∧x.2=cost1 b.bk i x.1:=fun x hx=>by
  obtain⟨l,hl,rfl⟩:=List.mem_map.1 hx
  exact⟨hl,rfl⟩
 refine⟨⟨by simp[allL];omega,fun x hx=>(mem_lines.1 (hm x hx).1).1,fun x hx=>?_⟩,?_⟩
 ·rw[(hm x hx).2]
  have:=cost_bound b h i hi x.1 (mem_lines.1 (hm x hx).1).1
  omega
 ·rw[allL,List.length_map]
  exact List.length_pos_iff.2 (lines_ne wd)
set_option maxHeartbeats 1000000 in
theorem c91(b:BP)(h:OkB b.bk)(i:Nat)(hi:i<lines1 b.bk)(st:St):ClR EE (.func 91 [] []) [pgPV b i] st (fun v st'=>∃ u,v = .tuple [u,iv (manyB b.bk i)]∧RetW st (leastB b.bk i).length ((leastB b.bk i).flatMap encL) u st'):=by
 obtain⟨wd,hwd⟩:∃ wd:Nat,b.words=wd:=⟨b.words.toNat,by have hw:OkW b.words:=h.okW;have:=hw.lo;omega⟩
 have hw3:wd≤3:=by have hw:OkW b.words:=h.okW;have:=hw.hi;omega
 obtain⟨hX,hX0⟩:=all_ok b h i wd hw3 hi
 have e:=outF_all b i wd hwd
 refine cG1 pr91 fn91 (fun tm hl h0=>?_)
 refine go2 (bw hl h0) fnil ?_
 refine cR (bw hl h0) (c102 b h i wd hwd hi _) ?_
 intro V s1 hR
 have hV:SlOf 2 encC V (allL b i wd):=hR.own_sl (fun _=>rfl)
 have z1:=hR.lo
 have z2:=hR.len
 simp only[lo_push,len_push] at z1 z2
 refine cR hl (c103 V .nilslice (allL b i wd) [] hV .nil hX ⟨by simp,fun a h=>by cases h⟩ hX0 s1) ?_
 rw[e.1,e.2]
 rintro v s2 ⟨u,rfl,hR2⟩
 have y1:=hR2.lo
 have y2:=hR2.len
 refine go2 hl fnil ?_
 refine fX (.tuple [u,iv (manyB b.bk i)]) hl ?_
 exact finish_slT hR2.1 (by rfl) (by omega) (fun m=>lowL_of fun c hc=>encL_low _ _ _ hc)
def lnArg (b:BP) (n:Int):Bool:=bookB b.bk&&inN n 0 (lines1 b.bk - 1)
set_option maxHeartbeats 1000000 in
theorem c42_yes(b:BP)(hN:SmB b)(i:Nat)(h:OkB b.bk)(hi:i<lines1 b.bk)(st:St):ClR EE (.func 42 [] []) [b.pv,iv i] st (fun v st'=>∃ u,v = .tuple [u,iv (manyB b.bk i),iv 0]∧RetW st (leastB b.bk i).length ((leastB b.bk i).flatMap encL) u st'):=by
 have h81:=c81 b hN
 have hA:=bookB_iff.2 h
 have k90:=fun st=>c90 b h i st
 have hin:inN (i:Int) 0 (lines1 b.bk - 1)=true:=by simp only[inN,Bool.and_eq_true,decide_eq_true_eq];omega
 refine cG2 pr42 fn42 (fun tm hl h0 h1=>?_)
 refine go2 (bw5 hl h0 h1 hA hin) (bw3 h81 k90 fnil) ?_
 refine cR (bw hl h1) (c91 b h i hi _) ?_
 rintro v s2 ⟨u,rfl,hR2⟩
 have y1:=hR2.lo
 have y2:=hR2.len
 simp only[lo_push,len_push] at y1 y2
 refine go2 hl fnil ?_
 refine fX (.tuple [u,iv (manyB b.bk i),iv 0]) hl ?_
 exact finish_slT hR2.1 (by rfl) (by omega) (fun m=>lowL_of fun c hc=>encL_low _ _ _ hc)
theorem holdL_drop(line list:List Int){i a:Nat}(hi:i<line.length)(ha:a<list.length):holdL (line.drop i) (list.drop a)=if list[a]=line[i] then holdL (line.drop (i+1)) (list.drop (a+1)) else holdL (line.drop (i+1)) (list.drop a):=by
 rw[List.drop_eq_getElem_cons hi,List.drop_eq_getElem_cons ha,holdL]
set_option maxHeartbeats 1000000 in
theorem c95(L1 L2:PV)(line list:List Int)(hL1:SlOf 1 encI L1 line)(hL2:SlOf 1 encI L2 list)(hN:line.length<1000)(hN2:list.length<1000)(st:St):Cl EE (.func 95 [] []) [L1,L2] st (.ret (.bool (holdL line list))) st:=by
 have s1:=hL1.slen
 have s2:=hL2.slen
 refine cF2 pr95 fn95 (fun tm hl h0 h1=>?_)
 refine go2 (bw5 hl h0 h1 s1 s2) fnil ?_
 refine wp_range line.length [5] (fun i vs st'=>∃ a:Nat,vs=[iv a]∧a≤list.length∧a≤i∧holdL (line.drop i) (list.drop a)=holdL line list∧st'={ heap:=st.heap,lo:=st.heap.length }) (by omega) (sG hl) (sG hl) (sG hl) (by decide) ⟨0,(sR hl),Nat.zero_le _,Nat.le_refl _,rfl,rfl⟩ ?_ ?_
 ·rintro i hi tm1 st1 ⟨a,hv,ha,hai,he,rfl⟩ hS hia
  replace hv:=mv1 hv
  have hl1:tm1.length=33:=lN hS hl;have j1:tg tm1 1=L2:=tQ hS (bw hl h1);have j8:tg tm1 8=L1:=tQ hS (bw hl h1);clear hS
  by_cases hal:a<list.length
  ·have hd:decide ((a:Int)<(list.length:Int))=true:=by simp;omega
   have hh:=holdL_drop line list hi hal
   by_cases hq:list[a]=line[i]
   ·have hb:(list[a]==line[i])=true:=by simp[hq]
    have hw:=wrapN (n:=a) (by omega)
    rw[if_pos hq] at hh
    refine go2 (bw9 hl1 j1 j8 hia hv s2 hd hb hw) fnil ?_
    exact⟨a+1,(sG hl1),by omega,by omega,by rw[← he,hh],rfl⟩
   ·have hb:(list[a]==line[i])=false:=by simp[hq]
    rw[if_neg hq] at hh
    refine go2 (bw8 hl1 j1 j8 hia hv s2 hd hb) fnil ?_
    exact⟨a,(sG (bw hl1 hv)),by omega,by omega,by rw[← he,hh],rfl⟩
  ·have hd:decide ((a:Int)<(list.length:Int))=false:=by simp;omega
   have hn:list.drop a=[]:=List.drop_eq_nil_of_le (by omega)
   rw[hn,hold_nil] at he
   refine go2 (bw7 hl1 j1 j8 hia hv s2 hd) fnil ?_
   exact⟨a,(sG (bw hl1 hv)),by omega,by omega,by rw[← he,hn,hold_nil],rfl⟩
 ·rintro tm1 st1 ⟨a,hv,ha,hai,he,rfl⟩ hS
  replace hv:=mv1 hv
  have hl1:tm1.length=33:=lN hS hl;have j1:tg tm1 1=L2:=tQ hS (bw hl h1);clear hS
  rw[List.drop_length] at he
  have hb:((a:Int)==(list.length:Int))=holdL line list:=by
   rw[← he]
   rcases Nat.lt_or_ge a list.length with h|h
   ·rw[List.drop_eq_getElem_cons h,holdL];simp;omega
   ·rw[List.drop_eq_nil_of_le h,holdL];simp;omega
  refine go2 (bw5 hl1 j1 hv s2 hb) fnil ?_
  exact fQ hl1
theorem c94(L1 L2:PV)(line list:List Int)(hL1:SlOf 1 encI L1 line)(hL2:SlOf 1 encI L2 list)(hN:line.length<1000)(hN2:list.length<1000)(st:St)(p:Nat)(hp0:hp st p=some (.var [L2])):Cl EE (.func 94 [] [.ptr p 0]) [L1] st (.ret (.bool (!holdL line list))) st:=by
 have hp':hp { heap:=st.heap,lo:=st.heap.length } p=some (.var [L2]):=hp0
 have k:=fun st=>c95 L1 L2 line list hL1 hL2 hN hN2 st
 refine cF2 pr94 fn94 (fun tm hl h0 h1=>?_)
 refine go2 (bw4 hl h0 h1 hp') (bw k fnil) ?_
 exact fQ hl
end Go.Den.Ve
end
section
namespace Go.Den.Ve
def SI.of (p:List Int):SI:=⟨elL p,p,el_sl p⟩
theorem slSI{V:PV}{l:List (List Int)}(h:SlOf 1 encL V l):SlOf 1 encSI V (l.map SI.of):=by
 have h1:=h.sl
 refine⟨?_,fun _ _=>rfl⟩
 rw[h1,List.length_map,List.flatMap_map]
 rfl
theorem repL_cell(v:PV)(x:List Int)(h:RepL v x):v.cells=[v]∧v.isCell=true:=⟨h.1.cells,h.1.isCell⟩
def comP (b:BK) (i:Nat) (l:List Int):Bool:=(leastB b i).all fun x=>holdL x l
theorem least_mem{b:BP}(h:OkB b.bk){i:Nat}{x:List Int}(hx:x∈leastB b.bk i):x.length≤4∧lineB b.words x=true:=by
 have h1:=(mem_least.1 hx).1
 exact⟨(mem_lines.1 h1).1,(mem_linesB h).1 h1⟩
theorem least_len(b:BP)(h:OkB b.bk)(i:Nat):(leastB b.bk i).length≤121:=by
 refine Nat.le_trans (List.length_filter_le _ _) (lines_len _ ?_)
 have:=h.w3
 omega
set_option maxHeartbeats 4000000 in
theorem c43_yes(b:BP)(hN:SmB b)(i:Nat)(h:OkB b.bk)(hi:i<lines1 b.bk)(st:St):ClR EE (.func 43 [] []) [b.pv,iv i] st (fun v st'=>∃ u,v = .tuple [u,iv 0]∧RetW st (commonB b.bk i).length ((commonB b.bk i).flatMap encI) u st'):=by
 have h81:=c81 b hN
 have hA:=bookB_iff.2 h
 have k90:=fun st=>c90 b h i st
 have hin:inN (i:Int) 0 (lines1 b.bk - 1)=true:=by simp only[inN,Bool.and_eq_true,decide_eq_true_eq];omega
 obtain⟨wd,hwd⟩:∃ wd:Nat,b.words=wd:=⟨b.words.toNat,by have hw:OkW b.words:=h.okW;have:=hw.lo;omega⟩
 have hw3:wd≤3:=by have hw:OkW b.words:=h.okW;have:=hw.hi;omega
 have hcom:commonB b.bk i=commonL wd (comP b.bk i) 4:=by
  have e2:b.bk.words.toNat=wd:=by show b.words.toNat=wd;omega
  unfold commonB
  rw[e2];rfl
 rw[hcom]
 generalize hP:comP b.bk i=P
 refine cG2 pr43 fn43 (fun tm hl h0 h1=>?_)
 refine go2 (bw5 hl h0 h1 hA hin) (bw3 h81 k90 fnil) ?_
 refine cR (bw hl h1) (c91 b h i hi _) ?_
 rintro v s1 ⟨U,rfl,hR⟩
 have hU:SlOf 1 encL U (leastB b.bk i):=hR.own_sl (fun _=>rfl)
 have hUc:=hU.cells
 have hUi:=hU.isCell
 have b0:hp s1 st.heap.length=some (.var [iv b.words,b.v]):=hR.hp (l:=st.heap.length) (sG fnil)
 have z1:=hR.lo
 have z2:=hR.len
 simp only[lo_push,len_push] at z1 z2
 have lb0:=hp_lt b0
 have hz:s1.lo≤s1.heap.length:=by omega
 refine go2 (bw4 hl hUc hUi (n4 lb0)) fnil ?_
 refine wp_for [9] (fun n vs st'=>n≤4∧vs=[iv ((4 - n:Nat):Int)]∧commonL wd P (4 - n)=commonL wd P 4∧hp st' st.heap.length=some (.var [iv b.words,b.v])∧hp st' s1.heap.length=some (.var [U])∧hp st' (s1.heap.length+1)=some (.var [.nilslice])∧st.heap.length≤st'.lo∧st'.lo≤st'.heap.length) (fun n=>4 - n)
  ⟨Nat.zero_le _,(sR hl),rfl,(sG (bw b0 (n4 lb0))),(sG fnil),(sG fnil),by simp only[lo_push,lo_setVar];omega,by simp only[lo_push,lo_setVar,len_push,len_setVar];omega⟩ ?_
 rintro n tm1 st1 ⟨hn,hv,hc,d0,d6,d8,hlo,hwf⟩ hS
 replace hv:=mv1 hv
 have hl1:tm1.length=42:=lN hS hl;have j2:tg tm1 2 = .ptr st.heap.length 0:=tQ hS hl;have j6:tg tm1 6 = .ptr s1.heap.length 0:=tQ hS hl;have j8:tg tm1 8 = .ptr (s1.heap.length+1) 0:=tQ hS hl;clear hS
 have ld8:=hp_lt d8
 refine go2 (bw hl1 hv) fnil ?_
 refine⟨_,(sR hl1),fun hb=>?_,fun hb=>⟨?_,?_⟩⟩
 ·have hn4:4 - n=0:=by simp at hb;omega
  rw[hn4] at hc
  refine go2 (bw3 hl1 j8 d8) fnil ?_
  refine fX (.tuple [.nilslice,iv 0]) hl1 ?_
  rw[← hc]
  exact finish_slT (by rfl) (by rfl) hlo (fun m=>rfl)
 ·simp at hb;omega
 ·have hn4:∃ k,4 - n=k+1:=⟨3 - n,by simp at hb;omega⟩
  obtain⟨k,hk⟩:=hn4
  rw[hk] at hc
  have c92':=fun st=>c92 wd (k+1) st
  refine go2 (bw6 hl1 j2 hv hk d0 hwd) (bw c92' fnil) ?_
  apply wp_block
  have hx2:HExt st1.heap ((st1.push (.var [iv wd])).push (.var [iv ((k+1:Nat):Int)])).heap:=(HExt.push _ _).trans (.push _ _)
  have hUS:=slSI hU
  have hUn:=least_len b h i
  have hany:∀ l,(!((leastB b.bk i).map SI.of).any fun x=>!holdL x.l l)=P l:=fun l=>by
   rw[← hP]
   simp[comP,List.any_map,SI.of,Function.comp_def,List.all_eq_not_any_not]
  refine wp_rangeB (X:=listsL wd (k+1)) (Rep:=RepL) (priv:=fun l=>l=st1.heap.length+1∨l=st1.heap.length) [s1.heap.length+1] st.heap.length
   (fun n L=>L=[(s1.heap.length,.var [U]),(s1.heap.length+1,.var [.nilslice]),(st.heap.length,.var [iv b.words,b.v])]∧∀ x∈(listsL wd (k+1)).take n,P x=false)
   (fun j L=>j = .exit 0∧∃ v x,RepL v x∧(listsL wd (k+1)).find? P=some x∧L=[(s1.heap.length+1,.var [v])])
   (sG hl1) (fun o=>iter139 (by omega) (by omega) (sG fnil) (sG fnil)) repL_cell rfl (sG hl1) (sG hl1) (by decide) (fun l hl=>by simp only[List.mem_singleton,len_push];omega) (fun l hl=>by simp only[List.mem_singleton] at hl;simp only[len_push];omega) (by simp only[lo_push];omega) (by simp only[lo_push,len_push];omega)
   ⟨_,.cons (hx2.hp d6) rfl (.cons (hx2.hp d8) rfl (.cons (hx2.hp d0) rfl (.nil _))),rfl,by simp⟩ ?_ ?_ ?_
  ·rintro n hn v s0 L p0 hx hH' ⟨rfl,hno⟩ hp0 hlp he hwf0
   have hH:Has s0.heap [(s1.heap.length,.var [U]),(s1.heap.length+1,.var [.nilslice]),(st.heap.length,.var [iv b.words,b.v])]:=hH'
   simp only[len_push] at hlp
   have e6:=hH.hp (l:=s1.heap.length) (o := .var [U]) (by simp)
   have e8:=hH.hp (l:=s1.heap.length+1) (o := .var [.nilslice]) (by simp)
   have le8:=hp_lt e8
   have hxl:=(mem_lists.1 (List.getElem_mem hn)).1
   have hvc:=hx.1.cells
   have hvi:=hx.1.isCell
   have kc:=c93 U ((leastB b.bk i).map SI.of) hUS (by rw[List.length_map];omega) 94 [] [.ptr p0 0] (fun x=>!holdL x.l (listsL wd (k+1))[n]) s0 (fun st' he a ha=>by
    obtain⟨y,hy,rfl⟩:=List.mem_map.1 ha
    have:=(least_mem h hy).1
    exact c94 _ _ y _ (el_sl y) hx.1 (by omega) (by omega) st' p0 (by simpa[hp,he] using hp0))
   cases hPx:P (listsL wd (k+1))[n]
   ·have hq:=hany (listsL wd (k+1))[n]
    rw[hPx] at hq
    refine go2 (bw5 hl1 j6 j8 e6 hq) (bw kc fnil) ?_
    refine⟨.refl _ _,he,hwf0,trivial,_,hH,rfl,fun x hxm=>?_⟩
    rw[List.take_succ_eq_append_getElem hn,List.mem_append,List.mem_singleton] at hxm
    rcases hxm with hxm|rfl
    ·exact hno x hxm
    ·exact hPx
   ·have hq:=hany (listsL wd (k+1))[n]
    rw[hPx] at hq
    refine go2 (bw10 hl1 j6 j8 e6 e8 hp0 hq hvc hvi (n4 le8)) (bw kc fnil) ?_
    refine⟨(KeepV.refl _ _).kset (.inl (by simp)),by rw[lo_setVar];omega,by rw[lo_setVar,len_setVar];omega,trivial,_,.cons (by rw[hp_setVar,if_pos rfl,if_pos le8]) rfl (.nil _),rfl,v,_,hx,?_,rfl⟩
    rw[List.find?_eq_some_iff_append]
    refine⟨hPx,(listsL wd (k+1)).take n,(listsL wd (k+1)).drop (n+1),?_,fun x hxm=>by rw[hno x hxm];rfl⟩
    rw[← List.drop_eq_getElem_cons hn,List.take_append_drop]
  ·rintro s4 L hH' ⟨rfl,hno⟩ k4 he4 hw4
   have hH:Has s4.heap [(s1.heap.length,.var [U]),(s1.heap.length+1,.var [.nilslice]),(st.heap.length,.var [iv b.words,b.v])]:=hH'
   have hw:IntKind.wrap .i64 ((((4 - n:Nat):Int)) - 1)=((4 - (n+1):Nat):Int):=by rw[wrap_in (by unfold inI;omega)];omega
   rw[List.take_length] at hno
   refine go2 (bw3 hl1 hv hw) fnil ?_
   refine⟨by omega,(sG hl1),?_,hH.hp (by simp),hH.hp (by simp),hH.hp (by simp),he4,hw4⟩
   rw[show 4 - (n+1)=k by omega,← hc,commonL,List.find?_eq_none.2 (fun x hx=>by rw[hno x hx];simp)]
  ·rintro j s4 L hH' ⟨rfl,v,x,hx,hf,rfl⟩ k4 he4 hw4
   have hH:Has s4.heap [(s1.heap.length+1,.var [v])]:=hH'
   have e8:=hH.hp (l:=s1.heap.length+1) (o := .var [v]) (by simp)
   have hcx:commonL wd P 4=x:=by rw[← hc,commonL,hf]
   simp only[jumpEx]
   refine go2 (bw3 hl1 j8 e8) fnil ?_
   refine fX (.tuple [v,iv 0]) hl1 ?_
   rw[hcx]
   exact finish_slT hx.1.sl (by rfl) he4 (fun m=>ints_low _ _)
end Go.Den.Ve
end
section
namespace Go.Den
def tagOf:PV→Option Nat
 | .slice (.tag t _) _ _=>some t
 | _=>none
theorem wops_appendO{E:Env}{Q:Ex→List PV→St→Prop}{tm:List PV}{st:St}{sz:Nat}{x y:Opd}{dst:Option Nat}{g:Option (Nat×Bool)}{os:List DOper}{b:Bool}{m n k:Nat}{v w:PV}{cs ys:List PV}(hw:wants tm g=b)(hb:b=true)(hx:x.ev tm=v)(hy:y.ev tm=w)(h:OwnS m st sz v n cs)(hyl:w.sl=some (k,ys))(hm:m≤st.heap.length)(hl:ys.length=k*sz)(hc:ys.all PV.isCell=true)(hn:n+k≤maxList)(hk:0<k)
  (hq:∀ v' st',OwnS m st' sz v' (n+k) (cs++ys.map PV.share)→Fr m st st'→tagOf v'=some st'.heap.length.pred→st.heap.length<st'.heap.length→(∀ l o,hp st l=some o→tagOf v≠some l→hp st' l=some o)→WOps E os Q (put tm dst v') st'):WOps E (⟨.append false sz x y,dst,g⟩::os) Q tm st:=by
 have hk':¬ k=0:=by omega
 have key:∃ v' st',doAppend false sz st v k ys=some (.val v' st')∧OwnS m st' sz v' (n+k) (cs++ys.map PV.share)∧Fr m st st'∧tagOf v'=some st'.heap.length.pred∧st.heap.length<st'.heap.length∧∀ l o,hp st l=some o→tagOf v≠some l→hp st' l=some o:=by
  obtain⟨h0,⟨rfl,rfl⟩|⟨t,rfl,h3,h4⟩⟩:=h
  ·refine⟨.slice (.tag st.heap.length sz) k (ys.map PV.share),st.push (.tag true),?_,⟨?_,.inr ⟨st.heap.length,?_,hm,?_⟩⟩,(Fr.refl m st).push hm,by simp[tagOf,St.push],by rw[len_push];omega,fun l o hl _=>?_⟩
   ·delta doAppend
    simp only[hl,hc,and_self,if_true,hk',if_false,Bool.false_eq_true]
    rw[if_pos (by omega)]
    rfl
   ·simp at h0;simp[h0,hl]
   ·simp at h0;simp[h0]
   ·rw[hp_push,if_pos rfl]
   ·rw[hp_push,if_neg (by have:=hp_lt hl;omega)]
    exact hl
  ·refine⟨.slice (.tag st.heap.length sz) (n+k) (cs++ys.map PV.share),(Den.setVar st t (.tag false)).push (.tag true),?_,⟨?_,.inr ⟨st.heap.length,rfl,hm,?_⟩⟩,((Fr.refl m st).setVar h3).push (by rw[len_setVar];exact hm),by simp[tagOf,St.push,setVar],by rw[len_push,len_setVar];omega,fun l o hl ht=>?_⟩
   ·delta doAppend
    simp only[hl,hc,and_self,if_true,hk',if_false]
    rw[if_pos ⟨trivial,h0,hn⟩]
    have h5:st.heap[t]? = some (.tag true):=h4
    simp only[h5]
    rfl
   ·simp[h0,hl,Nat.add_mul]
   ·rw[hp_push,if_pos (by rw[len_setVar])]
   ·rw[hp_push,len_setVar,if_neg (by have:=hp_lt hl;omega),hp_setVar,if_neg (fun e=>ht (by rw[e];rfl))]
    exact hl
 obtain⟨v',st',h1,h2,h3,h4,h5,h6⟩:=key
 refine wops_one (hw.trans hb) (fun rec=>?_) (hq v' st' h2 h3 h4 h5 h6)
 simp only[stepOp,hx,hy]
 cases w <;> simp only[PV.sl,Option.some.injEq,Prod.mk.injEq,reduceCtorEq] at hyl
 ·obtain⟨rfl,rfl⟩:=hyl;exact h1
 ·obtain⟨rfl,rfl⟩:=hyl;exact h1
theorem OwnS.other{m:Nat}{st st':St}{sz sz':Nat}{u v:PV}{n:Nat}{cs:List PV}(h:OwnS m st sz u n cs)(hk:∀ l o,hp st l=some o→tagOf v≠some l→hp st' l=some o)(hd:∀ t,tagOf u=some t→tagOf v≠some t):OwnS m st' sz u n cs:=by
 refine⟨h.1,h.2.imp id fun ⟨t,h2,h3,h4⟩=>⟨t,h2,h3,hk t _ h4 (hd t (by rw[h2];rfl))⟩⟩
theorem OwnS.tagLt{m:Nat}{st:St}{sz:Nat}{u:PV}{n:Nat}{cs:List PV}(h:OwnS m st sz u n cs):∀ t,tagOf u=some t→t<st.heap.length:=fun t ht=>by
 obtain⟨_,⟨_,rfl⟩|⟨t',rfl,_,h4⟩⟩:=h
 ·cases ht
 ·cases ht;exact hp_lt h4
end Go.Den
namespace Go.Den.Ve
theorem head_get{α:Type}{l:List α}{d:α}(h:0<l.length):l[0]=l.headD d:=by
 cases l with
 | nil=>simp at h
 | cons x l=>rfl
def wholeTk (b:BK) (k:Nat):List (List Int):=(List.range k).map fun i=>(leastB b i).headD []
def wholeNk (b:BK) (k:Nat):Int:=(List.range k).foldl (fun n i=>n*((leastB b i).length:Int)) 1
def wholeCk (b:BK) (k:Nat):List Int:=(List.range k).map fun i=>manyB b i
theorem wholeTk_succ(b:BK)(k:Nat):wholeTk b (k+1)=wholeTk b k++[(leastB b k).headD []]:=by simp[wholeTk,List.range_succ]
theorem wholeNk_succ(b:BK)(k:Nat):wholeNk b (k+1)=wholeNk b k*((leastB b k).length:Int):=by simp[wholeNk,List.range_succ]
theorem wholeCk_succ(b:BK)(k:Nat):wholeCk b (k+1)=wholeCk b k++[manyB b k]:=by simp[wholeCk,List.range_succ]
theorem wholeNk_bound(b:BP)(h:OkB b.bk):∀ k,0≤wholeNk b.bk k∧wholeNk b.bk k≤121 ^ k
 | 0=>by simp[wholeNk]
 | k+1=>by
  have ih:=wholeNk_bound b h k
  have hl:=least_len b h k
  rw[wholeNk_succ]
  refine⟨Int.mul_nonneg ih.1 (by omega),?_⟩
  rw[Int.pow_succ]
  exact Int.mul_le_mul ih.2 (by omega) (by omega) (by omega)
theorem many_bound(b:BP)(h:OkB b.bk)(i:Nat)(hi:i<lines1 b.bk):0≤manyB b.bk i∧manyB b.bk i≤20:=by
 obtain⟨x,hx,e⟩:=minL_mem (m:=cost1 b.bk i) (lines_ne b.bk.words.toNat)
 unfold manyB
 rw[← e]
 exact cost_bound b h i hi x (mem_lines.1 hx).1
set_option maxHeartbeats 4000000 in
theorem c50_yes(b:BP)(hN:SmB b)(h:OkB b.bk)(st:St):ClR EE (.func 50 [] []) [b.pv] st (fun v st'=>∃ u,v = .tuple [u,iv (wholeN b.bk),iv (wholeC b.bk),iv 0]∧RetW st (wholeT b.bk).length ((wholeT b.bk).flatMap encL) u st'):=by
 have h81:=c81 b hN
 have hA:=bookB_iff.2 h
 have hB:=b.h
 have hp0:=h.pos
 have hl1:=lines1_bk b hp0
 have hl4:=h.l4
 refine cG1 pr50 fn50 (fun tm hl h0=>?_)
 refine go2 (bw3 hl h0 hA) (bw h81 fnil) ?_
 refine wp_range (lines1 b.bk) [6,7,8] (fun k vs st'=>∃ v u,vs=[v,u,iv (wholeNk b.bk k)]∧OwnS st.heap.length st' 1 v k ((wholeTk b.bk k).flatMap encL)∧OwnS st.heap.length st' 1 u k ((wholeCk b.bk k).flatMap encI)∧(∀ t,tagOf u=some t→tagOf v≠some t)∧hp st' st.heap.length=some (.var [iv b.words,b.v])∧st.heap.length≤st'.lo∧st'.lo≤st'.heap.length) (by omega) (sG hl) (sG (bw hl hl1)) (sG hl) (by decide) ⟨_,_,(sR hl),.nil,.nil,(fun t h=>by cases h),(sG fnil),by simp only[lo_push];omega,by simp only[lo_push,len_push];omega⟩ ?_ ?_
 ·rintro k hk tm1 st1 ⟨v,u,hv,hO,hU,hd,d0,hlo,hwf⟩ hS hka
  obtain⟨hv6,hv7,hv8⟩:=mv3 hv
  have hl1':tm1.length=49:=lN hS hl;have j1:tg tm1 1 = .ptr st.heap.length 0:=tQ hS hl;clear hS
  have hle:=least_len b h k
  have hln:0<(leastB b.bk k).length:=List.length_pos_iff.2 (leastB_ne _ _)
  have hb:=wholeNk_bound b h (k+1)
  have hb4:(121:Int) ^ (k+1)≤121 ^ 4:=by
   have:k+1=1∨k+1=2∨k+1=3∨k+1=4:=by omega
   rcases this with h|h|h|h <;> rw[h] <;> decide
  have hw:=wrap_in (n:=wholeNk b.bk k*((leastB b.bk k).length:Int)) (by rw[← wholeNk_succ];unfold inI;omega)
  have hh:=head_get (d:=[]) hln
  refine go2 (bw4 hl1' j1 hka d0) fnil ?_
  refine cR hl1' (c91 b h k hk _) ?_
  rintro w s2 ⟨V,rfl,hR⟩
  have hV:SlOf 1 encL V (leastB b.bk k):=hR.own_sl (fun _=>rfl)
  have hVs:=hV.slen
  have hO2:=hO.hext hR.hext
  have hU2:=hU.hext hR.hext
  have d2:=hR.hp d0
  have z1:=hR.lo
  have z2:=hR.len
  have xc:=fun p=>el_cells p
  refine go2 (bw4 hl1' hv6 hh xc) fnil ?_
  refine wops_appendO rfl rfl (sR (bw hl1' hv6)) (sR hl1') hO2.push rfl (by simp only[len_push];omega) (by rfl) (by simp only[List.all_cons,List.all_nil,el_share,el_isCell,Bool.and_true]) (by simp only[maxList];omega) (by decide) ?_
  intro v' s3 hO3 hF3 ht3 hln3 hk3
  have hU3:=hU2.push.other (sz':=1) hk3 hd
  have d3:=hk3 _ _ (by rw[hp_push,if_neg (by have:=hp_lt d2;omega)];exact d2:hp (s2.push (.tag true)) st.heap.length=some (.var [iv b.words,b.v])) (fun h=>by
   obtain⟨_,⟨_,rfl⟩|⟨t',rfl,h1,h2⟩⟩:=hO2
   ·cases h
   ·cases h;rw[d2] at h2;cases h2)
  have y1:=hF3.lo
  have y2:=hF3.up
  have y3:=hF3.len
  simp only[lo_push,len_push] at y1 y2 y3 hln3
  have ht3':tagOf v'≠some s2.heap.length:=fun h=>by rw[ht3] at h;simp only[Option.some.injEq,Nat.pred_eq_sub_one] at h;omega
  have hut:=hU3.tagLt
  have hu2:=hU2.tagLt
  refine go2 (bw5 hl1' hv8 hVs hw hv7) fnil ?_
  refine wops_appendO rfl rfl (sR (bw hl1' hv7)) (sR hl1') hU3.push rfl (by simp only[len_push];omega) (by rfl) (by rfl) (by simp only[maxList];omega) (by decide) ?_
  intro u' s4 hU4 hF4 ht4 hln4 hk4
  have hvt:∀ t,tagOf v'=some t→tagOf u≠some t:=fun t h1 h2=>by
   have:=hu2 t h2
   rw[ht3] at h1
   simp only[Option.some.injEq,Nat.pred_eq_sub_one] at h1
   omega
  have hO4:=hO3.push.other (sz':=1) hk4 hvt
  have d4:=hk4 _ _ (by rw[hp_push,if_neg (by have:=hp_lt d3;omega)];exact d3:hp (s3.push (.tag true)) st.heap.length=some (.var [iv b.words,b.v])) (fun h=>by
   obtain⟨_,⟨_,rfl⟩|⟨t',rfl,h1,h2⟩⟩:=hU3
   ·cases h
   ·cases h;rw[d3] at h2;cases h2)
  have x1:=hF4.lo
  have x2:=hF4.up
  have x3:=hF4.len
  simp only[lo_push,len_push] at x1 x2 x3 hln4
  refine go2 hl1' fnil ?_
  refine⟨v',u',by simp only[↓reduceIte,go_sem,hl1'];rw[wholeNk_succ],?_,?_,fun t h1 h2=>?_,d4,by omega,by omega⟩
  ·rw[wholeTk_succ,List.flatMap_append,List.flatMap_singleton]
   simpa[el_share] using hO4
  ·rw[wholeCk_succ,List.flatMap_append,List.flatMap_singleton]
   simpa[share_int] using hU4
  ·have q1:=hO3.tagLt t h2
   rw[ht4] at h1
   simp only[Option.some.injEq,Nat.pred_eq_sub_one] at h1
   omega
 ·rintro tm1 st1 ⟨v,u,hv,hO,hU,hd,d0,hlo,hwf⟩ hS
  obtain⟨hv6,hv7,hv8⟩:=mv3 hv
  have hl1':tm1.length=49:=by rw[hS.1];simp only[↓reduceIte,go_sem,hl]
  have ks:=fun st=>c88 u (wholeCk b.bk (lines1 b.bk)) (SlOf.of_sl hU.sl (by simp[wholeCk]) rfl (fun _=>rfl)) (by simp[wholeCk];omega) (fun x hx=>by
   obtain⟨y,hy,rfl⟩:=List.mem_map.1 hx
   have:=many_bound b h y (List.mem_range.1 hy)
   omega) st
  refine go2 (bw4 hl1' hv6 hv7 hv8) (bw ks fnil) ?_
  refine fX (.tuple [v,iv (wholeN b.bk),iv (wholeC b.bk),iv 0]) (bw4 hl1' hv6 hv7 hv8) ?_
  have hl3:(wholeT b.bk).length=lines1 b.bk:=by simp[wholeT]
  rw[hl3]
  exact finish_slT hO.sl (by rfl) hlo (fun m=>lowL_of fun c hc=>encL_low _ _ _ hc)
end Go.Den.Ve
end
section
namespace Go.Den.Ve
def foldI (f:Int→Int→Int):List Int→Int
 | []=>0
 | x::l=>l.foldl f x
theorem foldI_snoc{f:Int→Int→Int}{l:List Int}(h:l≠[])(x:Int):foldI f (l++[x])=f (foldI f l) x:=by
 cases l with
 | nil=>exact absurd rfl h
 | cons y l=>simp[foldI]
abbrev minI (l:List Int):Int:=foldI min l
abbrev maxI (l:List Int):Int:=foldI max l
theorem foldI_take{f:Int→Int→Int}{l:List Int}{i:Nat}(h0:0<i)(hi:i<l.length):foldI f (l.take (i+1))=f (foldI f (l.take i)) l[i]:=by
 rw[List.take_succ_eq_append_getElem hi,foldI_snoc]
 intro e
 have:=congrArg List.length e
 rw[List.length_take,List.length_nil] at this
 omega
section
variable(F:PV)(l:List Int)(hF:SlOf 1 encI F l)(h0l:0<l.length)(hN:l.length<1000)(st:St)
include hF h0l hN
theorem c99:Cl EE (.func 99 [] []) [F] st (.ret (iv (minI l))) st:=by
 have hs:=hF.slen
 have hd:decide ((l.length:Int)<1)=false:=by simp;omega
 refine cF1 pr99 fn99 (fun tm hl h0=>?_)
 refine go2 (bw4 hl h0 hs hd) fnil ?_
 refine wp_for [3,4] (fun n vs st'=>n+1≤l.length∧vs=[iv (minI (l.take (n+1))),iv ((n+1:Nat):Int)]∧st'={ heap:=st.heap,lo:=st.heap.length }) (fun n=>l.length - n) ⟨by omega,by simp only[↓reduceIte,go_sem,hl];rw[List.take_succ_eq_append_getElem h0l];rfl,rfl⟩ ?_
 rintro n tm1 st1 ⟨hn,hv,rfl⟩ hS
 obtain⟨hv3,hv4⟩:=mv2 hv
 have hl1:tm1.length=25:=lN hS hl;have j0:tg tm1 0=F:=tQ hS (bw hl h0);clear hS
 refine go2 (bw4 hl1 j0 hv4 hs) fnil ?_
 refine⟨_,(sR hl1),fun hb=>?_,fun hb=>⟨?_,?_⟩⟩
 ·have hn1:l.length≤n+1:=by simp at hb;omega
  rw[List.take_of_length_le hn1] at hv3
  refine go2 (bw hl1 hv3) fnil ?_
  exact fQ hl1
 ·simp at hb;omega
 ·have hn1:n+1<l.length:=by simp at hb;omega
  have hf:minI (l.take (n+2))=min (minI (l.take (n+1))) l[n+1]:=foldI_take (Nat.succ_pos n) hn1
  have hw:=wrapN (n:=n+1) (by omega)
  refine go2 (bw6 hl1 j0 hv3 hv4 @mm2' hw) fnil ?_
  exact⟨by omega,by simp only[↓reduceIte,go_sem,hl1];rw[hf],rfl⟩
theorem c100:Cl EE (.func 100 [] []) [F] st (.ret (iv (maxI l))) st:=by
 have hs:=hF.slen
 have hd:decide ((l.length:Int)<1)=false:=by simp;omega
 refine cF1 pr100 fn100 (fun tm hl h0=>?_)
 refine go2 (bw4 hl h0 hs hd) fnil ?_
 refine wp_for [3,4] (fun n vs st'=>n+1≤l.length∧vs=[iv (maxI (l.take (n+1))),iv ((n+1:Nat):Int)]∧st'={ heap:=st.heap,lo:=st.heap.length }) (fun n=>l.length - n) ⟨by omega,by simp only[↓reduceIte,go_sem,hl];rw[List.take_succ_eq_append_getElem h0l];rfl,rfl⟩ ?_
 rintro n tm1 st1 ⟨hn,hv,rfl⟩ hS
 obtain⟨hv3,hv4⟩:=mv2 hv
 have hl1:tm1.length=25:=lN hS hl;have j0:tg tm1 0=F:=tQ hS (bw hl h0);clear hS
 refine go2 (bw4 hl1 j0 hv4 hs) fnil ?_
 refine⟨_,(sR hl1),fun hb=>?_,fun hb=>⟨?_,?_⟩⟩
 ·have hn1:l.length≤n+1:=by simp at hb;omega
  rw[List.take_of_length_le hn1] at hv3
  refine go2 (bw hl1 hv3) fnil ?_
  exact fQ hl1
 ·simp at hb;omega
 ·have hn1:n+1<l.length:=by simp at hb;omega
  have hf:maxI (l.take (n+2))=max (maxI (l.take (n+1))) l[n+1]:=foldI_take (Nat.succ_pos n) hn1
  have hw:=wrapN (n:=n+1) (by omega)
  refine go2 (bw6 hl1 j0 hv3 hv4 @mm2 hw) fnil ?_
  exact⟨by omega,by simp only[↓reduceIte,go_sem,hl1];rw[hf],rfl⟩
end
def lnAt (b:BK) (n i:Nat):LN:=(b.copies.getD n []).getD i ⟨true,[]⟩
def dists (b:BK) (n i:Nat):List Int:=(leastB b i).map fun y=>((lev y (lnAt b n i).words:Nat):Int)
def far1 (b:BK) (n i:Nat):List (Int×Int):=if (lnAt b n i).lost then [] else [(minI (dists b n i),maxI (dists b n i))]
def farK (b:BK) (n k:Nat):List (Int×Int):=(List.range k).flatMap (far1 b n)
def farLow (b:BK) (n:Nat):Int:=((farK b n (lines1 b)).map Prod.fst).sum
def farHigh (b:BK) (n:Nat):Int:=((farK b n (lines1 b)).map Prod.snd).sum
theorem farK_succ(b:BK)(n k:Nat):farK b n (k+1)=farK b n k++far1 b n k:=by simp[farK,List.range_succ]
def cpArg (b:BP) (n:Int):Bool:=bookB b.bk&&inN n 0 (b.cs.length - 1)
theorem lnAt_eq(b:BP){n i:Nat}(hn:n<b.cs.length)(hi:i<b.cs[n].ls.length):lnAt b.bk n i=b.cs[n].ls[i].ln:=by
 have e1:b.bk.copies.getD n []=b.cs[n].c:=by rw[List.getD_eq_getElem?_getD];simp[hn]
 rw[lnAt,e1,List.getD_eq_getElem?_getD]
 simp[hi]
theorem foldl_in{f:Int→Int→Int}(hf:∀ a b,f a b=a∨f a b=b):∀ (l:List Int) (x:Int),l.foldl f x∈x::l
 | [],x=>by simp
 | y::l,x=>by
  have:=foldl_in hf l (f x y)
  rw[List.foldl_cons]
  rcases List.mem_cons.1 this with h|h
  ·rw[h]
   rcases hf x y with h1|h1 <;> rw[h1] <;> simp
  ·simp[h]
theorem foldI_in{f:Int→Int→Int}(hf:∀ a b,f a b=a∨f a b=b){l:List Int}(h:l≠[]):foldI f l∈l:=by
 cases l with
 | nil=>exact absurd rfl h
 | cons x l=>exact foldl_in hf l x
theorem dists_in(b:BP)(h:OkB b.bk){n i:Nat}(hn:n<b.cs.length)(hi:i<lines1 b.bk):∀ x∈dists b.bk n i,0≤x∧x≤4:=fun x hx=>by
 obtain⟨y,hy,rfl⟩:=List.mem_map.1 hx
 have h1:=(least_mem h hy).1
 have h2:=h.len hi b.cs[n] (List.getElem_mem hn)
 have h3:=(h.all _ (List.mem_map.2 ⟨_,List.getElem_mem hn,rfl⟩)).2 b.cs[n].ls[i].ln (List.mem_map.2 ⟨_,List.getElem_mem h2,rfl⟩)
 have h4:b.cs[n].ls[i].l.length≤4:=(lineB_iff.1 h3.1).1
 rw[lnAt_eq b hn h2]
 have:=lev_max y b.cs[n].ls[i].l
 show 0≤((lev y b.cs[n].ls[i].l:Nat):Int)∧((lev y b.cs[n].ls[i].l:Nat):Int)≤4
 omega
theorem dists_ne(b:BK)(n i:Nat):dists b n i≠[]:=by
 unfold dists
 simp only[ne_eq,List.map_eq_nil_iff]
 exact leastB_ne b i
theorem farK_in(b:BP)(h:OkB b.bk){n:Nat}(hn:n<b.cs.length){k:Nat}(hk:k≤lines1 b.bk):∀ x∈farK b.bk n k,(0≤x.1∧x.1≤4)∧0≤x.2∧x.2≤4:=fun x hx=>by
 obtain⟨i,hi,hx⟩:=List.mem_flatMap.1 hx
 have hi:=List.mem_range.1 hi
 unfold far1 at hx
 split at hx
 ·cases hx
 ·rw[List.mem_singleton.1 hx]
  have hd:=dists_in b h hn (i:=i) (by omega)
  exact⟨hd _ (foldI_in (fun a b=>by omega) (dists_ne _ _ _)),hd _ (foldI_in (fun a b=>by omega) (dists_ne _ _ _))⟩
theorem farK_len(b:BK)(n:Nat):∀ k,(farK b n k).length≤k
 | 0=>Nat.le_refl _
 | k+1=>by
  have:=farK_len b n k
  rw[farK_succ,List.length_append]
  unfold far1
  split <;> simp <;> omega
end Go.Den.Ve
end
section
namespace Go.Den
theorem OwnS.frame{m k:Nat}{st st':St}{sz:Nat}{u:PV}{n:Nat}{cs:List PV}(h:OwnS m st sz u n cs)(hf:Fr k st st')(hk:st.heap.length≤k):OwnS m st' sz u n cs:=h.keep fun t _ ht=>by rw[hf.old t (by have:=hp_lt ht;omega)];exact ht
theorem Fr.hp{k:Nat}{st st':St}(hf:Fr k st st'){l:Nat}{o:HObj}(hl:Den.hp st l=some o)(hk:st.heap.length≤k):Den.hp st' l=some o:=by rw[hf.old l (by have:=hp_lt hl;omega)];exact hl
theorem OwnS.notTag{m:Nat}{st:St}{sz:Nat}{u:PV}{n l:Nat}{cs c:List PV}(h:OwnS m st sz u n cs)(hl:Den.hp st l=some (.var c)):tagOf u≠some l:=fun e=>by
 obtain⟨_,⟨_,rfl⟩|⟨t',rfl,_,h2⟩⟩:=h
 ·cases e
 ·cases e;rw[hl] at h2;cases h2
end Go.Den
namespace Go.Den.Ve
set_option maxHeartbeats 8000000 in
theorem c51_yes(b:BP)(hN:SmB b)(h:OkB b.bk)(n:Nat)(hn:n<b.cs.length)(st:St):Cl EE (.func 51 [] []) [b.pv,iv n] st (.ret (.tuple [.agg [iv (farLow b.bk n),iv (farHigh b.bk n)],iv 0])) st:=by
 have h81:=c81 b hN
 have hA:=bookB_iff.2 h
 have k98:=fun st=>c98 b hN.n n st
 have hin:inN (n:Int) 0 (b.cs.length - 1)=true:=by simp only[inN,Bool.and_eq_true,decide_eq_true_eq];omega
 have hB:=b.h
 have hC:=b.cs[n].h
 have hl4:=h.l4
 have hlen:b.cs[n].ls.length=lines1 b.bk:=by
  have:=(h.all b.cs[n].c (List.mem_map.2 ⟨_,List.getElem_mem hn,rfl⟩)).1
  simpa using this
 refine cF2 pr51 fn51 (fun tm hl h0 h1=>?_)
 refine go2 (bw5 hl h0 h1 hA hin) (bw3 h81 k98 fnil) ?_
 refine wp_range b.cs[n].ls.length [6,7] (fun k vs st'=>∃ v u,vs=[v,u]∧OwnS st.heap.length st' 1 v (farK b.bk n k).length (((farK b.bk n k).map Prod.fst).flatMap encI)∧OwnS st.heap.length st' 1 u (farK b.bk n k).length (((farK b.bk n k).map Prod.snd).flatMap encI)∧(∀ t,tagOf u=some t→tagOf v≠some t)∧hp st' st.heap.length=some (.var [iv b.words,b.v])∧hp st' (st.heap.length+1)=some (.var [iv 0,iv 0])∧st.heap.length≤st'.lo∧st'.lo≤st'.heap.length) (by omega) (sG hl) (sG hl) (sG hl) (by decide) ⟨_,_,(sG hl),.nil,.nil,(fun t h=>by cases h),(sG fnil),(sG fnil),by simp only[lo_push];omega,by simp only[lo_push,len_push];omega⟩ ?_ ?_
 ·rintro k hk tm1 st1 ⟨v,u,hv,hO,hU,hd,d0,d1,hlo,hwf⟩ hS hka
  obtain⟨hv6,hv7⟩:=mv2 hv
  have hl1:tm1.length=75:=lN hS hl;have j2:tg tm1 2 = .ptr st.heap.length 0:=tQ hS hl;have j29:tg tm1 29=b.cs[n].v:=tQ hS hl;clear hS
  have ld0:=hp_lt d0
  have ld1:=hp_lt d1
  have hln:=lnAt_eq b hn hk
  have hlk:=farK_len b.bk n k
  have hO0:=own_new (z:=[.bool false,.nilslice]) (y:=[.bool b.cs[n].ls[k].lost,b.cs[n].ls[k].w]) hO
  have hU0:=own_new (z:=[.bool false,.nilslice]) (y:=[.bool b.cs[n].ls[k].lost,b.cs[n].ls[k].w]) hU
  cases hlost:b.cs[n].ls[k].lost
  rotate_left
  ·rw[hlost] at hO0 hU0
   have hf1:far1 b.bk n k=[]:=by rw[far1,hln];simp[hlost]
   refine go2 (bw4 hl1 j29 hka hlost) fnil ?_
   refine⟨v,u,(sG (bw3 hl1 hv6 hv7)),?_,?_,hd,(sG (bw d0 (n4 ld0))),(sG (bw d1 (n4 ld1))),by simp only[lo_setVar,lo_push];omega,by simp only[lo_setVar,lo_push,len_setVar,len_push];omega⟩
   ·rw[farK_succ,hf1,List.append_nil];exact hO0
   ·rw[farK_succ,hf1,List.append_nil];exact hU0
  ·rw[hlost] at hO0 hU0
   have hf1:far1 b.bk n k=[(minI (dists b.bk n k),maxI (dists b.bk n k))]:=by rw[far1,hln];simp[hlost]
   have hle:=least_len b h k
   have hdl:(dists b.bk n k).length=(leastB b.bk k).length:=by simp[dists]
   refine go2 (bw7 hl1 j2 j29 hka hlost d0 (n4 ld0)) fnil ?_
   refine cR hl1 (c91 b h k (by omega) _) ?_
   rintro w s2 ⟨V,rfl,hR⟩
   have hV:SlOf 1 encL V (leastB b.bk k):=hR.own_sl (fun _=>rfl)
   have hVs:=hV.slen
   have hO2:=hO0.hext hR.hext
   have hU2:=hU0.hext hR.hext
   have e0:hp s2 st.heap.length=some (.var [iv b.words,b.v]):=hR.hp (sG (bw d0 (n4 ld0)))
   have e1:hp s2 (st.heap.length+1)=some (.var [iv 0,iv 0]):=hR.hp (sG (bw d1 (n4 ld1)))
   have e9:hp s2 st1.heap.length=some (.var [.bool false,b.cs[n].ls[k].w]):=hR.hp (sG fnil)
   have z1:=hR.lo
   have z2:=hR.len
   simp only[lo_push,len_push,lo_setVar,len_setVar] at z1 z2
   refine go2 (bw hl1 hVs) fnil ?_
   refine wp_range (leastB b.bk k).length [10] (fun q vs s'=>∃ x,vs=[x]∧OwnS s2.heap.length s' 1 x q (((dists b.bk n k).take q).flatMap encI)∧Fr s2.heap.length s2 s'∧s'.lo≤s'.heap.length) (by omega) (sG hl1) (sG hl1) (sG hl1) (by decide) ⟨_,(sG hl1),.nil,.refl _ _,by omega⟩ ?_ ?_
   ·rintro q hq tm2 s3 ⟨x,hx,hX,hF,hw3⟩ hS2 hqa
    replace hx:=mv1 hx
    have hl2:tm2.length=75:=lN hS2 hl1;have k9:tg tm2 9 = .ptr st1.heap.length 0:=tQ hS2 hl1;have k45:tg tm2 45=V:=tQ hS2 hl1;clear hS2
    have f9:=hF.hp e9 (Nat.le_refl _)
    have hlm:=(least_mem h (List.getElem_mem hq)).1
    have hl5:b.cs[n].ls[k].l.length≤4:=by
     have h3:=(h.all _ (List.mem_map.2 ⟨_,List.getElem_mem hn,rfl⟩)).2 b.cs[n].ls[k].ln (List.mem_map.2 ⟨_,List.getElem_mem hk,rfl⟩)
     exact (lineB_iff.1 h3.1).1
    have kc:=fun st=>c83 (elL (leastB b.bk k)[q]) b.cs[n].ls[k].w (leastB b.bk k)[q] b.cs[n].ls[k].l (el_sl _) b.cs[n].ls[k].h hlm hl5 st
    refine go2 (bw5 hl2 k9 k45 hqa f9) (bw kc fnil) ?_
    have hFl:=hF.len
    refine aP (bw hl2 hx) (hX.push) ?_
    intro x' s4 hX4 hF4 hk4
    refine go2 hl2 fnil ?_
    have y1:=hF4.up
    have y2:=hF4.len
    simp only[lo_push,len_push] at y1 y2
    refine⟨x',(sG hl2),?_,(hF.push hFl).trans hF4,by omega⟩
    have hdq:(dists b.bk n k)[q]'(by omega)=((lev (leastB b.bk k)[q] b.cs[n].ls[k].l:Nat):Int):=by simp[dists,hln]
    rw[List.take_succ_eq_append_getElem (by omega),List.flatMap_append,List.flatMap_singleton,hdq]
    simpa[share_int] using hX4
   ·rintro tm2 s3 ⟨x,hx,hX,hF,hw3⟩ hS2
    replace hx:=mv1 hx
    have hl2:tm2.length=75:=lN hS2 hl1;have k6:tg tm2 6=v:=tQ hS2 (bw3 hl1 hv6 hv7);have k7:tg tm2 7=u:=tQ hS2 (bw3 hl1 hv6 hv7);clear hS2
    rw[← hdl,List.take_length] at hX
    have hne:0<(dists b.bk n k).length:=by rw[hdl];exact List.length_pos_iff.2 (leastB_ne _ _)
    have hXs:SlOf 1 encI x (dists b.bk n k):=SlOf.of_sl hX.sl rfl rfl (fun _=>rfl)
    have m1:=fun st=>c99 x (dists b.bk n k) hXs hne (by omega) st
    have m2:=fun st=>c100 x (dists b.bk n k) hXs hne (by omega) st
    have hO3:=hO2.frame hF (Nat.le_refl _)
    have hU3:=hU2.frame hF (Nat.le_refl _)
    have g0:=hF.hp e0 (Nat.le_refl _)
    have g1:=hF.hp e1 (Nat.le_refl _)
    have hFl:=hF.len
    have hFlo:=hF.lo
    refine go2 (bw3 hl2 k6 hx) (bw m1 fnil) ?_
    refine wops_appendO rfl rfl (sR (bw hl2 k6)) (sR hl2) hO3.push rfl (by simp only[len_push];omega) (by rfl) (by rfl) (by simp only[maxList];omega) (by decide) ?_
    intro v' s4 hO4 hF4 ht4 hln4 hk4
    have hU4:=hU3.push.other (sz':=1) hk4 hd
    have g0':hp s4 st.heap.length=some (.var [iv b.words,b.v]):=hk4 _ _ (by rw[hp_push,if_neg (by have:=hp_lt g0;omega)];exact g0) (hO3.notTag g0)
    have g1':hp s4 (st.heap.length+1)=some (.var [iv 0,iv 0]):=hk4 _ _ (by rw[hp_push,if_neg (by have:=hp_lt g1;omega)];exact g1) (hO3.notTag g1)
    have y1:=hF4.lo
    have y2:=hF4.up
    have y3:=hF4.len
    have hu3:=hU3.tagLt
    simp only[lo_push,len_push] at y1 y2 y3 hln4
    refine go2 (bw3 hl2 k7 hx) (bw m2 fnil) ?_
    refine wops_appendO rfl rfl (sR (bw hl2 k7)) (sR hl2) hU4.push rfl (by simp only[len_push];omega) (by rfl) (by rfl) (by simp only[maxList];omega) (by decide) ?_
    intro u' s5 hU5 hF5 ht5 hln5 hk5
    have hvt:∀ t,tagOf v'=some t→tagOf u≠some t:=fun t h1 h2=>by
     have:=hu3 t h2
     rw[ht4] at h1
     simp only[Option.some.injEq,Nat.pred_eq_sub_one] at h1
     omega
    have hO5:=hO4.push.other (sz':=1) hk5 hvt
    have g0'':hp s5 st.heap.length=some (.var [iv b.words,b.v]):=hk5 _ _ (by rw[hp_push,if_neg (by have:=hp_lt g0';omega)];exact g0') (hU4.notTag g0')
    have g1'':hp s5 (st.heap.length+1)=some (.var [iv 0,iv 0]):=hk5 _ _ (by rw[hp_push,if_neg (by have:=hp_lt g1';omega)];exact g1') (hU4.notTag g1')
    have x1:=hF5.lo
    have x2:=hF5.up
    have x3:=hF5.len
    simp only[lo_push,len_push] at x1 x2 x3 hln5
    refine go2 hl2 fnil ?_
    refine⟨v',u',(sG hl2),?_,?_,fun t h1 h2=>?_,g0'',g1'',by omega,by omega⟩
    ·rw[farK_succ,hf1,List.map_append,List.flatMap_append,List.length_append]
     simpa[share_int] using hO5
    ·rw[farK_succ,hf1,List.map_append,List.flatMap_append,List.length_append]
     simpa[share_int] using hU5
    ·have q1:=hO4.tagLt t h2
     rw[ht5] at h1
     simp only[Option.some.injEq,Nat.pred_eq_sub_one] at h1
     omega
 ·rintro tm1 st1 ⟨v,u,hv,hO,hU,hd,d0,d1,hlo,hwf⟩ hS
  obtain⟨hv6,hv7⟩:=mv2 hv
  have hl1:tm1.length=75:=lN hS hl;have j4:tg tm1 4 = .ptr (st.heap.length+1) 0:=tQ hS hl;clear hS
  rw[hlen] at hO hU
  have hfi:=farK_in b h hn (Nat.le_refl _)
  have hfl:=farK_len b.bk n (lines1 b.bk)
  have ks1:=fun st=>c88 v ((farK b.bk n (lines1 b.bk)).map Prod.fst) (SlOf.of_sl hO.sl (by simp) rfl (fun _=>rfl)) (by simp;omega) (fun x hx=>by
   obtain⟨y,hy,rfl⟩:=List.mem_map.1 hx
   have:=(hfi y hy).1
   omega) st
  have ks2:=fun st=>c88 u ((farK b.bk n (lines1 b.bk)).map Prod.snd) (SlOf.of_sl hU.sl (by simp) rfl (fun _=>rfl)) (by simp;omega) (fun x hx=>by
   obtain⟨y,hy,rfl⟩:=List.mem_map.1 hx
   have:=(hfi y hy).2
   omega) st
  have ld1:=hp_lt d1
  refine go2 (bw6 hl1 hv6 hv7 j4 d1 (n4 ld1)) (bw3 ks1 ks2 fnil) ?_
  exact fY (bw3 hl1 j4 (n4 ld1))
end Go.Den.Ve
end

/- Part of the proofs of laws of the package version. Texts: VnX, VnY, VnZ, VtA. -/
import Derived.Test.YtehdcjbdhkkipaaGreatDoorVMAu
set_option linter.unusedSimpArgs false
set_option linter.unusedVariables false
section
namespace Go.Den
theorem finish_elA{st st1:St}{p:List Int}{n:Int}(h:st.heap.length≤st1.lo):finishCall st st1 (.agg [Ve.elL p,.int .i64 n])=(.agg [Ve.elL p,.int .i64 n],st):=by
 cases p with
 | nil =>
  unfold finishCall
  rw[if_pos h]
  simp[letGo,freezeL,freeze1,retagL,retag1,PV.low,Ve.elL]
 | cons x l =>
  have hl:lowL st.heap.length ((x::l).flatMap Ve.encI)=true:=lowL_of fun c hc=>Ve.encI_low _ _ c hc
  unfold finishCall
  rw[if_pos h]
  simp only[letGo,freezeL,freeze1,retagL,retag1,PV.low,Ve.elL,hl,if_true,Option.map_some,List.length_nil,List.replicate_zero,List.append_nil]
theorem finish_elT{st st1:St}{p:List Int}{n m:Int}(h:st.heap.length≤st1.lo):finishCall st st1 (.tuple [Ve.elL p,.int .i64 n,.int .i64 m])=(.tuple [Ve.elL p,.int .i64 n,.int .i64 m],st):=by
 cases p with
 | nil=>exact finish_tuple h (by rfl)
 | cons x l =>
  have hl:lowL st.heap.length ((x::l).flatMap Ve.encI)=true:=lowL_of fun c hc=>Ve.encI_low _ _ c hc
  unfold finishCall
  rw[if_pos h]
  simp only[letGo,freezeL,freeze1,retagL,retag1,PV.low,Ve.elL,hl,if_true,Option.map_some,List.length_nil,List.replicate_zero,List.append_nil]
end Go.Den
namespace Go.Den.Ve
theorem lists_pow(w:Nat):∀ k,(listsL w k).length=w ^ k
 | 0=>rfl
 | k+1=>by
  have h:∀ l:List Nat,(l.flatMap fun (x:Nat)=>(listsL w k).map fun t=>(x:Int)::t).length=l.length*w ^ k:=fun l=>by
   induction l with
   | nil=>simp
   | cons x l ih=>rw[List.flatMap_cons,List.length_append,ih,List.length_map,lists_pow w k,List.length_cons,Nat.succ_mul,Nat.add_comm]
  have:=h (List.range w)
  rw[List.length_range,← Nat.pow_succ'] at this
  exact this
def partT (b:BK) (t:List (List Int)) (k:Nat):List (List Int×Int):=((((listsL (b.copies.length+1) b.copies.length).take k).map fun l=>l.map fun x=>x - 1).filter (treeB b.copies.length)).map fun tr=>(tr,totalI b t tr)
def treesT (b:BK) (t:List (List Int)):List (List Int×Int):=(treesL b.copies.length).map fun tr=>(tr,totalI b t tr)
theorem partT_all(b:BK)(t:List (List Int)):partT b t (listsL (b.copies.length+1) b.copies.length).length=treesT b t:=by
 rw[partT,List.take_length];rfl
theorem partT_succ(b:BK)(t:List (List Int)){k:Nat}(hk:k<(listsL (b.copies.length+1) b.copies.length).length):partT b t (k+1)=partT b t k++if treeB b.copies.length ((listsL (b.copies.length+1) b.copies.length)[k].map fun x=>x - 1) then [((listsL (b.copies.length+1) b.copies.length)[k].map fun x=>x - 1,totalI b t ((listsL (b.copies.length+1) b.copies.length)[k].map fun x=>x - 1))] else []:=by
 rw[partT,List.take_succ_eq_append_getElem hk,List.map_append,List.filter_append,List.map_append,← partT,List.map_singleton,List.filter_cons,List.filter_nil]
 split <;> simp_all
theorem partT_len(b:BK)(t:List (List Int))(h:b.copies.length≤5)(k:Nat):(partT b t k).length≤7776:=by
 have h1:(partT b t k).length≤(listsL (b.copies.length+1) b.copies.length).length:=by
  rw[partT,List.length_map]
  refine Nat.le_trans (List.length_filter_le _ _) ?_
  rw[List.length_map,List.length_take]
  omega
 rw[lists_pow] at h1
 have:b.copies.length=0∨b.copies.length=1∨b.copies.length=2∨b.copies.length=3∨b.copies.length=4∨b.copies.length=5:=by omega
 rcases this with h|h|h|h|h|h <;> rw[h] at h1 <;> exact Nat.le_trans h1 (by decide)
theorem c119(x o:List Int×Int)(st:St):Cl EE (.func 119 [] []) [.agg (encC x),.agg (encC o)] st (.ret (.bool (decide (x.2<o.2)))) st:=by
 have hc:=fun p=>el_cells p
 have hi:=fun p=>el_isCell p
 refine cF2 pr119 fn119 (fun tm hl h0 h1=>?_)
 refine go2 (bw5 hl h0 h1 hc hi) fnil ?_
 exact fQ hl
theorem c118(F:PV)(X:List (List Int×Int))(hF:SlOf 2 encC F X)(h0:0<X.length)(hN:X.length<1000000)(st:St):ClR EE (.func 118 [] []) [F,.func 119 [] []] st (fun v st'=>∃ o,bestF (fun x y:List Int×Int=>decide (x.2<y.2)) X=some o∧v = .agg (encC o)∧st'=st) :=
 bestG pr118 fn118 (z:=[.nilslice,.int .i64 0]) rfl (fun _=>rfl) (fun a=>by simp only[List.all_cons,List.all_nil,el_isCell,Bool.and_true];rfl) F X hF h0 hN 119 [] [] _ st (fun st' _ x _ o _=>c119 x o st') (fun o st1 h=>finish_elA h)
def tvArg (b:BP) (t:List SI):Bool:=bookB b.bk&&txtB b.bk (t.map SI.l)
section
variable(b:BP)(hN:SmB b)(T:PV)(t:List SI)(hT:SlOf 1 encSI T t)(htN:t.length<1000000)(st:St)
include hN hT htN
set_option maxHeartbeats 8000000 in
theorem c70_yes(h:tvArg b t=true):ClR EE (.func 70 [] []) [b.pv,T] st (fun v st'=>∃ o,bestF (fun x y:List Int×Int=>decide (x.2<y.2)) (treesT b.bk (t.map SI.l))=some o∧v = .tuple [elL o.1,iv o.2,iv 0]∧st'=st):=by
 simp only[tvArg,Bool.and_eq_true] at h
 obtain⟨hA,hC⟩:=h
 have h81:=c81 b hN
 have hTc:=hT.cells
 have hBv:=b.h
 have hB:=bookB_iff.1 hA
 have hti:=txt_in hC
 have hc5:b.cs.length≤5:=by have:=hB.c5;simpa using this
 have hp0:=hB.pos
 have hbl:b.bk.copies.length=b.cs.length:=by simp
 have k114:=fun st=>c114 b hB T t hT htN st
 have hX6:(listsL (b.cs.length+1) b.cs.length).length≤7776:=by
  rw[lists_pow]
  have:b.cs.length=0∨b.cs.length=1∨b.cs.length=2∨b.cs.length=3∨b.cs.length=4∨b.cs.length=5:=by omega
  rcases this with h|h|h|h|h|h <;> rw[h] <;> decide
 have hw1:=wrapN (n:=b.cs.length) (by omega)
 refine cG2 pr70 fn70 (fun tm hl h0 h1=>?_)
 refine go2 (bw6 hl h0 h1 hA hC hTc) (bw3 h81 k114 fnil) ?_
 refine cR (bw hl h1) (c117 b hB T t hT hti.1 hti.2 _) ?_
 intro M s1 hR
 have hMs:SlOf 1 encL M (tableI b.bk (t.map SI.l) b.cs.length):=SlOf.of_sl hR.1 (by simp[tableI]) rfl (fun _=>rfl)
 have hMc:=hMs.cells
 have hMi:=hMs.isCell
 have e0:hp s1 st.heap.length=some (.var [iv b.words,b.v]):=hR.hp (sG fnil)
 have le0:=hp_lt e0
 have z1:=hR.lo
 have z2:=hR.len
 simp only[lo_push,len_push] at z1 z2
 have k92:=fun st=>c92 (b.cs.length+1) b.cs.length st
 refine go2 (bw6 hl hMc hMi e0 (n4 le0) hw1) (bw k92 fnil) ?_
 apply wp_block
 refine wp_rangeV (X:=listsL (b.cs.length+1) b.cs.length) (Rep:=RepL) (priv:=fun l=>l=s1.heap.length+3∨l=s1.heap.length+2) [s1.heap.length+1] st.heap.length (fun k L=>∃ v,OwnP st.heap.length 2 v (partT b.bk (t.map SI.l) k).length ((partT b.bk (t.map SI.l) k).flatMap encC)∧L=[(st.heap.length,.var [iv b.words,b.v]),(s1.heap.length,.var [M]),(s1.heap.length+1,.var [v])]++tagL v) (fun _ _=>False) (sG hl) (fun o=>iter139 (by omega) (by omega) (sG fnil) (sG fnil)) (sG hl) (fun l hl=>by simp only[List.mem_singleton,len_push,len_setVar];omega) (fun l hl=>by simp only[List.mem_singleton] at hl;simp only[len_push,len_setVar];omega) (by simp only[lo_push,lo_setVar];omega) (by simp only[lo_push,len_push,lo_setVar,len_setVar];omega) ⟨_,?_,.nilslice,.nil,rfl⟩ ?_ ?_ ?_
 ·exact .cons (sG (bw e0 (n4 le0))) rfl (.cons (sG fnil) rfl (.cons (sG fnil) rfl (.nil _)))
 ·rintro k hk x s2 L hx hH' ⟨v,hv,rfl⟩ he hwf hlt
  have hH:Has s2.heap ([(st.heap.length,.var [iv b.words,b.v]),(s1.heap.length,.var [M]),(s1.heap.length+1,.var [v])]++tagL v):=hH'
  have d0:=hH.left.hp (l:=st.heap.length) (o := .var [iv b.words,b.v]) (by simp)
  have d1:=hH.left.hp (l:=s1.heap.length) (o := .var [M]) (by simp)
  have d2:=hH.left.hp (l:=s1.heap.length+1) (o := .var [v]) (by simp)
  have ld0:=hp_lt d0
  have ld1:=hp_lt d1
  have ld2:=hp_lt d2
  obtain⟨hxl,hxi⟩:=mem_lists.1 (List.getElem_mem hk)
  have hxs:=hx.1.slen
  have hxl5:(listsL (b.cs.length+1) b.cs.length)[k].length≤5:=by omega
  refine go2 (bw hl hxs) fnil ?_
  refine wp_range (listsL (b.cs.length+1) b.cs.length)[k].length [10] (fun q vs s'=>∃ y,vs=[y]∧OwnS s2.heap.length s' 1 y q ((((listsL (b.cs.length+1) b.cs.length)[k].take q).map fun x=>x - 1).flatMap encI)∧Fr s2.heap.length s2 s'∧s'.lo≤s'.heap.length) (by omega) (sG hl) (sG hl) (sG hl) (by decide) ⟨_,(sG hl),.nil,.refl _ _,by omega⟩ ?_ ?_
  ·rintro q hq tm2 s3 ⟨y,hy,hY,hF,hw3⟩ hS2 hqa
   replace hy:=mv1 hy
   have hl2:tm2.length=64:=lN hS2 hl;have k35:tg tm2 35=x:=tQ hS2 hl;clear hS2
   have hFl:=hF.len
   have hx1:=hx.1
   have hxq:=hxi _ (List.getElem_mem hq)
   have hwq:IntKind.wrap .i64 ((listsL (b.cs.length+1) b.cs.length)[k][q] - 1)=(listsL (b.cs.length+1) b.cs.length)[k][q] - 1:=wrap_in (by unfold inI;omega)
   refine go2 (bw4 hl2 k35 hqa hwq) fnil ?_
   refine aP (bw hl2 hy) (hY.push) ?_
   intro y' s4 hY4 hF4 hk4
   have y1:=hF4.up
   have y2:=hF4.len
   simp only[lo_push,len_push] at y1 y2
   refine go2 hl2 fnil ?_
   refine⟨y',(sG hl2),?_,(hF.push hFl).trans hF4,by omega⟩
   rw[List.take_succ_eq_append_getElem hq,List.map_append,List.flatMap_append,List.map_singleton]
   simpa[share_int] using hY4
  ·rintro tm2 s3 ⟨y,hy,hY,hF,hw3⟩ hS2
   replace hy:=mv1 hy
   have hl2:tm2.length=64:=lN hS2 hl;have k2:tg tm2 2 = .ptr st.heap.length 0:=tQ hS2 (bw hl h0);have k7:tg tm2 7 = .ptr s1.heap.length 0:=tQ hS2 (bw hl h0);have k8:tg tm2 8 = .ptr (s1.heap.length+1) 0:=tQ hS2 (bw hl h0);clear hS2
   rw[List.take_length] at hY
   generalize htr:(listsL (b.cs.length+1) b.cs.length)[k].map (fun x=>x - 1)=tr at hY
   have htl:tr.length=b.cs.length:=by rw[← htr,List.length_map,hxl]
   have hYs:SlOf 1 encI y tr:=SlOf.of_sl hY.sl (by rw[htl,hxl]) rfl (fun _=>rfl)
   have hYc:=hYs.cells
   have hYi:=hYs.isCell
   have hsh:y.share=elL tr:=share_own hY (by rw[htl,hxl]) rfl (by intro e;rw[e] at htl;simp at htl;omega)
   have k115:=fun st=>c115 b hN.n y tr hYs st
   have hH3:Has s3.heap ([(st.heap.length,.var [iv b.words,b.v]),(s1.heap.length,.var [M]),(s1.heap.length+1,.var [v])]++tagL v):=hH.ext hF.hext
   have f0:=hH3.left.hp (l:=st.heap.length) (o := .var [iv b.words,b.v]) (by simp)
   have f1:=hH3.left.hp (l:=s1.heap.length) (o := .var [M]) (by simp)
   have f2:=hH3.left.hp (l:=s1.heap.length+1) (o := .var [v]) (by simp)
   have lf0:=hp_lt f0
   have lf1:=hp_lt f1
   have lf2:=hp_lt f2
   have hps:=partT_succ b.bk (t.map SI.l) (k:=k) (by rw[hbl];exact hk)
   simp only[hbl,htr] at hps
   have hpl:=partT_len b.bk (t.map SI.l) (by omega) k
   have hFl:=hF.len
   have hFlo:=hF.lo
   have k0:KeepV (fun l=>l∈[s1.heap.length+1]) s2.heap s3.heap:=(hF.hext).keep _
   have hO3:=hv.own hH3.right
   cases hD:treeB b.cs.length tr
   ·rw[hD] at hps
    refine go2 (bw6 hl2 k2 hy f0 hD (n4 lf0)) (bw k115 fnil) ?_
    refine⟨k0,by omega,hw3,trivial,_,hH3,v,?_,rfl⟩
    rw[hps];simp only[Bool.false_eq_true,if_false,List.append_nil];exact hv
   ·rw[hD,if_pos rfl] at hps
    have k116:=fun st=>total116 b t y tr hYs hB hC hD M hMs st
    refine go2 (bw15 hl2 k2 k7 k8 hy hsh hYc hYi f0 f1 f2 hD (n4 lf0) (n4 lf1) (n4 lf2)) (bw3 k115 k116 fnil) ?_
    have lw3:s3.lo≤s3.heap.length:=hw3
    refine wopsD_append (by simp only[lo_push,len_push];omega) rfl rfl (sR hl2) (sR hl2) hO3.push rfl (by simp only[len_push];omega) (by rfl) (by simp only[List.all_cons,List.all_nil,el_isCell,Bool.and_true];rfl) (by simp only[maxList];omega) ?_
    intro v' s5 ft hO5 hF5 hk5
    have e0':hp s5 st.heap.length=some (.var [iv b.words,b.v]):=hk5 _ _ (sG (bw f0 (n4 lf0))) (by simp)
    have e1':hp s5 s1.heap.length=some (.var [M]):=hk5 _ _ (sG (bw f1 (n4 lf1))) (by simp)
    have e2':hp s5 (s1.heap.length+1)=some (.var [v]):=hk5 _ _ (sG (bw f2 (n4 lf2))) (by simp)
    have le9:=hp_lt e2'
    have v1:=sl_cells hO5.sl
    have v2:=sl_isCell hO5.sl
    have z1':=hF5.lo
    have z2':=hF5.up
    have z3':=hF5.len
    simp only[lo_push,len_push] at z1' z2' z3'
    have kA:=k0.kpush.trans (keep_app hk5 hF5.len)
    refine go2 (bw6 hl2 k8 e2' v1 v2 (n4 le9)) fnil ?_
    obtain⟨r1,r2⟩:=(own_var (o := .var [v']) hO5 e2').p
    refine⟨kA.kset (.inl (by simp)),by rw[lo_setVar];omega,by rw[lo_setVar,len_setVar];omega,trivial,_,.app (.cons (by rw[hp_setVar,if_neg (by omega)];exact e0') rfl (.cons (by rw[hp_setVar,if_neg (by omega)];exact e1') rfl (.cons (by rw[hp_setVar,if_pos rfl,if_pos le9]) rfl (.nil _)))) r2,v',?_,rfl⟩
    rw[hps,List.flatMap_append,List.length_append,List.flatMap_singleton]
    have:[elL tr,iv (totalI b.bk (t.map SI.l) tr)].map PV.share=encC (tr,totalI b.bk (t.map SI.l) tr):=by show [(elL tr).share,(iv _).share]=_;rw[el_share];rfl
    rw[← this]
    exact r1
 ·rintro s4 L hH' ⟨v,hv,rfl⟩ k4 he hwf
  have hH:Has s4.heap ([(st.heap.length,.var [iv b.words,b.v]),(s1.heap.length,.var [M]),(s1.heap.length+1,.var [v])]++tagL v):=hH'
  have d2:=hH.left.hp (l:=s1.heap.length+1) (o := .var [v]) (by simp)
  have hO:=hv.own hH.right
  have hpa:=partT_all b.bk (t.map SI.l)
  have hpl:=partT_len b.bk (t.map SI.l) (by omega)
  rw[hbl] at hpa
  rw[hpa] at hO
  have hpl':(treesT b.bk (t.map SI.l)).length≤7776:=by rw[← hpa];exact hpl _
  have hne:0<(treesT b.bk (t.map SI.l)).length:=by
   rw[treesT,List.length_map]
   exact List.length_pos_of_mem (mem_trees.2 star_tree)
  have hV:SlOf 2 encC v (treesT b.bk (t.map SI.l)):=SlOf.of_sl hO.sl rfl rfl (fun _=>rfl)
  apply inBlock_normal
  refine go2 (bw hl d2) fnil ?_
  refine cR hl (c118 v _ hV hne (by omega) _) ?_
  rintro w s5 ⟨o,ho,rfl,rfl⟩
  have hc:=fun p=>el_cells p
  have hi:=fun p=>el_isCell p
  refine go2 (bw3 hl hc hi) fnil ?_
  refine fX (.tuple [elL o.1,iv o.2,iv 0]) (bw3 hl hc hi) ?_
  rw[finish_elT (by simp only[lo_push,lo_setVar];omega)]
  exact⟨o,ho,rfl,rfl⟩
 ·intro j st' L _ h
  exact h.elim
end
end Go.Den.Ve
end
section
namespace Go.Den.Ve
structure SS where
 v:PV
 l:List SI
 h:SlOf 1 encSI v l
abbrev encSS (x:SS):List PV:=[x.v]
attribute [go_sem] encSS
theorem SS.cells(c:SS):c.v.cells=[c.v]:=c.h.cells
theorem SS.isCell(c:SS):c.v.isCell=true:=c.h.isCell
theorem SS.slen(c:SS):c.v.slen=some c.l.length:=c.h.slen
attribute [go_sem] SS.cells SS.isCell SS.slen
theorem c145(n:Nat)(h1:1≤n)(h2:n≤1000)(st:St):Cl EE (.func 145 [] []) [.nilslice,iv n] st (.ret (.slice (.tag st.heap.length 1) 0 [])) (st.push (.tag true)):=by
 refine⟨1,fun k hk=>?_⟩
 obtain⟨m,rfl⟩:∃ m,k=m+1:=⟨k - 1,by omega⟩
 show stepCall EE (run EE m) (.func 145 [] []) [.nilslice,iv n] st=_
 have h2':EE.prim 145 (run EE m) ([]++[.nilslice,iv n]++[]) st=growR st [.nilslice,iv n]:=rfl
 have h3:growR st [.nilslice,iv n]=some (some (.ret (.slice (.tag st.heap.length 1) 0 []),st.push (.tag true))):=by
  simp only[growR]
  rw[if_pos (by omega)]
  rfl
 simp only[stepCall,enter,h2',h3]
theorem sums_take{X:List SS}{k:Nat}(hk:k<X.length):((X.take (k+1)).flatMap SS.l).length=((X.take k).flatMap SS.l).length+X[k].l.length:=by
 rw[List.take_succ_eq_append_getElem hk,List.flatMap_append,List.length_append]
 simp
theorem sums_le{X:List SS}(k:Nat):((X.take k).flatMap SS.l).length≤(X.flatMap SS.l).length:=by
 conv=>rhs;rw[← List.take_append_drop k X,List.flatMap_append,List.length_append]
 omega
def SI.shr (x:SI):SI:=⟨x.v.share,x.l,x.h.share⟩
theorem ss_share(X:List SI):(X.flatMap encSI).map PV.share=(X.map SI.shr).flatMap encSI:=by
 induction X with
 | nil=>rfl
 | cons x X ih=>rw[List.flatMap_cons,List.map_append,ih];rfl
theorem ss_cell(X:List SI):(X.flatMap encSI).all PV.isCell=true:=by
 rw[List.all_eq_true]
 intro c hc
 obtain⟨x,_,h⟩:=List.mem_flatMap.1 hc
 rw[List.mem_singleton.1 h]
 exact x.isCell
set_option maxHeartbeats 4000000 in
theorem c109(F:PV)(X:List SS)(hF:SlOf 1 encSS F X)(hX:X.length≤1000)(h1n:1≤(X.flatMap SS.l).length)(hN:(X.flatMap SS.l).length≤1000)(st:St):ClR EE (.func 109 [] []) [F] st (RetS st 1 ((X.flatMap SS.l).map SI.shr).length (((X.flatMap SS.l).map SI.shr).flatMap encSI)):=by
 have hFs:=hF.slen
 refine cG1 pr109 fn109 (fun tm hl h0=>?_)
 refine go2 (bw3 hl h0 hFs) fnil ?_
 refine wp_range X.length [3] (fun k vs st'=>vs=[iv ((X.take k).flatMap SS.l).length]∧st'={ heap:=st.heap,lo:=st.heap.length }) (by omega) (sG hl) (sG hl) (sG hl) (by decide) ⟨(sR hl),rfl⟩ ?_ ?_
 ·rintro k hk tm1 st1 ⟨hv,rfl⟩ hS hka
  replace hv:=mv1 hv
  have hl1:tm1.length=36:=lN hS hl;have j9:tg tm1 9=F:=tQ hS (bw hl h0);clear hS
  have hs:=sums_take hk
  have hle:=sums_le (X:=X) (k+1)
  have hw:IntKind.wrap .i64 ((((X.take k).flatMap SS.l).length:Int)+(X[k].l.length:Int))=((((X.take (k+1)).flatMap SS.l).length:Nat):Int):=by rw[wrap_in (by unfold inI;omega)];omega
  have hd:decide ((((X.take (k+1)).flatMap SS.l).length:Int)<0)=false:=decide_eq_false (by omega)
  refine go2 (bw6 hl1 j9 hka hv hw hd) fnil ?_
  exact⟨(sG hl1),rfl⟩
 ·rintro tm1 st1 ⟨hv,rfl⟩ hS
  replace hv:=mv1 hv
  have hl1:tm1.length=36:=lN hS hl;have j0:tg tm1 0=F:=tQ hS (bw hl h0);clear hS
  rw[List.take_length] at hv
  have k145:=c145 (X.flatMap SS.l).length h1n hN { heap:=st.heap,lo:=st.heap.length }
  refine go2 (bw4 hl1 j0 hv hFs) (bw k145 fnil) ?_
  refine wp_range X.length [6] (fun k vs st'=>∃ v,vs=[v]∧OwnS st.heap.length st' 1 v ((X.take k).flatMap SS.l).length ((((X.take k).flatMap SS.l).map SI.shr).flatMap encSI)∧st.heap.length≤st'.lo∧st'.lo≤st'.heap.length) (by omega) (sG hl1) (sG hl1) (sG hl1) (by decide) ⟨_,(sR hl1),⟨rfl,.inr ⟨_,rfl,Nat.le_refl _,(sG fnil)⟩⟩,by simp only[lo_push];omega,by simp only[lo_push,len_push];omega⟩ ?_ ?_
  ·rintro k hk tm2 st2 ⟨v,hv,hO,hlo,hwf⟩ hS2 hka
   replace hv:=mv1 hv
   have hl2:tm2.length=36:=lN hS2 hl1;have k25:tg tm2 25=F:=tQ hS2 hl1;clear hS2
   have hs:=sums_take hk
   have hle:=sums_le (X:=X) (k+1)
   have hXs:=X[k].h.sl
   refine go2 (bw4 hl2 k25 hka hv) fnil ?_
   refine wops_append rfl rfl (sR (bw hl2 hv)) (sR hl2) hO hXs (by omega) (flatMap_len (sz:=1) (fun a _=>rfl)) (ss_cell _) (by simp only[maxList];omega) ?_
   intro v' s3 hO3 hF3 hk3
   have y1:=hF3.lo
   have y2:=hF3.up
   have y3:=hF3.len
   refine go2 hl2 fnil ?_
   refine⟨v',(sG hl2),?_,by omega,by omega⟩
   rw[hs,List.take_succ_eq_append_getElem hk,List.flatMap_append,List.map_append,List.flatMap_append]
   rw[ss_share] at hO3
   simpa using hO3
  ·rintro tm2 st2 ⟨v,hv,hO,hlo,hwf⟩ hS2
   replace hv:=mv1 hv
   have hl2:tm2.length=36:=by rw[hS2.1];simp only[↓reduceIte,go_sem,hl1]
   refine go2 (bw hl2 hv) fnil ?_
   refine fX (v) (bw hl2 hv) ?_
   rw[List.take_length] at hO
   rw[List.length_map]
   exact hO.finish hlo (fun m c hc=>by
    obtain⟨x,hx,h⟩:=List.mem_flatMap.1 hc
    obtain⟨y,_,rfl⟩:=List.mem_map.1 hx
    rw[List.mem_singleton.1 h]
    exact share_low y.h m)
end Go.Den.Ve
end
section
namespace Go.Den.Ve
def mixW (b:BK) (i j c:Nat):List (List Int):=(linesW (b.copies.getD i [])).take c++(linesW (b.copies.getD j [])).drop c
abbrev T4:=Int×Int×Int×Int
abbrev enc4 (x:T4):List PV:=[.int .i64 x.1,.int .i64 x.2.1,.int .i64 x.2.2.1,.int .i64 x.2.2.2]
attribute [go_sem] enc4
def mixOne (b:BK) (n i j c:Nat):T4:=((i:Int),(j:Int),((c+1:Nat):Int),copiedI (mixW b i j (c+1)) (b.copies.getD n []))
def mixC (b:BK) (n i j m:Nat):List T4:=(List.range m).map (mixOne b n i j)
def mix1 (b:BK) (n i j:Nat):List T4:=if i=j∨i=n∨j=n then [] else mixC b n i j (lines1 b - 1)
def mixK (b:BK) (n i k:Nat):List T4:=(List.range k).flatMap (mix1 b n i)
def mixesK (b:BK) (n k:Nat):List T4:=(List.range k).flatMap fun i=>mixK b n i b.copies.length
def mixB (b:BK) (n:Nat):Option T4:=bestF (fun x y:T4=>decide (x.2.2.2<y.2.2.2)) (mixesK b n b.copies.length)
theorem mixC_succ(b:BK)(n i j m:Nat):mixC b n i j (m+1)=mixC b n i j m++[mixOne b n i j m]:=by simp[mixC,List.range_succ]
theorem mixK_succ(b:BK)(n i k:Nat):mixK b n i (k+1)=mixK b n i k++mix1 b n i k:=by simp[mixK,List.range_succ]
theorem mixesK_succ(b:BK)(n k:Nat):mixesK b n (k+1)=mixesK b n k++mixK b n k b.copies.length:=by simp[mixesK,List.range_succ]
theorem mix1_len(b:BK)(h4:lines1 b≤4)(n i j:Nat):(mix1 b n i j).length≤3:=by
 unfold mix1 mixC
 split
 ·simp
 ·simp;omega
theorem mixK_len(b:BK)(h4:lines1 b≤4)(n i:Nat):∀ k,(mixK b n i k).length≤3*k
 | 0=>by simp[mixK]
 | k+1=>by
  have:=mixK_len b h4 n i k
  have:=mix1_len b h4 n i k
  rw[mixK_succ,List.length_append];omega
theorem mixesK_len(b:BK)(h4:lines1 b≤4)(h5:b.copies.length≤5)(n:Nat):∀ k,(mixesK b n k).length≤15*k
 | 0=>by simp[mixesK]
 | k+1=>by
  have:=mixesK_len b h4 h5 n k
  have:=mixK_len b h4 n k b.copies.length
  rw[mixesK_succ,List.length_append];omega
theorem c112(x o:T4)(st:St):Cl EE (.func 112 [] []) [.agg (enc4 x),.agg (enc4 o)] st (.ret (.bool (decide (x.2.2.2<o.2.2.2)))) st:=by
 refine cF2 pr112 fn112 (fun tm hl h0 h1=>?_)
 refine go2 (bw3 hl h0 h1) fnil ?_
 exact fQ hl
theorem c111(F:PV)(X:List T4)(hF:SlOf 4 enc4 F X)(h0:0<X.length)(hN:X.length<1000000)(st:St):ClR EE (.func 111 [] []) [F,.func 112 [] []] st (fun v st'=>∃ o,bestF (fun x y:T4=>decide (x.2.2.2<y.2.2.2)) X=some o∧v = .agg (enc4 o)∧st'=st) :=
 bestG pr111 fn111 (z:=[.int .i64 0,.int .i64 0,.int .i64 0,.int .i64 0]) rfl (fun _=>rfl) (fun _=>rfl) F X hF h0 hN 112 [] [] _ st (fun st' _ x _ o _=>c112 x o st') (fun o st1 h=>finish_flat h rfl)
set_option maxHeartbeats 4000000 in
theorem c110S(c:CP)(h4:c.ls.length≤4)(st:St):ClR EE (.func 110 [] []) [c.v] st (RetS st 1 (c.ls.map LP.si).length ((c.ls.map LP.si).flatMap encSI)):=by
 have hC:=c.h
 refine cG1 pr110 fn110 (fun tm hl h0=>?_)
 refine go2 (bw hl h0) fnil ?_
 refine wp_range c.ls.length [3] (fun k vs st'=>∃ v,vs=[v]∧OwnS st.heap.length st' 1 v k (((c.ls.take k).map LP.si).flatMap encSI)∧st.heap.length≤st'.lo∧st'.lo≤st'.heap.length) (by omega) (sG hl) (sG hl) (sG hl) (by decide) ⟨_,(sG hl),.nil,by show st.heap.length≤st.heap.length;omega,Nat.le_refl _⟩ ?_ ?_
 ·rintro k hk tm1 st1 ⟨v,hv,hO,hlo,hwf⟩ hS hka
  replace hv:=mv1 hv
  have hl1:tm1.length=19:=lN hS hl;have j6:tg tm1 6=c.v:=tQ hS hl;clear hS
  have hO0:=own_new (z:=[.bool false,.nilslice]) (y:=[.bool c.ls[k].lost,c.ls[k].w]) hO
  refine go2 (bw3 hl1 j6 hka) fnil ?_
  refine wops_append rfl rfl (sR (bw hl1 hv)) (sR hl1) hO0.push rfl (by simp only[len_push,len_setVar];omega) (by rfl) (by simp only[List.all_cons,List.all_nil,share_isCell,LP.isCell,Bool.and_true]) (by simp only[maxList];omega) ?_
  intro v' s3 hO3 hF3 hk3
  have z1:=hF3.lo
  have z2:=hF3.up
  have z3:=hF3.len
  simp only[lo_push,len_push,lo_setVar,len_setVar] at z1 z2 z3
  refine go2 hl1 fnil ?_
  refine⟨v',(sG hl1),?_,by omega,by omega⟩
  rw[List.take_succ_eq_append_getElem hk,List.map_append,List.flatMap_append]
  simpa[share_share,LP.si] using hO3
 ·rintro tm1 st1 ⟨v,hv,hO,hlo,hwf⟩ hS
  replace hv:=mv1 hv
  have hl1:tm1.length=19:=by rw[hS.1];simp only[↓reduceIte,go_sem,hl]
  refine go2 (bw hl1 hv) fnil ?_
  refine fX (v) (bw hl1 hv) ?_
  rw[List.take_length] at hO
  rw[List.length_map]
  exact hO.finish hlo (fun m c hc=>by
   obtain⟨x,hx,h⟩:=List.mem_flatMap.1 hc
   obtain⟨y,_,rfl⟩:=List.mem_map.1 hx
   rw[List.mem_singleton.1 h]
   exact share_low y.h m)
set_option maxHeartbeats 8000000 in
theorem c59_yes(b:BP)(hN:SmB b)(h:OkB b.bk)(n:Nat)(hn:n<b.cs.length)(st:St):Cl EE (.func 59 [] []) [b.pv,iv n] st (.ret (match mixB b.bk n with
  | some x => .tuple [.agg (enc4 x),iv 0]
  | none => .tuple [.agg [iv 0,iv 0,iv 0,iv 0],iv 5])) st:=by
 have h81:=c81 b hN
 have hA:=bookB_iff.2 h
 have k98:=fun st=>c98 b hN.n n st
 have hin:inN (n:Int) 0 (b.cs.length - 1)=true:=by simp only[inN,Bool.and_eq_true,decide_eq_true_eq];omega
 have hB:=b.h
 have hl4:=h.l4
 have hc5:b.cs.length≤5:=by have:=h.c5;simpa using this
 have hbl:b.bk.copies.length=b.cs.length:=by simp
 have hcn:=CP.len4 h (List.getElem_mem hn)
 refine cF2 pr59 fn59 (fun tm hl h0 h1=>?_)
 refine go2 (bw5 hl h0 h1 hA hin) (bw3 h81 k98 fnil) ?_
 refine wp_range b.cs.length [7] (fun i vs st'=>∃ v,vs=[v]∧OwnS st.heap.length st' 4 v (mixesK b.bk n i).length ((mixesK b.bk n i).flatMap enc4)∧hp st' st.heap.length=some (.var [iv b.words,b.v])∧hp st' (st.heap.length+1)=some (.var [iv 0,iv 0,iv 0,iv 0])∧st.heap.length≤st'.lo∧st'.lo≤st'.heap.length) (by omega) (sG hl) (sG hl) (sG hl) (by decide) ⟨_,(sG hl),.nil,(sG fnil),(sG fnil),by simp only[lo_push];omega,by simp only[lo_push,len_push];omega⟩ ?_ ?_
 ·rintro i hi tm1 st1 ⟨v,hv,hO,d0,d1,hlo,hwf⟩ hS hia
  replace hv:=mv1 hv
  have hl1:tm1.length=92:=lN hS hl;have j1:tg tm1 1=iv n:=tQ hS (bw hl h1);have j2:tg tm1 2 = .ptr st.heap.length 0:=tQ hS (bw hl h1);have j6:tg tm1 6=b.cs[n].v:=tQ hS (bw hl h1);have j30:tg tm1 30=b.v:=tQ hS (bw hl h1);clear hS
  have ld0:=hp_lt d0
  have hli:=mixesK_len b.bk hl4 (by omega) n i
  refine go2 (bw7 hl1 j1 j2 j30 hia d0 (n4 ld0)) fnil ?_
  refine wp_range b.cs.length [7] (fun j vs st'=>∃ v,vs=[v]∧OwnS st.heap.length st' 4 v (mixesK b.bk n i++mixK b.bk n i j).length ((mixesK b.bk n i++mixK b.bk n i j).flatMap enc4)∧hp st' st.heap.length=some (.var [iv b.words,b.v])∧hp st' (st.heap.length+1)=some (.var [iv 0,iv 0,iv 0,iv 0])∧st.heap.length≤st'.lo∧st'.lo≤st'.heap.length) (by omega) (sG hl1) (sG hl1) (sG hl1) (by decide) ⟨v,(sG (bw hl1 hv)),by simpa[mixK] using hO,d0,d1,hlo,hwf⟩ ?_ ?_
  ·clear hO d0 d1 hlo hwf hv ld0
   rintro j hj tm2 st2 ⟨v,hv,hO,d0,d1,hlo,hwf⟩ hS2 hja
   replace hv:=mv1 hv
   have hl2:tm2.length=92:=lN hS2 hl1;have k1:tg tm2 1=iv n:=tQ hS2 (bw5 hl1 j1 j2 j6 hia);have k2:tg tm2 2 = .ptr st.heap.length 0:=tQ hS2 (bw5 hl1 j1 j2 j6 hia);have k6:tg tm2 6=b.cs[n].v:=tQ hS2 (bw5 hl1 j1 j2 j6 hia);have k8:tg tm2 8=iv i:=tQ hS2 (bw5 hl1 j1 j2 j6 hia);have k9:tg tm2 9=b.cs[i].v:=tQ hS2 (bw5 hl1 j1 j2 j6 hia);have k38:tg tm2 38=b.v:=tQ hS2 (bw5 hl1 j1 j2 j6 hia);clear hS2
   have ld0:=hp_lt d0
   have hlk:=mixK_len b.bk hl4 n i j
   have hms:=mixK_succ b.bk n i j
   have hci:=CP.len4 h (List.getElem_mem hi)
   have hcj:=CP.len4 h (List.getElem_mem hj)
   by_cases hex:i=j∨i=n∨j=n
   ·have h1x:mix1 b.bk n i j=[]:=by rw[mix1,if_pos hex]
    rw[h1x,List.append_nil] at hms
    have fin:(mixesK b.bk n i++mixK b.bk n i (j+1))=mixesK b.bk n i++mixK b.bk n i j:=by rw[hms]
    by_cases e1:i=j
    ·have b1:((i:Int)==(j:Int))=true:=by simp[e1]
     refine go2 (bw8 hl2 k1 k2 k8 k9 k38 hja b1) fnil ?_
     exact⟨v,(sG (bw hl2 hv)),by rw[fin];exact hO,d0,d1,hlo,hwf⟩
    ·have b1:((i:Int)==(j:Int))=false:=by rw[beq_eq_false_iff_ne];omega
     by_cases e2:i=n
     ·have b2:((i:Int)==(n:Int))=true:=by simp[e2]
      refine go2 (bw9 hl2 k1 k2 k8 k9 k38 hja b1 b2) fnil ?_
      exact⟨v,(sG (bw hl2 hv)),by rw[fin];exact hO,d0,d1,hlo,hwf⟩
     ·have b2:((i:Int)==(n:Int))=false:=by rw[beq_eq_false_iff_ne];omega
      have b3:((j:Int)==(n:Int))=true:=by simp;omega
      refine go2 (bw10 hl2 k1 k2 k8 k9 k38 hja b1 b2 b3) fnil ?_
      exact⟨v,(sG (bw hl2 hv)),by rw[fin];exact hO,d0,d1,hlo,hwf⟩
   ·have h1x:mix1 b.bk n i j=mixC b.bk n i j (lines1 b.bk - 1):=by rw[mix1,if_neg hex]
    rw[h1x] at hms
    have b1:((i:Int)==(j:Int))=false:=by rw[beq_eq_false_iff_ne];omega
    have b2:((i:Int)==(n:Int))=false:=by rw[beq_eq_false_iff_ne];omega
    have b3:((j:Int)==(n:Int))=false:=by rw[beq_eq_false_iff_ne];omega
    have hcs:=b.cs[n].slen
    refine go2 (bw10 hl2 k1 k2 k8 k9 k38 hja b1 b2 b3) fnil ?_
    refine wp_for [7,12] (fun m vs s'=>m≤lines1 b.bk - 1∧∃ v,vs=[v,iv ((m+1:Nat):Int)]∧OwnS st.heap.length s' 4 v (mixesK b.bk n i++mixK b.bk n i j++mixC b.bk n i j m).length ((mixesK b.bk n i++mixK b.bk n i j++mixC b.bk n i j m).flatMap enc4)∧hp s' st.heap.length=some (.var [iv b.words,b.v])∧hp s' (st.heap.length+1)=some (.var [iv 0,iv 0,iv 0,iv 0])∧st.heap.length≤s'.lo∧s'.lo≤s'.heap.length) (fun m=>lines1 b.bk - m) ⟨by omega,v,(sR (bw hl2 hv)),by simpa[mixC] using hO,d0,d1,hlo,hwf⟩ ?_
    clear hO d0 d1 hlo hwf hv ld0
    rintro m tm3 st3 ⟨hm,v,hv,hO,d0,d1,hlo,hwf⟩ hS3
    obtain⟨hv7,hv12⟩:=mv2 hv
    have hl3:tm3.length=92:=lN hS3 hl2;have q6:tg tm3 6=b.cs[n].v:=tQ hS3 (bw4 hl2 k6 k8 k9);have q8:tg tm3 8=iv i:=tQ hS3 (bw4 hl2 k6 k8 k9);have q9:tg tm3 9=b.cs[i].v:=tQ hS3 (bw4 hl2 k6 k8 k9);have q10:tg tm3 10=iv j:=tQ hS3 (bw4 hl2 k6 k8 k9);have q11:tg tm3 11=b.cs[j].v:=tQ hS3 (bw4 hl2 k6 k8 k9);clear hS3
    have hcl:b.cs[n].ls.length=lines1 b.bk:=hcn.1
    refine go2 (bw3 hl3 q6 hv12) fnil ?_
    refine⟨_,(sR hl3),fun hb=>?_,fun hb=>⟨?_,?_⟩⟩
    ·have hme:m=lines1 b.bk - 1:=by simp at hb;omega
     refine go2 hl3 fnil ?_
     refine⟨v,(sG (bw hl3 hv7)),?_,d0,d1,hlo,hwf⟩
     rw[hms,← hme,← List.append_assoc]
     exact hO
    ·simp at hb;omega
    ·have hm1:m+1<lines1 b.bk:=by simp at hb;omega
     have hmo:=mixC_succ b.bk n i j m
     have hw:=wrapN (n:=m+1) (by omega)
     have hml:(mixC b.bk n i j m).length=m:=by simp[mixC]
     refine go2 (bw hl3 q9) fnil ?_
     refine wopsD_callS (by first|omega|(simp only[lo_push,lo_setVar,len_push,len_setVar];omega)) rfl rfl (by simp only[↓reduceIte,go_sem,hl3,q9];first|done|rfl) (fun st1 he=>by simp only[↓reduceIte,go_sem,hl3,q9];exact c110S b.cs[i] (by omega) _) ?_
     intro V1 s1 hR1
     have hV1:SlOf 1 encSI V1 (b.cs[i].ls.map LP.si):=SlOf.of_sl hR1.sl rfl rfl (fun _=>rfl)
     have x1:=hR1.lo
     have x2:=hR1.len
     refine go2 (bw hl3 hv12) fnil ?_
     refine wopsD_slice (n:=0) (m:=m+1) (by omega) rfl rfl (sR hl3) hV1 (by simp only[↓reduceIte,go_sem,hl3,bound];first|done|rfl) (by rfl) (by omega) (by rw[List.length_map];omega) ?_
     intro F1 hF1
     have hF1c:=hF1.cells
     have hF1i:=hF1.isCell
     refine go2 (bw hl3 q11) fnil ?_
     refine wopsD_callS (by first|omega|(simp only[lo_push,lo_setVar,len_push,len_setVar];omega)) rfl rfl (by simp only[↓reduceIte,go_sem,hl3,q11];first|done|rfl) (fun st1 he=>by simp only[↓reduceIte,go_sem,hl3,q11];exact c110S b.cs[j] (by omega) _) ?_
     intro V2 s2 hR2
     have hV2:SlOf 1 encSI V2 (b.cs[j].ls.map LP.si):=SlOf.of_sl hR2.sl rfl rfl (fun _=>rfl)
     have x3:=hR2.lo
     have x4:=hR2.len
     refine go2 (bw hl3 hv12) fnil ?_
     refine wopsD_slice (n:=m+1) (m:=(b.cs[j].ls.map LP.si).length) (by omega) rfl rfl (sR hl3) hV2 (by rfl) (by simp only[↓reduceIte,go_sem,hl3,bound];first|done|rfl) (by rw[List.length_map];omega) (by omega) ?_
     intro F2 hF2
     have hF2c:=hF2.cells
     have hF2i:=hF2.isCell
     generalize hX1:((b.cs[i].ls.map LP.si).drop 0).take (m+1 - 0)=X1 at hF1
     generalize hX2:((b.cs[j].ls.map LP.si).drop (m+1)).take ((b.cs[j].ls.map LP.si).length - (m+1))=X2 at hF2
     have hX1l:X1.length=m+1:=by rw[← hX1];simp;omega
     have hX2l:X2.length=lines1 b.bk - (m+1):=by rw[← hX2];simp;omega
     have hX1m:∀ x∈X1,x.l.length≤4:=fun x hx=>by
      rw[← hX1] at hx
      obtain⟨y,hy,rfl⟩:=List.mem_map.1 (List.mem_of_mem_drop (List.mem_of_mem_take hx))
      exact hci.2 y hy
     have hX2m:∀ x∈X2,x.l.length≤4:=fun x hx=>by
      rw[← hX2] at hx
      obtain⟨y,hy,rfl⟩:=List.mem_map.1 (List.mem_of_mem_drop (List.mem_of_mem_take hx))
      exact hcj.2 y hy
     have em:((X1++X2).map SI.shr).map SI.l=mixW b.bk i j (m+1):=by
      have ei:b.bk.copies.getD i []=b.cs[i].c:=by rw[List.getD_eq_getElem?_getD];simp[hi]
      have ej:b.bk.copies.getD j []=b.cs[j].c:=by rw[List.getD_eq_getElem?_getD];simp[hj]
      have e1:(X1++X2).map SI.l=((X1++X2).map SI.shr).map SI.l:=by rw[List.map_map];rfl
      have e2:∀ c:CP,(c.ls.map LP.si).map SI.l=linesW c.c:=fun c=>by simp[linesW,LP.si,Function.comp_def]
      rw[← e1,mixW,ei,ej,List.map_append,← hX1,← hX2,List.take_of_length_le (l:=(b.cs[j].ls.map LP.si).drop (m+1)) (by rw[List.length_drop];omega),List.map_take,List.map_drop,List.map_drop,e2,e2]
      rfl
     have en:b.bk.copies.getD n []=b.cs[n].c:=by rw[List.getD_eq_getElem?_getD];simp[hn]
     refine go2 (bw5 hl3 hF1c hF1i hF2c hF2i) fnil ?_
     have kX:=c109 (.slice (.tag s2.heap.length 1) 2 [F1.share,F2.share]) [⟨F1.share,X1,hF1.share⟩,⟨F2.share,X2,hF2.share⟩] ⟨rfl,fun _ _=>rfl⟩ (by simp) (by simp;omega) (by simp;omega)
     refine wopsD_callS (by first|omega|(simp only[lo_push,lo_setVar,len_push,len_setVar];omega)) rfl rfl (by simp only[↓reduceIte,go_sem,hl3,hF1c,hF1i,hF2c,hF2i];first|done|rfl) (fun st1 he=>by simp only[↓reduceIte,go_sem,hl3,hF1c,hF1i,hF2c,hF2i];exact kX _) ?_
     intro V3 s3 hR3
     have hflat:[(⟨F1.share,X1,hF1.share⟩:SS),⟨F2.share,X2,hF2.share⟩].flatMap SS.l=X1++X2:=by simp
     rw[hflat] at hR3
     have hV3:SlOf 1 encSI V3 ((X1++X2).map SI.shr):=SlOf.of_sl hR3.sl rfl rfl (fun _=>rfl)
     have x5:=hR3.lo
     have x6:=hR3.len
     simp only[lo_push,len_push] at x5 x6
     have kc:=fun st=>c108 V3 ((X1++X2).map SI.shr) hV3 b.cs[n] (by rw[List.length_map,List.length_append];omega) (by omega) (fun x hx=>by
      obtain⟨y,hy,rfl⟩:=List.mem_map.1 hx
      rcases List.mem_append.1 hy with hy|hy
      ·exact hX1m y hy
      ·exact hX2m y hy) hcn.2 st
     rw[em] at kc
     have hx9:HExt st3.heap s3.heap:=(hR1.w.hext.trans hR2.w.hext).trans ((HExt.push _ _).trans hR3.w.hext)
     have hO9:=hO.hext hx9
     have f0:=hx9.hp d0
     have f1:=hx9.hp d1
     have lf0:=hp_lt f0
     have lf1:=hp_lt f1
     have hlm:(mixesK b.bk n i++mixK b.bk n i j++mixC b.bk n i j m).length≤200:=by simp only[List.length_append];omega
     refine go2 (bw7 hl3 hw q6 q8 q10 hv7 hv12) (bw kc fnil) ?_
     refine aP (bw hl3 hv7) (hO9.push) ?_
     intro v' s4 hO4 hF4 hk4
     have y1:=hF4.lo
     have y2:=hF4.up
     have y3:=hF4.len
     simp only[lo_push,len_push] at y1 y2 y3
     have g0:hp s4 st.heap.length=some (.var [iv b.words,b.v]):=hk4 _ _ (sG (bw f0 (n4 lf0))) (by simp)
     have g1:hp s4 (st.heap.length+1)=some (.var [iv 0,iv 0,iv 0,iv 0]):=hk4 _ _ (sG (bw f1 (n4 lf1))) (by simp)
     refine go2 (bw3 hl3 hv12 hw) fnil ?_
     refine⟨by omega,v',(sG hl3),?_,g0,g1,by omega,by omega⟩
     rw[hmo,← List.append_assoc,List.flatMap_append (ys:=[mixOne b.bk n i j m]),List.length_append (bs:=[mixOne b.bk n i j m])]
     have e9:mixOne b.bk n i j m=((i:Int),(j:Int),((m+1:Nat):Int),copiedI (mixW b.bk i j (m+1)) b.cs[n].c):=by rw[mixOne,en]
     rw[e9]
     simpa[share_int,enc4] using hO4
  ·clear hO d0 d1 hlo hwf hv ld0
   rintro tm2 st2 ⟨v,hv,hO,d0,d1,hlo,hwf⟩ hS2
   replace hv:=mv1 hv
   have hl2:tm2.length=92:=by rw[hS2.1];simp only[↓reduceIte,go_sem,hl1]
   refine go2 hl2 fnil ?_
   refine⟨v,(sG (bw hl2 hv)),?_,d0,d1,hlo,hwf⟩
   rw[mixesK_succ,hbl]
   exact hO
 ·rintro tm1 st1 ⟨v,hv,hO,d0,d1,hlo,hwf⟩ hS
  replace hv:=mv1 hv
  have hl1:tm1.length=92:=lN hS hl;have j4:tg tm1 4 = .ptr (st.heap.length+1) 0:=tQ hS hl;clear hS
  have ld1:=hp_lt d1
  have hvs:=sl_slen hO.sl
  have hmb:mixB b.bk n=bestF (fun x y:T4=>decide (x.2.2.2<y.2.2.2)) (mixesK b.bk n b.cs.length):=by rw[← hbl];rfl
  have hll:=mixesK_len b.bk hl4 (by omega) n b.cs.length
  have hVs:SlOf 4 enc4 v (mixesK b.bk n b.cs.length):=SlOf.of_sl hO.sl rfl rfl (fun _=>rfl)
  rcases Nat.eq_zero_or_pos (mixesK b.bk n b.cs.length).length with hz|hz
  ·have hbe:(((mixesK b.bk n b.cs.length).length:Int)==0)=true:=by simp[hz]
   rw[hmb,List.eq_nil_of_length_eq_zero hz]
   refine go2 (bw7 hl1 hv hvs hbe j4 d1 (n4 ld1)) fnil ?_
   exact fY (bw3 hl1 j4 (n4 ld1))
  ·have hbe:(((mixesK b.bk n b.cs.length).length:Int)==0)=false:=by rw[beq_eq_false_iff_ne];omega
   refine go2 (bw4 hl1 hv hvs hbe) fnil ?_
   refine cR (bw hl1 hv) (c111 v (mixesK b.bk n b.cs.length) hVs hz (by omega) _) ?_
   rintro w s3 ⟨o,ho,rfl,rfl⟩
   rw[hmb,ho]
   refine go2 (bw4 hl1 j4 d1 (n4 ld1)) fnil ?_
   exact fY (bw3 hl1 j4 (n4 ld1))
end Go.Den.Ve
end
section
namespace Go.Den.Ve
theorem wops_invoke{E:Env}{Q:Ex→List PV→St→Prop}{tm:List PV}{st:St}{x:Opd}{m:String}{args:List Opd}{dst:Option Nat}{g:Option (Nat×Bool)}{os:List DOper}{b:Bool}{t f:Nat}{v u:PV}{st1:St}(hw:wants tm g=b)(hb:b=true)(hx:x.ev tm = .iface t v)(hm:E.meth t m=some f)(hc:Cl E (.func f [] []) (v::evs tm args) st (.ret u) st1)(h:WOps E os Q (put tm dst u) st1):WOps E (⟨.invoke x m args,dst,g⟩::os) Q tm st:=by
 obtain⟨N,hN⟩:=hc
 refine wops_cons (hw.trans hb) N (fun n hn=>?_) h
 simp only[stepOp,hx,hm,hN n hn]
theorem wops_invokeR{E:Env}{Q:Ex→List PV→St→Prop}{tm:List PV}{st:St}{x:Opd}{m:String}{args:List Opd}{dst:Option Nat}{g:Option (Nat×Bool)}{os:List DOper}{b:Bool}{t f:Nat}{v:PV}{P:PV→St→Prop}(hw:wants tm g=b)(hb:b=true)(hx:x.ev tm = .iface t v)(hm:E.meth t m=some f)(hc:ClR E (.func f [] []) (v::evs tm args) st P)(h:∀ u st1,P u st1→WOps E os Q (put tm dst u) st1):WOps E (⟨.invoke x m args,dst,g⟩::os) Q tm st:=by
 obtain⟨u,st1,h1,h2⟩:=hc
 exact wops_invoke hw hb hx hm h1 (h u st1 h2)
theorem c170(st:St):Cl EE (.func 170 [] []) [] st (.ret (.agg [.str (toB bookW),.str (toB copyW),.str (toB lineW),.str (toB lostW)])) st:=by
 refine cF0 pr170 fn170 (fun tm hl=>?_)
 refine go2 hl fnil ?_
 refine fnq_flat (results_one ?_) (by simp only[lo_push,lo_setVar];omega) (by rfl)
 rw[rdRes_hp (l:=st.heap.length) (off:=0) (sG hl)]
 simp only[↓reduceIte,go_sem,hl]
 rfl
theorem c223(n:Int)(st:St):ClR EE (.func 223 [] []) [iv n] st (RetW st 1 ([n].flatMap encI)):=by
 refine cG1 pr223 fn223 (fun tm hl h0=>?_)
 refine go2 (bw hl h0) fnil ?_
 refine fX (.slice (.tag st.heap.length 1) 1 [iv n]) hl ?_
 exact finish_sl (n:=1) (cs:=[iv n]) rfl (by simp only[lo_push];omega) (fun m=>rfl)
theorem c224(v:PV)(hv:v = .agg [])(st:St):ClR EE (.func 224 [] []) [v] st (RetW st 0 (([]:List Int).flatMap encI)):=by
 subst hv
 refine cG1 pr224 fn224 (fun tm hl h0=>?_)
 refine go2 (bw hl h0) fnil ?_
 refine fX (.nilslice) hl ?_
 exact finish_sl (n:=0) (cs:=[]) rfl (by simp only[lo_push];omega) (fun m=>rfl)
theorem c225(v:PV)(hv:v = .agg [])(st:St):ClR EE (.func 225 [] []) [v] st (RetW st 0 (([]:List Int).flatMap encI)):=by
 subst hv
 refine cG1 pr225 fn225 (fun tm hl h0=>?_)
 refine go2 (bw hl h0) fnil ?_
 refine fX (.nilslice) hl ?_
 exact finish_sl (n:=0) (cs:=[]) rfl (by simp only[lo_push];omega) (fun m=>rfl)
theorem c226(L:PV)(l:List Int)(hL:SlOf 1 encI L l)(st:St):ClR EE (.func 226 [] []) [L] st (RetW st l.length (l.flatMap encI)):=by
 refine cG1 pr226 fn226 (fun tm hl h0=>?_)
 refine go2 (bw hl h0) fnil ?_
 refine fX (L) hl ?_
 exact finish_sl hL.sl (Nat.le_refl _) (fun m=>ints_low l m)
theorem c152(n:Int)(h0:0≤n)(h1:n<100)(st:St):Cl EE (.func 152 [] []) [iv n] st (.ret (.str (toB (itoaL n.toNat)))) st:=by
 refine⟨1,fun k hk=>?_⟩
 obtain⟨m,rfl⟩:∃ m,k=m+1:=⟨k - 1,by omega⟩
 show stepCall EE (run EE m) (.func 152 [] []) [iv n] st=_
 have h2:EE.prim 152 (run EE m) ([]++[iv n]++[]) st=itoaR st [iv n]:=rfl
 simp only[stepCall,enter,h2,itoaR,h0,h1,and_self,if_true]
theorem c153(v:PV)(l:List (List UInt8))(sep:List UInt8)(hv:SlOf 1 encS v l)(hne:l≠[])(hl:l.length≤1000)(hs:sep.length≤1000)(hb:∀ s∈l,s.length≤1000)(st:St):Cl EE (.func 153 [] []) [v,.str (toB sep)] st (.ret (.str (toB (List.intercalate sep l)))) st:=by
 refine⟨1,fun k hk=>?_⟩
 obtain⟨m,rfl⟩:∃ m,k=m+1:=⟨k - 1,by omega⟩
 show stepCall EE (run EE m) (.func 153 [] []) [v,.str (toB sep)] st=_
 have h2:EE.prim 153 (run EE m) ([]++[v,.str (toB sep)]++[]) st=joinR st [v,.str (toB sep)]:=rfl
 have h1:=hv.sl
 have h3:joinR st [v,.str (toB sep)]=some (some (.ret (.str (toB (List.intercalate sep l))),st)):=by
  cases v <;> simp only[PV.sl,Option.some.injEq,Prod.mk.injEq,reduceCtorEq] at h1
  ·obtain⟨rfl,rfl⟩:=h1
   simp only[joinR,strs_enc,size_toB,unB_toB,List.map_map]
   have e1:l.map (unB ∘ toB)=l:=by
    have:(unB ∘ toB)=id:=by funext x;rfl
    rw[this,List.map_id]
   rw[if_pos,e1]
   refine⟨?_,hl,hs,?_⟩
   ·rw[flatMap_len (sz:=1) (fun _ _=>rfl)];omega
   ·rw[List.all_eq_true]
    intro s hs
    simp only[List.mem_map] at hs
    obtain⟨x,hx,rfl⟩:=hs
    exact decide_eq_true (hb x hx)
  ·exact absurd (List.eq_nil_of_length_eq_zero h1.1.symm) hne
 simp only[stepCall,enter,h2,h3]
theorem c155(s:List UInt8)(b:UInt8)(hs:s.length≤100000)(st:St):Cl EE (.func 155 [] []) [.str (toB s),.str (toB [b])] st (.ret (.slice .shared (splitL b [] s).length ((splitL b [] s).flatMap encS))) st:=by
 refine⟨1,fun k hk=>?_⟩
 obtain⟨m,rfl⟩:∃ m,k=m+1:=⟨k - 1,by omega⟩
 show stepCall EE (run EE m) (.func 155 [] []) [.str (toB s),.str (toB [b])] st=_
 have h2:EE.prim 155 (run EE m) ([]++[.str (toB s),.str (toB [b])]++[]) st=splitR st [.str (toB s),.str (toB [b])]:=rfl
 have h3:splitR st [.str (toB s),.str (toB [b])]=some (some (.ret (.slice .shared (splitL b [] s).length ((splitL b [] s).flatMap encS)),st)):=by
  simp only[splitR,unB_toB,size_toB,hs,if_true]
 simp only[stepCall,enter,h2,h3]
def asR (t:Nat) (z v:PV) (st:St):Option OpR:=match v with
 | .iface t' v=>some (.val (if t'=t then .tuple [v,.bool true] else .tuple [z,.bool false]) st)
 | _=>none
theorem op_assertY{E:Env}{rec:Rec}{tm:List PV}{st:St}{t:Nat}{z:PV}{x:Opd}:stepOp E rec tm st (.assertT t z x)=asR t z (x.ev tm) st:=rfl
def kindW (k:Nat):List UInt8:=if k=0 then bookW else if k=1 then copyW else if k=2 then lineW else lostW
abbrev namesPV:PV := .agg [.str (toB bookW),.str (toB copyW),.str (toB lineW),.str (toB lostW)]
theorem names_at(k:Nat)(hk:k<4){x i:Opd}(tm:List PV)(st:St)(hx:x.ev tm=namesPV)(hi:i.ev tm=iv k)(rec:Rec):stepOp EE rec tm st (.indexArr false 4 1 x i)=some (.val (.str (toB (kindW k))) st):=by
 have:k=0∨k=1∨k=2∨k=3:=by omega
 rcases this with rfl|rfl|rfl|rfl
 all_goals simp only[op_indexArr,hx,hi];rfl
set_option maxHeartbeats 4000000 in
theorem c151g(t fn k:Nat)(v:PV)(ns:List Int)(hn:EE.meth t "kelir/version.numbers"=some fn)(hcn:∀ st,ClR EE (.func fn [] []) [v] st (RetW st ns.length (ns.flatMap encI)))
  (hk:(k=0∧t=191)∨(k=1∧t=193)∨(k=2∧t=195)∨(k=3∧t=194)) (hns:∀ n∈ns,0≤n∧n<100) (hl3:ns.length≤1000) (st:St):Cl EE (.func 151 [] []) [.iface t v] st (.ret (.str (toB (rowL (kindW k) ns)))) st:=by
 refine cF1 pr151 fn151 (fun tm hl h0=>?_)
 have hk4:k<4:=by omega
 have hkl:(kindW k).length=4:=by
  have:k=0∨k=1∨k=2∨k=3:=by omega
  rcases this with rfl|rfl|rfl|rfl <;> rfl
 have hix:∀ (tm:List PV) (st:St),tg tm 17=namesPV→tg tm 18=iv k→∀ rec,stepOp EE rec tm st (.indexArr false 4 1 (.t 17) (.t 18))=some (.val (.str (toB (kindW k))) st):=fun tm st h1 h2 rec=>names_at k hk4 tm st (sG h1) (sG h2) rec
 generalize kindW k=W at hix hkl ⊢
 have n1:∀ (z v:PV) (st:St),asR 193 z (.iface t v) st=some (.val (if k=1 then .tuple [v,.bool true] else .tuple [z,.bool false]) st):=fun z v st=>by
  rcases hk with ⟨rfl,rfl⟩|⟨rfl,rfl⟩|⟨rfl,rfl⟩|⟨rfl,rfl⟩ <;> rfl
 have n2:∀ (z v:PV) (st:St),asR 195 z (.iface t v) st=some (.val (if k=2 then .tuple [v,.bool true] else .tuple [z,.bool false]) st):=fun z v st=>by
  rcases hk with ⟨rfl,rfl⟩|⟨rfl,rfl⟩|⟨rfl,rfl⟩|⟨rfl,rfl⟩ <;> rfl
 have n3:∀ (z v:PV) (st:St),asR 194 z (.iface t v) st=some (.val (if k=3 then .tuple [v,.bool true] else .tuple [z,.bool false]) st):=fun z v st=>by
  rcases hk with ⟨rfl,rfl⟩|⟨rfl,rfl⟩|⟨rfl,rfl⟩|⟨rfl,rfl⟩ <;> rfl
 rcases hk with ⟨rfl,rfl⟩|⟨rfl,rfl⟩|⟨rfl,rfl⟩|⟨rfl,rfl⟩
 all_goals
  refine go2 (bw6 hl h0 @op_assertY n1 n2 n3) (bw c170 fnil) ?_
  refine wops_one (v := .str (toB W)) rfl (hix _ _ (sG hl) (sR hl)) ?_
  refine go2 (bw hl h0) fnil ?_
  refine wops_invokeR rfl rfl (sR (bw hl h0)) hn (by simp only[↓reduceIte,go_sem,hl,h0];exact hcn _) ?_
  intro u st1 hR
  have hU:SlOf 1 encI u ns:=hR.own_sl (fun _=>rfl)
  have hUs:=hU.slen
  have r1:=hR.lo
  have r2:=hR.len
  simp only at r1 r2
  refine go2 (bw hl hUs) fnil ?_
  refine wp_range ns.length [4] (fun i vs st'=>vs=[.str (toB (rowL W (ns.take i)))]∧st'=st1) (by omega) (sG hl) (sG hl) (sG hl) (by decide) ⟨(sR hl),rfl⟩ ?_ ?_
  ·rintro i hi tm1 st2 ⟨hv,rfl⟩ hS hia
   replace hv:=mv1 hv
   have hl1:tm1.length=34:=lN hS hl;have i21:tg tm1 21=u:=tQ hS hl;clear hS
   have hr:=hns _ (List.getElem_mem hi)
   have hi2:=itoaL_len ns[i].toNat
   have hrl:=rowL_len W (ns.take i)
   have htl:(ns.take i).length≤1000:=by simp;omega
   have o1:(1+(itoaL ns[i].toNat).length≤1000000)=True:=by simp only[eq_iff_iff,iff_true];omega
   have o2:((rowL W (ns.take i)).length+((itoaL ns[i].toNat).length+1)≤1000000)=True:=by simp only[eq_iff_iff,iff_true];omega
   refine go2 (bw6 hl1 i21 hia hv o1 o2) (bw (c152 _ hr.1 hr.2) fnil) ?_
   rw[rowL_take W hi]
   exact⟨(sG hl1),rfl⟩
  ·rintro tm1 st2 ⟨hv,rfl⟩ hS
   simp only[List.map_cons,List.map_nil,List.cons.injEq,and_true,List.take_length] at hv
   have hl1:tm1.length=34:=by rw[hS.1];simp only[↓reduceIte,go_sem,hl]
   refine go2 (bw hl1 hv) fnil ?_
   exact fnq_flat (results_one (by rw[rdRes_tmp];simp only[↓reduceIte,go_sem,hl1])) (by rw[r1];exact Nat.le_refl _) (by rfl)
theorem c151h(n:Int)(h:0≤n∧n<100)(st:St):Cl EE (.func 151 [] []) [.iface 191 (iv n)] st (.ret (.str (toB (rowL bookW [n])))) st :=
 c151g 191 223 0 (iv n) [n] rfl (fun st=>c223 n st) (.inl ⟨rfl,rfl⟩) (by simpa using h) (by simp) st
theorem c151s(st:St):Cl EE (.func 151 [] []) [.iface 193 (.agg [])] st (.ret (.str (toB copyW))) st :=
 c151g 193 224 1 (.agg []) [] rfl (fun st=>c224 _ rfl st) (.inr (.inl ⟨rfl,rfl⟩)) (by simp) (by simp) st
theorem c151v(L:PV)(l:List Int)(hL:SlOf 1 encI L l)(h:∀ n∈l,0≤n∧n<100)(hl:l.length≤1000)(st:St):Cl EE (.func 151 [] []) [.iface 195 L] st (.ret (.str (toB (rowL lineW l)))) st :=
 c151g 195 226 2 L l rfl (fun st=>c226 L l hL st) (.inr (.inr (.inl ⟨rfl,rfl⟩))) h hl st
theorem c151p(st:St):Cl EE (.func 151 [] []) [.iface 194 (.agg [])] st (.ret (.str (toB lostW))) st :=
 c151g 194 225 3 (.agg []) [] rfl (fun st=>c225 _ rfl st) (.inr (.inr (.inr ⟨rfl,rfl⟩))) (by simp) (by simp) st
end Go.Den.Ve
end

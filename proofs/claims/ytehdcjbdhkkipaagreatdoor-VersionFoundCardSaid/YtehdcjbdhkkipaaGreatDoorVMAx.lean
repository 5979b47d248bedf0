/- Part of the proofs of laws of the package version. Texts: VtD, VtE, VtF. -/
import Derived.Test.YtehdcjbdhkkipaaGreatDoorVMAw
set_option linter.unusedSimpArgs false
set_option linter.unusedVariables false
section
namespace Go.Den
theorem step_setP{E:Env}{rec:Rec}{tm:List PV}{st:St}{a x:Opd}{l off:Nat}{v:PV}{cs:List PV}(ha:a.ev tm = .aptr l off)(hx:x.ev tm=v)(hv:v.cells=[v])(hi:v.isCell=true)(hh:hp st l=some (.arr cs))(ho:off+1≤cs.length):stepOp E rec tm st (.store 1 a x)=some (.val undef (setVar st l (.arr (splice cs off [v])))):=by
 have hh':st.heap[l]? = some (.arr cs):=hh
 simp only[stepOp,ha,hx,hh',hv,List.length_singleton,ho,List.all_cons,List.all_nil,hi,true_and,and_true,Bool.and_self,if_true]
theorem finish_agg1{st st1:St}{a:Int}{v:PV}{n:Nat}{cs:List PV}(hv:v.sl=some (n,cs))(hlo:st.heap.length≤st1.lo)(hc:∀ m,lowL m cs=true):∃ v',(finishCall st st1 (.agg [.int .i64 a,v])).1 = .agg [.int .i64 a,v']∧RetW st n cs v' (finishCall st st1 (.agg [.int .i64 a,v])).2:=by
 obtain⟨v',s,h1,h2,h3⟩:=sl_retag (m:=st.heap.length) (h:=st1.heap) hv hc
 unfold finishCall
 rw[if_pos hlo]
 have:letGo st.heap.length st1.heap (.agg [.int .i64 a,v])=some (.agg [.int .i64 a,v'],s.length):=by
  have hf:=sl_freeze (m:=st.heap.length) (h:=st1.heap) hv
  have ha:∀ k:Int,freeze1 st.heap.length st1.heap (.int .i64 k)=(.int .i64 k,st1.heap):=fun _=>rfl
  have hr:∀ k:Int,retag1 st1.heap st.heap.length [] (.int .i64 k)=some (.int .i64 k,[]):=fun _=>rfl
  simp only[letGo,freezeL,ha,hf,retagL,hr,h1,Option.map_some]
 rw[this]
 refine⟨v',rfl,h2,?_⟩
 match s,h3 with
 | [],_=>left;simp
 | [x],_=>right;rfl
theorem finish_aggH{st st1:St}{a:Int}{t n:Nat}{cs:List PV}(ht:st.heap.length≤t)(h4:hp st1 t=some (.arr cs))(hlo:st.heap.length≤st1.lo)(hi:cs.all PV.isCell=true)(hc:∀ m,lowL m (cs.map PV.share)=true):∃ v',(finishCall st st1 (.agg [.int .i64 a,.hslice t 1 n])).1 = .agg [.int .i64 a,v']∧RetW st n (cs.map PV.share) v' (finishCall st st1 (.agg [.int .i64 a,.hslice t 1 n])).2:=by
 have h5:st1.heap[t]? = some (.arr cs):=h4
 unfold finishCall
 rw[if_pos hlo]
 have:letGo st.heap.length st1.heap (.agg [.int .i64 a,.hslice t 1 n])=some (.agg [.int .i64 a,.slice (.tag st.heap.length 1) n (cs.map PV.share)],1):=by
  have hl:=hp_lt h4
  have:(st1.heap.set t (.tag true))[t]? = some (.tag true):=by simp[hl]
  have hnt:¬ t<st.heap.length:=by omega
  simp only[letGo,freezeL,freeze1,hnt,if_false,h5,hi,if_true,retagL,retag1,hc,PV.low,List.contains_nil,Bool.false_eq_true,this]
  simp
 rw[this]
 exact⟨_,rfl,rfl,.inr rfl⟩
end Go.Den
namespace Go.Den.Ve
abbrev encLN (x:LN):List PV:=[.bool x.lost,elL x.words]
attribute [go_sem] encLN
inductive Reps:List PV→List (List LN)→Prop
 | nil:Reps [] []
 | cons {v:PV} {c:List LN} {vs:List PV} {cs:List (List LN)} (h:v.sl=some (c.length,c.flatMap encLN)) (r:Reps vs cs):Reps (v::vs) (c::cs)
theorem Reps.len{vs:List PV}{cs:List (List LN)}(h:Reps vs cs):vs.length=cs.length:=by
 induction h with
 | nil=>rfl
 | cons _ _ ih=>simp[ih]
theorem Reps.snoc{vs:List PV}{cs:List (List LN)}(h:Reps vs cs){v:PV}{c:List LN}(hv:v.sl=some (c.length,c.flatMap encLN)):Reps (vs++[v]) (cs++[c]):=by
 induction h with
 | nil=>exact .cons hv .nil
 | cons h1 _ ih=>exact .cons h1 ih
def LN.lp (x:LN):LP:=⟨x.lost,elL x.words,x.words,el_sl _⟩
theorem lp_flat(c:List LN):(c.map LN.lp).flatMap encLP=c.flatMap encLN:=by
 induction c with
 | nil=>rfl
 | cons x c ih=>rw[List.map_cons,List.flatMap_cons,ih];rfl
theorem lp_c(c:List LN):(c.map LN.lp).map LP.ln=c:=by
 rw[List.map_map]
 conv=>rhs;rw[← List.map_id c]
 rfl
theorem Reps.cps{vs:List PV}{cs:List (List LN)}(h:Reps vs cs):∃ ps:List CP,ps.map CP.v=vs∧ps.map CP.c=cs:=by
 induction h with
 | nil=>exact⟨[],rfl,rfl⟩
 | cons h1 _ ih =>
  rename_i v c vs cs _r
  obtain⟨ps,e1,e2⟩:=ih
  refine⟨⟨v,c.map LN.lp,SlOf.of_sl h1 (by simp) (lp_flat c).symm (fun _=>rfl)⟩::ps,by rw[List.map_cons,e1],?_⟩
  rw[List.map_cons,e2]
  show (c.map LN.lp).map LP.ln::cs=_
  rw[lp_c]
theorem Reps.cell{vs:List PV}{cs:List (List LN)}(h:Reps vs cs):vs.all PV.isCell=true:=by
 induction h with
 | nil=>rfl
 | cons h1 _ ih=>rw[List.all_cons,ih,Bool.and_true];exact sl_isCell h1
theorem Reps.shares{vs:List PV}{cs:List (List LN)}(h:Reps vs cs):Reps (vs.map PV.share) cs:=by
 induction h with
 | nil=>exact .nil
 | cons h1 _ ih =>
  rename_i v c vs cs _r
  refine .cons ?_ ih
  cases v <;> simp only[PV.sl,Option.some.injEq,Prod.mk.injEq,reduceCtorEq] at h1
  ·exact congrArg some (Prod.ext h1.1 h1.2)
  ·exact congrArg some (Prod.ext h1.1 h1.2)
theorem encLN_low{c:List LN}{m:Nat}{x:PV}(h:x∈c.flatMap encLN):x.low m=true:=by
 obtain⟨y,_,h⟩:=List.mem_flatMap.1 h
 simp only[encLN,List.mem_cons,List.not_mem_nil,or_false] at h
 rcases h with rfl|rfl
 ·rfl
 ·exact el_low _ _
theorem Reps.low{vs:List PV}{cs:List (List LN)}(h:Reps vs cs)(m:Nat):lowL m (vs.map PV.share)=true:=by
 induction h with
 | nil=>rfl
 | cons h1 _ ih =>
  rename_i v c vs cs _r
  refine lowL_of fun x hx=>?_
  rcases List.mem_cons.1 (by simpa using hx:x∈v.share::vs.map PV.share) with rfl|hx
  ·cases v <;> simp only[PV.sl,Option.some.injEq,Prod.mk.injEq,reduceCtorEq] at h1
   ·simp only[PV.share,PV.low,h1.2]
    exact lowL_of fun y hy=>encLN_low hy
   ·rfl
  ·have:∀ (l:List PV),lowL m l=true→∀ x∈l,x.low m=true:=fun l=>by
    induction l with
    | nil=>intro _ x hx;cases hx
    | cons a l ih2 =>
     intro hl x hx
     simp only[lowL,Bool.and_eq_true] at hl
     rcases List.mem_cons.1 hx with rfl|hx
     ·exact hl.1
     ·exact ih2 hl.2 x hx
   exact this _ ih x hx
def RepC (m p5:Nat) (n:Int) (cs:List (List LN)) (S:St):Prop :=
 (cs=[]∧hp S p5=some (.var [iv n,.nilslice])) ∨
 ∃ pre c vp v t,cs=pre++[c]∧hp S p5=some (.var [iv n,.hslice t 1 cs.length])∧m≤t∧hp S t=some (.arr (vp++[v]))∧Reps vp pre∧OwnS m S 2 v c.length (c.flatMap encLN)
theorem foldV_snoc:∀ (rs:List (List UInt8)) (cs:List (List LN)) (r:List UInt8),foldV cs (rs++[r])=(foldV cs rs).bind fun cs=>stepV cs r
 | [],cs,r=>by
  rw[List.nil_append,foldV,foldV]
  cases h:stepV cs r <;> simp[foldV,h]
 | x::rs,cs,r=>by
  rw[List.cons_append,foldV,foldV]
  cases h:stepV cs x with
  | none=>rfl
  | some cs'=>exact foldV_snoc rs cs' r
theorem foldV_none:∀ (rs qs:List (List UInt8)) (cs:List (List LN)),foldV cs rs=none→foldV cs (rs++qs)=none
 | [],qs,cs,h=>by rw[foldV] at h;cases h
 | x::rs,qs,cs,h=>by
  rw[List.cons_append,foldV]
  rw[foldV] at h
  cases hs:stepV cs x with
  | none=>rfl
  | some cs'=>rw[hs] at h;exact foldV_none rs qs cs' h
theorem foldV_bad{T:List (List UInt8)}{i:Nat}(hi:i<T.length){cs:List (List LN)}(h:foldV [] (T.take i)=some cs)(hs:stepV cs T[i]=none):foldV [] T=none:=by
 have h1:foldV [] (T.take (i+1))=none:=by
  rw[List.take_succ_eq_append_getElem hi,foldV_snoc,h]
  exact hs
 have h2:=foldV_none (T.take (i+1)) (T.drop (i+1)) [] h1
 rwa [List.take_append_drop] at h2
theorem foldV_next{T:List (List UInt8)}{i:Nat}(hi:i<T.length){cs:List (List LN)}(h:foldV [] (T.take i)=some cs):foldV [] (T.take (i+1))=stepV cs T[i]:=by
 rw[List.take_succ_eq_append_getElem hi,foldV_snoc,h]
 rfl
theorem told_few{row w:List UInt8}{ns:List Int}(h:toldV row w=some ns)(hl:row.length≤400):ns.length≤201:=by
 unfold toldV at h
 split at h
 ·have h1:=numsL_ok h
  have h2:=splitL_sum 32 row []
  have h3:∀ x∈(splitL 32 [] row).tail,numB x=true:=by
   intro x hx
   obtain⟨j,hj,rfl⟩:=List.getElem_of_mem hx
   cases hb:numB (splitL 32 [] row).tail[j] with
   | true=>rfl
   | false=>rw[numsL_bad _ hj hb] at h;cases h
  have h4:=sum_ge (k:=1) (splitL 32 [] row).tail _ (Nat.le_refl _) (fun i hi _=>by
   have:=h3 _ (List.getElem_mem hi)
   generalize (splitL 32 [] row).tail[i]=x at this
   cases x with
   | nil=>simp[numB] at this
   | cons a x=>simp)
  have h5:((splitL 32 [] row).tail.map fun r=>r.length+1).sum≤((splitL 32 [] row).map fun r=>r.length+1).sum:=by
   cases splitL 32 [] row with
   | nil=>simp
   | cons a l=>simp
  simp only[List.length_nil] at h2
  omega
 ·cases h
def cntR (cs:List (List LN)):Nat:=(cs.flatMap copyRows).length
theorem cntR_new(cs:List (List LN)):cntR (cs++[[]])=cntR cs+1:=by simp[cntR,copyRows]
theorem cntR_add(pre:List (List LN))(c:List LN)(x:LN):cntR (pre++[c++[x]])=cntR (pre++[c])+1:=by simp[cntR,copyRows];omega
theorem cntR_len(cs:List (List LN)):cs.length≤cntR cs:=by
 unfold cntR
 induction cs with
 | nil=>simp
 | cons c cs ih=>simp only[List.flatMap_cons,List.length_append,List.length_cons,copyRows] at ih ⊢;omega
theorem cntR_last(pre:List (List LN))(c:List LN):c.length≤cntR (pre++[c]):=by simp[cntR,copyRows];omega
def FewW (cs:List (List LN)):Prop:=∀ c∈cs,∀ x∈c,x.words.length≤201
theorem FewW.new{cs:List (List LN)}(h:FewW cs):FewW (cs++[[]]):=fun c hc x hx=>by
 rcases List.mem_append.1 hc with hc|hc
 ·exact h c hc x hx
 ·rw[List.mem_singleton.1 hc] at hx;cases hx
theorem FewW.add{pre:List (List LN)}{c:List LN}(h:FewW (pre++[c])){y:LN}(hy:y.words.length≤201):FewW (pre++[c++[y]]):=fun d hd x hx=>by
 rcases List.mem_append.1 hd with hd|hd
 ·exact h d (by simp[hd]) x hx
 ·rw[List.mem_singleton.1 hd] at hx
  rcases List.mem_append.1 hx with hx|hx
  ·exact h c (by simp) x hx
  ·rw[List.mem_singleton.1 hx];exact hy
theorem OkP.parsed{b:BP}{n:Int}{cs:List (List LN)}(hb:b.bk=⟨n,cs⟩)(hn:0≤n∧n<100)(h:∀ c∈cs,∀ x∈c,OkLn x)(hf:FewW cs)(hc:cntR cs≤400):OkP b:=by
 have hw:b.words=n:=congrArg BK.words hb
 have hcs:b.cs.map CP.c=cs:=congrArg BK.copies hb
 refine⟨by rw[hw];exact hn,fun c hc x hx hl k hk=>?_,?_,fun r hr=>?_⟩
 ·exact (h c.c (by rw[← hcs];exact List.mem_map.2 ⟨c,hc,rfl⟩) x.ln (List.mem_map.2 ⟨x,hx,rfl⟩)).n k hk
 ·rw[hb];simp only[rowsV,List.length_cons];have:(cs.flatMap copyRows).length=cntR cs:=rfl;omega
 ·rw[hb,rowsV] at hr
  rcases List.mem_cons.1 hr with rfl|hr
  ·have:=rowL_len bookW [n];simp[bookW] at this ⊢;omega
  ·obtain⟨c,hc,hr⟩:=List.mem_flatMap.1 hr
   rcases List.mem_cons.1 hr with rfl|hr
   ·simp[copyW]
   ·obtain⟨x,hx,rfl⟩:=List.mem_map.1 hr
    unfold lnRow
    split
    ·simp[lostW]
    ·have h1:=rowL_len lineW x.words
     have h2:=hf c hc x hx
     simp[lineW] at h1 ⊢
     omega
def ParP (o:Option BK) (st:St) (r:CR) (st':St):Prop:=HExt st.heap st'.heap∧st'.lo=st.lo∧match r with
 | .ret v=>∃ b:BP,o=some b.bk∧v=b.pv∧OkP b
 | .panic v=>o=none∧∃ x,v=noneX x
theorem par_panic{st:St}{o:Option BK}{tm:List PV}{S:St}{s:ByteArray}(hwf:st.lo≤st.heap.length)(hx:HExt st.heap S.heap)(hlo:st.heap.length≤S.lo)(hn:o=none):FnA [.cell 2 true 2] st (ParP o st) (.panic (noneX s)) tm S :=
 fna_panic ⟨hx,by show min st.lo S.lo=st.lo;omega,hn,⟨s,rfl⟩⟩
theorem told_ret{ns:Option (List Int)}{st st':St}{v:PV}(h:ToldP ns st (.ret v) st'):∃ l,ns=some l∧RetS st 1 l.length (l.flatMap encI) v st'∧(l=[]→v = .nilslice):=h
theorem told_no{ns:Option (List Int)}{st st':St}{v:PV}(h:ToldP ns st (.panic v) st'):ns=none∧(∃ s,v=noneX s)∧HExt st.heap st'.heap∧st'.lo=st.lo:=h
theorem rowsPV_short{rows:List (List UInt8)}(h:¬ 3≤rows.length):rowsPV rows=none:=by unfold rowsPV;rw[if_neg h]
theorem rowsPV_no{rows:List (List UInt8)}(h:3≤rows.length)(h0:0<rows.length)(ht:∀ n,toldV rows[0] bookW≠some [n]):rowsPV rows=none:=by
 unfold rowsPV
 rw[if_pos h,← head_get h0]
 cases e:toldV rows[0] bookW with
 | none=>rfl
 | some l=>match l,e with
  | [],_=>rfl
  | [n],e=>exact absurd e (ht n)
  | _::_::_,_=>rfl
theorem rowsPV_yes{rows:List (List UInt8)}(h:3≤rows.length)(h0:0<rows.length){n:Int}(ht:toldV rows[0] bookW=some [n]):rowsPV rows=(foldV [] ((rows.drop 1).take (rows.length - 2 - 1))).map fun cs=>⟨n,cs⟩:=by
 unfold rowsPV
 rw[if_pos h,← head_get h0,ht]
 rfl
end Go.Den.Ve
end
section
namespace Go.Den
theorem wopsD_ldA{E:Env}{QD:Ex→List PV→St→List Foot→Prop}{tm:List PV}{st:St}{dst:Option Nat}{g:Option (Nat×Bool)}{os:List DOper}{b:Bool}{v:PV}{agg:Bool}{sz:Nat}{a:Opd}{l off:Nat}{cs:List PV}(hlo:st.lo≤st.heap.length)(hw:wants tm g=b)(hb:b=true)(ha:a.ev tm = .aptr l off)(hh:hp st l=some (.arr cs))(ht:off≤cs.length)(hv:rdPart agg sz (cs.drop off)=some v)
  (h:WOpsD E os (fun e tm' st' fs=>QD e tm' st' (.ld l::fs)) (put tm dst v) st):WOpsD E (⟨.load agg sz a,dst,g⟩::os) QD tm st :=
 wopsD_pure' (v:=v) hlo hw hb (fun rec st1 _ h1=>by
  have h2:st1.heap[l]? = some (.arr cs):=(h1 l).trans hh
  simp only[stepOp,ha,h2,ht,if_true,hv,Option.map_some]) (by simp only[footOf,ha];exact h)
theorem wopsD_setA{E:Env}{QD:Ex→List PV→St→List Foot→Prop}{tm:List PV}{st:St}{dst:Option Nat}{g:Option (Nat×Bool)}{os:List DOper}{b:Bool}{v:PV}{a x:Opd}{l off:Nat}{cs:List PV}(hlo:st.lo≤st.heap.length)(hw:wants tm g=b)(hb:b=true)(ha:a.ev tm = .aptr l off)(hx:x.ev tm=v)(hv:v.cells=[v])(hi:v.isCell=true)(hh:hp st l=some (.arr cs))(ho:off+1≤cs.length)
  (h:WOpsD E os (fun e tm' st' fs=>QD e tm' st' (.st l::fs)) (put tm dst undef) (setVar st l (.arr (splice cs off [v])))):WOpsD E (⟨.store 1 a x,dst,g⟩::os) QD tm st :=
 wopsD_set (v:=undef) (l:=l) (ob := .arr (splice cs off [v])) hlo (Nat.le_of_lt (hp_lt hh)) hw hb (fun rec st1 _ h1=>step_setP ha hx hv hi ((h1 l).trans hh) ho) (by simp only[footOf,ha];exact h)
theorem splice_last{vp:List PV}{v w:PV}:splice (vp++[v]) (vp.length*1) [w]=vp++[w]:=by
 simp[splice]
end Go.Den
namespace Go.Den.Ve
theorem told_share{ns:List Int}{st st':St}{v:PV}(h:RetS st 1 ns.length (ns.flatMap encI) v st')(hz:ns=[]→v = .nilslice):v.share=elL ns:=by
 cases ns with
 | nil=>rw[hz rfl];rfl
 | cons x l=>obtain⟨_,⟨h,_,_⟩|⟨rfl,_⟩⟩:=h <;> first|rfl|cases h
theorem cp_flat:∀ qs:List CP,qs.flatMap encCP=qs.map CP.v
 | []=>rfl
 | q::qs=>by rw[List.flatMap_cons,cp_flat qs];rfl
set_option maxHeartbeats 16000000 in
theorem c124(s:List UInt8)(hs:s.length≤400)(st:St)(hwf0:st.lo≤st.heap.length):ClA EE (.func 124 [] []) [.str (toB s)] st (ParP (parsedV s) st):=by
 have hV:=splitSl 10 s
 have hVl:=splitL_len 10 [] s
 have hpm:=splitL_mem 10 400 [] s (by simpa using hs)
 have hpar:parsedV s=(rowsPV (splitL 10 [] s)).bind fun c=>if textV c==s then some c else none:=rfl
 refine cA1 pr124 fn124 (fun tm hl h0=>?_)
 have hsp:=fun st=>c155 s 10 (by omega) st
 generalize hps:splitL 10 [] s=ps at hV hsp hVl hpm hpar
 generalize hVd:PV.slice Own.shared ps.length (ps.flatMap encS)=V at hV hsp
 have hVs:=hV.slen
 have hVc:=hV.cells
 by_cases h3:3≤ps.length
 case neg =>
  have d3:decide ((ps.length:Int)≥3)=false:=by simp;omega
  rw[rowsPV_short h3] at hpar
  refine go2 (bw4 hl h0 hVs d3) (bw hsp fnil) ?_
  refine wops_callA rfl rfl (sR hl) (by simp only[↓reduceIte,go_sem,hl,h0];exact c156 false (toB s) _ (by simp only[lo_push,len_push];omega)) ?_ ?_
  ·rintro v st1 ⟨_,⟨h,_⟩|⟨_,h⟩⟩
   ·cases h
   ·cases h
  ·rintro v st1 ⟨rfl,⟨h,_⟩|⟨_,h⟩⟩
   ·cases h
   ·cases h
    refine go2 fnil fnil ?_
    exact par_panic hwf0 (HExt.push _ _) (by simp only[lo_push];omega) hpar
 case pos =>
 have d3:decide ((ps.length:Int)≥3)=true:=by simp;omega
 have hp0:0<ps.length:=by omega
 refine go2 (bw4 hl h0 hVs d3) (bw3 hsp c156_ok fnil) ?_
 have hr0:=hpm _ (List.getElem_mem hp0)
 refine wops_callA rfl rfl (sR hl) (by simp only[↓reduceIte,go_sem,hl];exact c157 ps[0] 0 (by omega) (by omega) _ (by simp only[lo_push,len_push];omega)) ?_ ?_
 rotate_left
 ·intro v st1 hT
  obtain⟨hn,⟨x,rfl⟩,hx,hlo⟩:=told_no hT
  have hn':toldV ps[0] bookW=none:=hn
  rw[rowsPV_no h3 hp0 (fun n h=>by rw[hn'] at h;cases h)] at hpar
  refine go2 fnil fnil ?_
  exact par_panic hwf0 ((HExt.push _ _).trans hx) (by rw[hlo];simp only[lo_push];omega) hpar
 intro v4 st1 hT
 obtain⟨ns,hn,hR,_⟩:=told_ret hT
 have hn':toldV ps[0] bookW=some ns:=hn
 have hnb:=toldV_ok hn'
 have hV4:SlOf 1 encI v4 ns:=SlOf.of_sl hR.sl rfl rfl (fun _=>rfl)
 have hV4s:=hV4.slen
 have r1:=hR.lo
 have r2:=hR.len
 have b2:hp st1 st.heap.length=some (.var [iv 0,.nilslice]):=hR.hp (sG fnil)
 simp only[lo_push,len_push] at r1 r2
 have hx1:HExt st.heap st1.heap:=(HExt.push (⟨st.heap,st.heap.length⟩:St) _).trans hR.w.hext
 by_cases hn1:ns.length=1
 case neg =>
  have d1:((ns.length:Int)==1)=false:=by rw[beq_eq_false_iff_ne];omega
  rw[rowsPV_no h3 hp0 (fun n h=>by rw[hn'] at h;cases h;simp at hn1)] at hpar
  refine go2 (bw4 hl hV4s d1 h0) fnil ?_
  refine wops_callA rfl rfl (sR hl) (by simp only[↓reduceIte,go_sem,hl,h0];exact c156 false (toB s) _ (by omega)) ?_ ?_
  ·rintro v st1 ⟨_,⟨h,_⟩|⟨_,h⟩⟩
   ·cases h
   ·cases h
  ·rintro v st1 ⟨rfl,⟨h,_⟩|⟨_,h⟩⟩
   ·cases h
   ·cases h
    refine go2 fnil fnil ?_
    exact par_panic hwf0 hx1 (by omega) hpar
 case pos =>
 obtain⟨n,rfl⟩:∃ n,ns=[n]:=by
  match ns,hn1 with
  | [n],_=>exact⟨n,rfl⟩
 rw[rowsPV_yes h3 hp0 hn'] at hpar
 have hnn:=hnb n (by simp)
 have d1:((([n]:List Int).length:Int)==1)=true:=rfl
 have hq0:0<([n]:List Int).length:=by simp
 have w30:IntKind.wrap .i64 ((ps.length:Int) - 2)=((ps.length - 2:Nat):Int):=by
  have:((ps.length:Int) - 2)=((ps.length - 2:Nat):Int):=by omega
  rw[this];exact wrap_nat (by omega)
 refine go2 (bw6 hl hV4s d1 h0 hVs w30) (bw c156_ok fnil) ?_
 refine wops_slice rfl rfl (sR hl) hV (m:=ps.length - 2) (n:=1) (by simp only[↓reduceIte,go_sem,hl,bound,Int.toNat_natCast,w30];first|done|simp) (by rfl) (by omega) (by omega) ?_
 intro V2 hV2
 generalize hTd:(ps.drop 1).take (ps.length - 2 - 1)=T at hV2 hpar
 have hTl:T.length=ps.length - 2 - 1:=by rw[← hTd,List.length_take,List.length_drop];omega
 have hTm:∀ p∈T,p.length≤400:=fun p hp=>hpm p (by rw[← hTd] at hp;exact List.mem_of_mem_drop (List.mem_of_mem_take hp))
 have hV2s:=hV2.slen
 have hV2c:=hV2.cells
 refine go2 (bw hl hV2s) fnil ?_
 refine wp_range T.length [] (fun j vs S=>∃ cs,foldV [] (T.take j)=some cs∧RepC (st1.heap.length+1) st1.heap.length n cs S∧cntR cs=j∧FewW cs∧hp S st.heap.length=some (.var [iv 0,.nilslice])∧st1.heap.length+1≤S.heap.length∧HExt st.heap S.heap∧st.heap.length≤S.lo∧S.lo≤S.heap.length) (by omega) (sG hl) (sG hl) (sG hl) (by decide) ⟨[],rfl,.inl ⟨rfl,(sR fnil)⟩,rfl,fun c hc=>(by cases hc),by rw[hp_setVar,if_neg (by omega),hp_push,if_neg (by omega)];exact b2,by simp only[len_setVar,len_push];omega,(hx1.trans (HExt.push _ _)).setVar (by omega),by simp only[lo_push,lo_setVar];omega,by simp only[lo_push,lo_setVar,len_setVar,len_push];omega⟩ ?_ ?_
 ·rintro j hj tm1 S ⟨cs,hfs,hRC,hcnt,hfew,hL,hge,hx,hlo,hwf⟩ hS hja
  have hl1:tm1.length=92:=lN hS hl;have i34:tg tm1 34=V2:=tQ hS (bw hl hV2c);have i5:tg tm1 5 = .ptr st1.heap.length 0:=tQ hS (bw hl hV2c);clear hS
  have hxl:=hTm _ (List.getElem_mem hj)
  have hnx:=foldV_next hj hfs
  have mL:=hp_lt hL
  have hcl:=cntR_len cs
  cases hcp:(T[j]==copyW)
  rotate_left
  ·have hst:stepV cs T[j]=some (cs++[[]]):=by unfold stepV;rw[if_pos (eq_of_beq hcp)]
   rw[hst] at hnx
   have hcn:=cntR_new cs
   rcases hRC with ⟨rfl,hC⟩|⟨pre,c,vp,v,t,rfl,hC,hmt,hA,hRp,hOw⟩
   ·have mC:=hp_lt hC
    refine go2 (bw6 hl1 i34 i5 hja hcp hC) (bw c151s fnil) ?_
    refine wops_appendH (m:=st1.heap.length+1) (n:=0) rfl rfl (sR hl1) (sR hl1) (⟨rfl,.inl ⟨rfl,rfl⟩⟩:OwnH (st1.heap.length+1) _ 1 .nilslice 0 []) rfl (by simp only[len_push];omega) (by decide) (by rfl) (by rfl) (by simp only[maxList];omega) ?_
    intro S2 hA2 hln hF2 hk2
    have e0:=hk2 _ _ (by rw[hp_push,if_neg (by omega)];exact hC:hp (S.push (.tag true)) st1.heap.length=some (.var [iv n,.nilslice])) rfl
    have eL:=hk2 _ _ (by rw[hp_push,if_neg (by omega)];exact hL:hp (S.push (.tag true)) st.heap.length=some (.var [iv 0,.nilslice])) rfl
    have y1:=hF2.lo
    have y2:=hF2.up
    simp only[lo_push,len_push] at y1 y2 hln hA2
    have le0:=hp_lt e0
    refine go2 (bw4 hl1 i5 e0 (n4 le0)) fnil ?_
    refine⟨_,hnx,.inr ⟨[],[],[],.nilslice,S.heap.length+1,rfl,?_,by omega,?_,.nil,.nil⟩,by omega,hfew.new,by rw[hp_setVar,if_neg (by omega)];exact eL,by rw[len_setVar];omega,?_,by rw[lo_setVar];omega,by rw[lo_setVar,len_setVar];omega⟩
    ·simp only[↓reduceIte,go_sem,n4 le0]
    ·rw[hp_setVar,if_neg (by omega)];exact hA2
    ·exact ((hx.trans (HExt.push S _)).fr (hF2.mono (by omega))).setVar (by omega)
   ·have mC:=hp_lt hC
    have mA:=hp_lt hA
    refine go2 (bw6 hl1 i34 i5 hja hcp hC) (bw c151s fnil) ?_
    refine wops_appendH (m:=st1.heap.length+1) (n:=(pre++[c]).length) rfl rfl (sR hl1) (sR hl1) (⟨by simp[hRp.len],.inr ⟨t,rfl,hmt,by rw[hp_push,if_neg (by omega)];exact hA⟩⟩:OwnH (st1.heap.length+1) _ 1 (.hslice t 1 (pre++[c]).length) (pre++[c]).length (vp++[v])) rfl (by simp only[len_push];omega) (by decide) (by rfl) (by rfl) (by simp only[maxList];omega) ?_
    intro S2 hA2 hln hF2 hk2
    have e0:=hk2 _ _ (by rw[hp_push,if_neg (by omega)];exact hC:hp (S.push (.tag true)) st1.heap.length=some (.var [iv n,.hslice t 1 (pre++[c]).length])) rfl
    have eL:=hk2 _ _ (by rw[hp_push,if_neg (by omega)];exact hL:hp (S.push (.tag true)) st.heap.length=some (.var [iv 0,.nilslice])) rfl
    have y1:=hF2.lo
    have y2:=hF2.up
    simp only[lo_push,len_push] at y1 y2 hln hA2
    have le0:=hp_lt e0
    refine go2 (bw4 hl1 i5 e0 (n4 le0)) fnil ?_
    refine⟨_,hnx,.inr ⟨pre++[c],[],vp++[v],.nilslice,S.heap.length+1,rfl,?_,by omega,?_,hRp.snoc hOw.sl,.nil⟩,by omega,hfew.new,by rw[hp_setVar,if_neg (by omega)];exact eL,by rw[len_setVar];omega,?_,by rw[lo_setVar];omega,by rw[lo_setVar,len_setVar];omega⟩
    ·simp only[↓reduceIte,go_sem,n4 le0];first|done|rfl|simp
    ·rw[hp_setVar,if_neg (by omega)];exact hA2
    ·exact ((hx.trans (HExt.push S _)).fr (hF2.mono (by omega))).setVar (by omega)
  ·have hncp:¬ T[j]=copyW:=by intro h;rw[h] at hcp;simp at hcp
   rcases hRC with ⟨rfl,hC⟩|⟨pre,c,vp,v,t,rfl,hC,hmt,hA,hRp,hOw⟩
   ·have mC:=hp_lt hC
    have hst:stepV [] T[j]=none:=by unfold stepV;rw[if_neg hncp,if_pos rfl]
    rw[foldV_bad hj hfs hst] at hpar
    refine go2 (bw6 hl1 i34 i5 hja hcp hC) (bw c151s fnil) ?_
    refine wops_callA rfl rfl (sR hl1) (by simp only[↓reduceIte,go_sem,hl1];exact c156 false (toB T[j]) _ hwf) ?_ ?_
    ·rintro v st1 ⟨_,⟨h,_⟩|⟨_,h⟩⟩
     ·cases h
     ·cases h
    ·rintro v st1 ⟨rfl,⟨h,_⟩|⟨_,h⟩⟩
     ·cases h
     ·cases h
      refine go2 fnil fnil ?_
      exact par_panic hwf0 hx hlo hpar
   ·have mC:=hp_lt hC
    have mA:=hp_lt hA
    have hgt:decide ((((pre++[c]).length:Nat):Int)>0)=true:=by simp
    have hlast:IntKind.wrap .i64 ((((pre++[c]).length:Nat):Int) - 1)=((pre.length:Nat):Int):=by rw[wrap_in (by unfold inI;omega)];simp
    have hI:∀ st,idxR 1 (.hslice t 1 (pre++[c]).length) (.int .i64 ((pre.length:Nat):Int)) st=some (.val (.aptr t (pre.length*1)) st):=fun st=>by rw[idxR_h,if_pos (by simp)]
    have hll:=cntR_last pre c
    have hcz:¬ (pre++[c])=[]:=by simp
    cases hlt:(T[j]==lostW)
    rotate_left
    ·have hst:stepV (pre++[c]) T[j]=some (pre++[c++[⟨true,[]⟩]]):=by unfold stepV;rw[if_neg hncp,if_neg hcz,if_pos (eq_of_beq hlt),addLn_snoc]
     rw[hst] at hnx
     refine go2 (bw12 hl1 i34 i5 hja hcp hC hgt hlt hlast @op_indexAddrM hI (n4 mC)) (bw4 c151s c156_ok c151p fnil) ?_
     have hO4:OwnS (st1.heap.length+1) (setVar (S.push (.var [.bool false,.nilslice])) S.heap.length (.var [.bool true,.nilslice])) 2 v c.length (c.flatMap encLN):=own_new hOw
     have hA4:hp (setVar (S.push (.var [.bool false,.nilslice])) S.heap.length (.var [.bool true,.nilslice])) t=some (.arr (vp++[v])):=by simp only[↓reduceIte,go_sem,hA,n4 mA]
     have hC4:hp (setVar (S.push (.var [.bool false,.nilslice])) S.heap.length (.var [.bool true,.nilslice])) st1.heap.length=some (.var [iv n,.hslice t 1 (pre++[c]).length]):=by simp only[↓reduceIte,go_sem,hC,n4 mC]
     have hL4:hp (setVar (S.push (.var [.bool false,.nilslice])) S.heap.length (.var [.bool true,.nilslice])) st.heap.length=some (.var [iv 0,.nilslice]):=by simp only[↓reduceIte,go_sem,hL,n4 mL]
     refine wopsD_ldA (v:=v) (cs:=vp++[v]) (off:=pre.length*1) (by simp only[lo_push,len_push,lo_setVar,len_setVar];omega) rfl rfl (sR hl1) hA4 (by simp[hRp.len]) (by rw[Nat.mul_one,← hRp.len,List.drop_left];rfl) ?_
     refine go2 hl1 fnil ?_
     refine wopsD_append' (m:=st1.heap.length+1) (by simp only[lo_push,len_push,lo_setVar,len_setVar];omega) rfl rfl (sR hl1) (sR hl1) hO4.push rfl (by simp only[lo_push,len_push,lo_setVar,len_setVar];omega) (by rfl) (by rfl) (by simp only[maxList];omega) ?_
     intro v' S5 ft hft hO5 hF5 hk5
     have y1:=hF5.lo
     have y2:=hF5.up
     have y3:=hF5.len
     simp only[lo_push,len_push,lo_setVar,len_setVar] at y1 y2 y3
     have hA5:=hk5 t _ (by rw[hp_push,if_neg (by have:=hp_lt hA4;omega)];exact hA4) (by simp)
     have hC5:=hk5 st1.heap.length _ (by rw[hp_push,if_neg (by have:=hp_lt hC4;omega)];exact hC4) (by simp)
     have hL5:=hk5 st.heap.length _ (by rw[hp_push,if_neg (by have:=hp_lt hL4;omega)];exact hL4) (by simp)
     have v1:=sl_cells hO5.sl
     have v2:=sl_isCell hO5.sl
     have mA5:=hp_lt hA5
     refine go2 (bw3 hl1 @op_indexAddrM hI) fnil ?_
     refine wopsD_setA (v:=v') (cs:=vp++[v]) (off:=pre.length*1) (by omega) rfl rfl (sR hl1) (sR hl1) v1 v2 hA5 (by simp[hRp.len]) ?_
     apply wopsD_nil
     refine⟨?_,?_⟩
     ·simp only[footOk,List.all_cons,List.all_nil,List.getElem?_cons_zero,List.getElem?_cons_succ,clash_q,hft _ (Nat.lt_succ_self _),Bool.not_false,Bool.and_self]
     ·refine go2 hl1 fnil ?_
      have hsp9:splice (vp++[v]) (pre.length*1) [v']=vp++[v']:=by rw[← hRp.len];exact splice_last
      rw[hsp9]
      refine⟨_,hnx,.inr ⟨pre,c++[⟨true,[]⟩],vp,v',t,rfl,?_,hmt,by rw[hp_setVar,if_pos rfl,if_pos mA5],hRp,?_⟩,?_,hfew.add (by simp),by rw[hp_setVar,if_neg (by omega)];exact hL5,by rw[len_setVar];omega,?_,by rw[lo_setVar];omega,by rw[lo_setVar,len_setVar];omega⟩
      ·rw[hp_setVar,if_neg (by omega),hC5];simp
      ·have hO6:=hO5.setVar (l:=t) (o := .arr (vp++[v'])) (by rw[hA5];simp)
       rw[List.length_append,List.flatMap_append,List.flatMap_singleton]
       have e9:encLN ⟨true,[]⟩=[.bool true,.nilslice]:=rfl
       rw[e9]
       simpa[share_bool,PV.share] using hO6
      ·rw[cntR_add];omega
      ·exact (((hx.trans (HExt.push S _)).setVar (by omega):HExt st.heap (setVar (S.push (.var [.bool false,.nilslice])) S.heap.length (.var [.bool true,.nilslice])).heap).trans (HExt.push _ _) |>.fr (hF5.mono (by omega))).setVar (by omega)
    ·have hnl:¬ T[j]=lostW:=by intro h;rw[h] at hlt;simp at hlt
     have hstp:stepV (pre++[c]) T[j]=(toldV T[j] lineW).map fun ns=>addLn (pre++[c]) ⟨false,ns⟩:=by unfold stepV;rw[if_neg hncp,if_neg hcz,if_neg hnl]
     refine go2 (bw12 hl1 i34 i5 hja hcp hC hgt hlt hlast @op_indexAddrM hI (n4 mC)) (bw4 c151s c156_ok c151p fnil) ?_
     refine wops_callA rfl rfl (sR hl1) (by simp only[↓reduceIte,go_sem,hl1];exact c157 T[j] 2 (by omega) (by omega) _ (by simp only[lo_push,len_push,lo_setVar,len_setVar];omega)) ?_ ?_
     rotate_left
     ·intro v8 S1 hT
      obtain⟨hn8,⟨x,rfl⟩,hx8,hlo8⟩:=told_no hT
      have hn9:toldV T[j] lineW=none:=hn8
      rw[hn9] at hstp
      rw[foldV_bad hj hfs hstp] at hpar
      simp only[lo_push,lo_setVar] at hlo8
      refine go2 fnil fnil ?_
      exact par_panic hwf0 (((hx.trans (HExt.push S _)).setVar (by omega)).trans hx8) (by omega) hpar
     intro W S1 hT
     obtain⟨ms,hm8,hR8,hz8⟩:=told_ret hT
     have hm:toldV T[j] lineW=some ms:=hm8
     rw[hm,Option.map_some,addLn_snoc] at hstp
     rw[hstp] at hnx
     have hW:SlOf 1 encI W ms:=SlOf.of_sl hR8.sl rfl rfl (fun _=>rfl)
     have hWc:=hW.cells
     have hWi:=hW.isCell
     have hWsh:=told_share hR8 hz8
     have A8:=hR8.hp (l:=t) (o := .arr (vp++[v])) (sG (bw hA (n4 mA)))
     have C8:=hR8.hp (l:=st1.heap.length) (o := .var [iv n,.hslice t 1 (pre++[c]).length]) (sG (bw hC (n4 mC)))
     have L8:=hR8.hp (l:=st.heap.length) (o := .var [iv 0,.nilslice]) (sG (bw hL (n4 mL)))
     have P8:=hR8.hp (l:=S.heap.length) (o := .var [.bool false,.nilslice]) (sG fnil)
     have mA8:=hp_lt A8
     have mC8:=hp_lt C8
     have mL8:=hp_lt L8
     have mP8:=hp_lt P8
     have r3:=hR8.lo
     have r4:=hR8.len
     simp only[lo_push,lo_setVar,len_push,len_setVar] at r3 r4
     have hx8:HExt st.heap S1.heap:=((hx.trans (HExt.push S _)).setVar (by omega)).trans hR8.w.hext
     have hO8:OwnS (st1.heap.length+1) S1 2 v c.length (c.flatMap encLN):=(own_new hOw).hext hR8.w.hext
     have hO4:OwnS (st1.heap.length+1) (setVar S1 S.heap.length (.var [.bool false,W])) 2 v c.length (c.flatMap encLN):=hO8.setVar (by rw[P8];simp)
     refine go2 (bw12 hl1 i5 P8 C8 hWc hWi hlast @op_indexAddrM hI (n4 mP8) (n4 mC8) (n4 mC)) fnil ?_
     have hA4:hp (setVar S1 S.heap.length (.var [.bool false,W])) t=some (.arr (vp++[v])):=by simp only[↓reduceIte,go_sem,A8,n4 mA8,n4 mA]
     have hC4:hp (setVar S1 S.heap.length (.var [.bool false,W])) st1.heap.length=some (.var [iv n,.hslice t 1 (pre++[c]).length]):=by simp only[↓reduceIte,go_sem,C8,n4 mC8,n4 mC]
     have hL4:hp (setVar S1 S.heap.length (.var [.bool false,W])) st.heap.length=some (.var [iv 0,.nilslice]):=by simp only[↓reduceIte,go_sem,L8,n4 mL8,n4 mL]
     refine wopsD_ldA (v:=v) (cs:=vp++[v]) (off:=pre.length*1) (by simp only[lo_push,len_push,lo_setVar,len_setVar];omega) rfl rfl (sR hl1) hA4 (by simp[hRp.len]) (by rw[Nat.mul_one,← hRp.len,List.drop_left];rfl) ?_
     refine go2 (bw5 hl1 hWc hWi hWsh (n4 mP8)) fnil ?_
     refine wopsD_append' (m:=st1.heap.length+1) (by simp only[lo_push,len_push,lo_setVar,len_setVar];omega) rfl rfl (sR hl1) (sR hl1) hO4.push rfl (by simp only[lo_push,len_push,lo_setVar,len_setVar];omega) (by rfl) (by simp only[List.all_cons,List.all_nil,el_isCell,Bool.and_true];rfl) (by simp only[maxList];omega) ?_
     intro v' S5 ft hft hO5 hF5 hk5
     have y1:=hF5.lo
     have y2:=hF5.up
     have y3:=hF5.len
     simp only[lo_push,len_push,lo_setVar,len_setVar] at y1 y2 y3
     have hA5:=hk5 t _ (by rw[hp_push,if_neg (by have:=hp_lt hA4;omega)];exact hA4) (by simp)
     have hC5:=hk5 st1.heap.length _ (by rw[hp_push,if_neg (by have:=hp_lt hC4;omega)];exact hC4) (by simp)
     have hL5:=hk5 st.heap.length _ (by rw[hp_push,if_neg (by have:=hp_lt hL4;omega)];exact hL4) (by simp)
     have v1:=sl_cells hO5.sl
     have v2:=sl_isCell hO5.sl
     have mA5:=hp_lt hA5
     refine go2 (bw3 hl1 @op_indexAddrM hI) fnil ?_
     refine wopsD_setA (v:=v') (cs:=vp++[v]) (off:=pre.length*1) (by omega) rfl rfl (sR hl1) (sR hl1) v1 v2 hA5 (by simp[hRp.len]) ?_
     apply wopsD_nil
     refine⟨?_,?_⟩
     ·simp only[footOk,List.all_cons,List.all_nil,List.getElem?_cons_zero,List.getElem?_cons_succ,clash_q,hft _ (Nat.lt_succ_self _),Bool.not_false,Bool.and_self]
     ·refine go2 hl1 fnil ?_
      have hsp9:splice (vp++[v]) (pre.length*1) [v']=vp++[v']:=by rw[← hRp.len];exact splice_last
      rw[hsp9]
      refine⟨_,hnx,.inr ⟨pre,c++[⟨false,ms⟩],vp,v',t,rfl,?_,hmt,by rw[hp_setVar,if_pos rfl,if_pos mA5],hRp,?_⟩,?_,hfew.add (told_few hm hxl),by rw[hp_setVar,if_neg (by omega)];exact hL5,by rw[len_setVar];omega,?_,by rw[lo_setVar];omega,by rw[lo_setVar,len_setVar];omega⟩
      ·rw[hp_setVar,if_neg (by omega),hC5];simp
      ·have hO6:=hO5.setVar (l:=t) (o := .arr (vp++[v'])) (by rw[hA5];simp)
       rw[List.length_append,List.flatMap_append,List.flatMap_singleton]
       have e9:encLN ⟨false,ms⟩=[.bool false,elL ms]:=rfl
       rw[e9]
       simpa[share_bool,el_share] using hO6
      ·rw[cntR_add];omega
      ·exact ((hx8.setVar (by omega):HExt st.heap (setVar S1 S.heap.length (.var [.bool false,W])).heap).trans (HExt.push _ _) |>.fr (hF5.mono (by omega))).setVar (by omega)
 ·rintro tm1 S ⟨cs,hfs,hRC,hcnt,hfew,hL,hge,hx,hlo,hwf⟩ hS
  have hl1:tm1.length=92:=lN hS hl;have i2:tg tm1 2 = .ptr st.heap.length 0:=tQ hS (bw hl h0);have i5:tg tm1 5 = .ptr st1.heap.length 0:=tQ hS (bw hl h0);have i0:tg tm1 0 = .str (toB s):=tQ hS (bw hl h0);clear hS
  rw[List.take_length] at hfs
  have hok:=foldV_ok (fun c hc=>(by cases hc)) hfs
  rw[hfs] at hpar
  simp only[Option.map_some,Option.bind_some] at hpar
  have mL:=hp_lt hL
  rcases hRC with ⟨rfl,hC⟩|⟨pre,c,vp,v,t,rfl,hC,hmt,hA,hRp,hOw⟩
  ·have mC:=hp_lt hC
   have hP:OkP ⟨n,.nilslice,[],.nil⟩:=OkP.parsed (cs:=[]) rfl hnn hok hfew (by omega)
   have k121:=fun st=>c121 ⟨n,.nilslice,[],.nil⟩ hP st
   have e0:(⟨n,.nilslice,[],.nil⟩:BP).bk=⟨n,[]⟩:=rfl
   rw[e0] at k121
   cases hE:(textV ⟨n,[]⟩==s)
   ·rw[hE] at hpar
    refine go2 (bw5 hl1 i0 i5 hC hE) (bw k121 fnil) ?_
    refine wops_callA rfl rfl (sR hl1) (by simp only[↓reduceIte,go_sem,hl1,i0];exact c156 false (toB s) _ hwf) ?_ ?_
    ·rintro v9 st9 ⟨_,⟨h,_⟩|⟨_,h⟩⟩
     ·cases h
     ·cases h
    ·rintro v9 st9 ⟨rfl,⟨h,_⟩|⟨_,h⟩⟩
     ·cases h
     ·cases h
      refine go2 fnil fnil ?_
      exact par_panic hwf0 hx hlo hpar
   ·rw[hE] at hpar
    refine go2 (bw7 hl1 i0 i2 i5 hC hL hE) (bw3 k121 c156_ok fnil) ?_
    obtain⟨F',e1,hW⟩:=finish_agg1 (st:=st) (st1:=setVar S st.heap.length (.var [iv n,.nilslice])) (a:=n) (v := .nilslice) (n:=0) (cs:=[]) rfl (by rw[lo_setVar];omega) (fun m=>rfl)
    refine fna_ret (v := .agg [iv n,.nilslice]) (results_one ?_) ?_
    ·rw[rdRes_hp (l:=st.heap.length) (off:=0) (sG (bw hl1 i2))]
     simp only[↓reduceIte,go_sem,hl1,mL]
     first|done|rfl
    ·rw[e1]
     exact⟨hW.hext,hW.lo,⟨n,F',[],SlOf.of_sl hW.1 rfl rfl (fun _=>rfl)⟩,hpar,rfl,OkP.parsed (cs:=[]) rfl hnn hok hfew (by omega)⟩
  ·have mC:=hp_lt hC
   have hRs:=hRp.snoc hOw.sl
   obtain⟨bs,hbv,hbc⟩:=hRs.cps
   have hbl:bs.length=(pre++[c]).length:=by rw[← hbc,List.length_map]
   have hP:OkP ⟨n,.slice .shared bs.length (bs.flatMap encCP),bs,⟨rfl,fun _ _=>rfl⟩⟩:=OkP.parsed (cs:=pre++[c]) (by rw[← hbc]) hnn hok hfew (by omega)
   have k121:=fun st ha=>c121h ⟨n,.slice .shared bs.length (bs.flatMap encCP),bs,⟨rfl,fun _ _=>rfl⟩⟩ hP t st ha
   have e0:(⟨n,.slice .shared bs.length (bs.flatMap encCP),bs,⟨rfl,fun _ _=>rfl⟩⟩:BP).bk=⟨n,pre++[c]⟩:=by rw[← hbc]
   rw[e0] at k121
   have k1:=k121 S (by rw[hA,← hbv])
   simp only[hbl] at k1
   have hV9:(vp++[v]).all PV.isCell=true:=hRs.cell
   cases hE:(textV ⟨n,pre++[c]⟩==s)
   ·rw[hE] at hpar
    refine go2 (bw5 hl1 i0 i5 hC hE) (bw k1 fnil) ?_
    refine wops_callA rfl rfl (sR hl1) (by simp only[↓reduceIte,go_sem,hl1,i0];exact c156 false (toB s) _ hwf) ?_ ?_
    ·rintro v9 st9 ⟨_,⟨h,_⟩|⟨_,h⟩⟩
     ·cases h
     ·cases h
    ·rintro v9 st9 ⟨rfl,⟨h,_⟩|⟨_,h⟩⟩
     ·cases h
     ·cases h
      refine go2 fnil fnil ?_
      exact par_panic hwf0 hx hlo hpar
   ·rw[hE] at hpar
    refine go2 (bw7 hl1 i0 i2 i5 hC hL hE) (bw3 k1 c156_ok fnil) ?_
    obtain⟨F',e1,hW⟩:=finish_aggH (st:=st) (st1:=setVar S st.heap.length (.var [iv n,.hslice t 1 (pre++[c]).length])) (a:=n) (t:=t) (n:=(pre++[c]).length) (cs:=vp++[v]) (by omega) (by rw[hp_setVar,if_neg (by omega)];exact hA) (by rw[lo_setVar];omega) hV9 (fun m=>hRs.low m)
    refine fna_ret (v := .agg [iv n,.hslice t 1 (pre++[c]).length]) (results_one ?_) ?_
    ·rw[rdRes_hp (l:=st.heap.length) (off:=0) (sG (bw hl1 i2))]
     simp only[↓reduceIte,go_sem,hl1,mL]
     first|done|rfl
    ·rw[e1]
     obtain⟨qs,hqv,hqc⟩:=hRs.shares.cps
     have e7:qs.flatMap encCP=(vp++[v]).map PV.share:=by rw[← hqv];exact cp_flat qs
     have hql:qs.length=(pre++[c]).length:=by rw[← hqc,List.length_map]
     exact⟨hW.hext,hW.lo,⟨n,F',qs,SlOf.of_sl hW.1 hql.symm e7.symm (fun _=>rfl)⟩,by rw[hpar];show some _=some (⟨n,qs.map CP.c⟩:BK);rw[hqc],rfl,OkP.parsed (cs:=pre++[c]) (by show (⟨n,qs.map CP.c⟩:BK)=_;rw[hqc]) hnn hok hfew (by omega)⟩
end Go.Den.Ve
end
section
namespace Go.Den.Ve
def ClosP (o:Option BK) (b:Nat) (st:St) (r:CR) (st':St):Prop:=match r with
 | .ret v=>v = .tuple []∧(∃ c:BP,o=some c.bk∧OkP c∧hp st' b=some (.var [iv c.words,c.v]))∧(∀ l,l<st.heap.length→l≠b→hp st' l=hp st l)∧st.heap.length≤st'.heap.length∧st'.lo=min st.lo b
 | .panic v=>o=none∧(∃ x,v=noneX x)∧HExt st.heap st'.heap∧st'.lo=st.lo
theorem par_ret{o:Option BK}{st st':St}{v:PV}(h:ParP o st (.ret v) st'):HExt st.heap st'.heap∧st'.lo=st.lo∧∃ b:BP,o=some b.bk∧v=b.pv∧OkP b:=h
theorem par_no{o:Option BK}{st st':St}{v:PV}(h:ParP o st (.panic v) st'):HExt st.heap st'.heap∧st'.lo=st.lo∧o=none∧∃ x,v=noneX x:=h
theorem OkP.sm{b:BP}(h:OkP b):SmB b:=⟨by have:=h.cs;omega,fun c hc=>by have:=h.ls hc;omega⟩
set_option maxHeartbeats 2000000 in
theorem c123(s:List UInt8)(hs:s.length≤400)(a b:Nat)(st:St)(hwf:st.lo≤st.heap.length)(ha:hp st a=some (.var [.str (toB s)]))(hb:hp st b=some (.var [iv 0,.nilslice])):ClA EE (.func 123 [] [.ptr a 0,.ptr b 0]) [] st (ClosP (parsedV s) b st):=by
 have mb:=hp_lt hb
 refine cA2 pr123 fn123 (fun tm hl h0 h1=>?_)
 have ha':hp { heap:=st.heap,lo:=st.heap.length } a=some (.var [.str (toB s)]):=ha
 refine go2 (bw4 hl h0 h1 ha') fnil ?_
 refine wops_callA rfl rfl (sR hl) (by simp only[↓reduceIte,go_sem,hl];exact c124 s hs _ (Nat.le_refl _)) ?_ ?_
 ·intro v S hP
  obtain⟨hx,hlo,c,ho,rfl,hok⟩:=par_ret hP
  have hB:=c.h
  have hb':hp S b=some (.var [iv 0,.nilslice]):=(hx.2 b mb).trans hb
  have mS:=hp_lt hb'
  simp only at hlo
  have hx1:=hx.1
  simp only at hx1
  refine go2 (bw3 hl h1 hb') fnil ?_
  refine fna_normal (v := .tuple []) results_nil ?_
  rw[finish_low (by rw[lo_setVar];omega)]
  refine⟨rfl,⟨c,ho,hok,?_⟩,fun l hl hne=>?_,?_,?_⟩
  ·show hp (setVar S b _) b=_
   rw[hp_setVar,if_pos rfl,if_pos mS]
  ·show hp (setVar S b _) l=_
   rw[hp_setVar,if_neg hne];exact hx.2 l hl
  ·show st.heap.length≤(setVar S b _).heap.length
   rw[len_setVar];exact hx1
  ·show min st.lo (setVar S b _).lo=_
   rw[lo_setVar];omega
 ·intro v S hP
  obtain⟨hx,hlo,ho,x,rfl⟩:=par_no hP
  refine go2 fnil fnil ?_
  refine fna_panic ⟨ho,⟨x,rfl⟩,hx,?_⟩
  show min st.lo S.lo=st.lo
  simp only at hlo
  omega
def ReadP (s:List UInt8) (st:St) (v:PV) (st':St):Prop:=∃ b:BP,v = .tuple [b.pv,iv (readV s).2]∧b.bk=(readV s).1∧SmB b∧HExt st.heap st'.heap∧st'.lo=st.lo
theorem readP_none{s:List UInt8}{st S:St}{e:Int}(h:readV s=(⟨0,[]⟩,e))(hlo:st.heap.length≤S.lo):ReadP s st (finishCall st S (.tuple [.agg [iv 0,.nilslice],iv e])).1 (finishCall st S (.tuple [.agg [iv 0,.nilslice],iv e])).2:=by
 rw[finish_tuple hlo (by rfl)]
 unfold ReadP
 rw[h]
 exact⟨⟨0,.nilslice,[],.nil⟩,rfl,rfl,⟨by simp,fun c hc=>by cases hc⟩,.refl _,rfl⟩
set_option maxHeartbeats 4000000 in
theorem c75(s:List UInt8)(st:St):ClR EE (.func 75 [] []) [.str (toB s)] st (ReadP s st):=by
 refine cG1 pr75 fn75 (fun tm hl h0=>?_)
 by_cases h400:s.length>400
 ·have d1:decide ((s.length:Int)>400)=true:=by simp;omega
  have e:readV s=(⟨0,[]⟩,3):=by simp[readV,h400]
  refine go2 (bw3 hl h0 d1) fnil ?_
  refine fnr_ret (v := .tuple [.agg [iv 0,.nilslice],iv 3]) (results_two ?_ ?_) (readP_none e (by simp only[lo_push,lo_setVar];omega))
  ·rw[rdRes_hp (l:=st.heap.length+1) (off:=0) (sG hl)]
   simp only[↓reduceIte,go_sem,hl];first|done|rfl
  ·rw[rdRes_tmp];simp only[↓reduceIte,go_sem,hl];first|done|rfl
 ·have d1:decide ((s.length:Int)>400)=false:=by simp;omega
  have z0:((0:Int) != 0)=false:=rfl
  have z4:((4:Int) != 0)=true:=rfl
  refine go2 (bw3 hl h0 d1) fnil ?_
  obtain⟨r,S,hcl,hP⟩:=c123 s (by omega) st.heap.length (st.heap.length+1+1) (((({ heap:=st.heap,lo:=st.heap.length }:St).push (.var [.str (toB s)])).push (.var [iv 0,.nilslice])).push (.var [iv 0,.nilslice])) (by simp only[lo_push,len_push];omega) (sG fnil) (sG fnil)
  cases r with
  | panic v =>
   obtain⟨ho,⟨x,rfl⟩,hx,hlo⟩:=hP
   have e:readV s=(⟨0,[]⟩,4):=by simp[readV,h400,ho]
   have b1:hp S (st.heap.length+1)=some (.var [iv 0,.nilslice]):=(hx.2 _ (by simp only[len_push];omega)).trans (by have h:∀ (S:St) l,S.heap[l]? = hp S l:=fun _ _=>rfl;rw[h];simp only[↓reduceIte,go_sem])
   have m1:=hp_lt b1
   simp only[lo_push] at hlo
   refine wops_call' rfl rfl (sR hl) (by simp only[↓reduceIte,go_sem,hl];exact c122_none hcl) ?_
   refine go2 (bw4 hl b1 (n4 m1) z4) fnil ?_
   refine fnr_ret (v := .tuple [.agg [iv 0,.nilslice],iv 4]) (results_two ?_ ?_) (readP_none e (by simp only[lo_push,lo_setVar];omega))
   ·rw[rdRes_hp (l:=st.heap.length+1) (off:=0) (sG hl)]
    simp only[↓reduceIte,go_sem,hl,m1,n4 m1];first|done|rfl
   ·rw[rdRes_tmp];simp only[↓reduceIte,go_sem,hl];first|done|rfl
  | ret v =>
   obtain⟨rfl,⟨c,ho,hok,hbc⟩,hk,hln,hlo⟩:=hP
   have hB:=c.h
   have h81:=c81 c hok.sm
   have b1:hp S (st.heap.length+1)=some (.var [iv 0,.nilslice]):=(hk _ (by simp only[len_push];omega) (by omega)).trans (sG fnil)
   have m1:=hp_lt b1
   have m2:=hp_lt hbc
   simp only[lo_push,len_push] at hlo hln
   refine wops_call' rfl rfl (sR hl) (by simp only[↓reduceIte,go_sem,hl];exact c122_ret hcl) ?_
   cases hA:bookB c.bk
   ·have e:readV s=(⟨0,[]⟩,2):=by simp[readV,h400,ho,hA]
    refine go2 (bw7 hl b1 (n4 m1) hbc (n4 m2) z0 hA) (bw h81 fnil) ?_
    refine fnr_ret (v := .tuple [.agg [iv 0,.nilslice],iv 2]) (results_two ?_ ?_) (readP_none e (by simp only[lo_push,lo_setVar];omega))
    ·rw[rdRes_hp (l:=st.heap.length+1) (off:=0) (sG hl)]
     simp only[↓reduceIte,go_sem,hl,m1,n4 m1];first|done|rfl
    ·rw[rdRes_tmp];simp only[↓reduceIte,go_sem,hl];first|done|rfl
   ·have e:readV s=(c.bk,0):=by simp[readV,h400,ho,hA]
    refine go2 (bw7 hl b1 (n4 m1) hbc (n4 m2) z0 hA) (bw h81 fnil) ?_
    refine fnr_ret (v := .tuple [c.pv,iv 0]) (results_two ?_ ?_) ?_
    ·rw[rdRes_hp (l:=st.heap.length+1) (off:=0) (sG hl)]
     simp only[↓reduceIte,go_sem,hl,m1,n4 m1];first|done|rfl
    ·rw[rdRes_tmp];simp only[↓reduceIte,go_sem,hl];first|done|rfl
    ·have hxS:HExt st.heap S.heap:=⟨by omega,fun l hl=>by
      have h1:=hk l (by simp only[len_push];omega) (by omega)
      have n1:(l=st.heap.length)=False:=by simp;omega
      have n2:∀ k,(l=st.heap.length+k)=False:=by simp;omega
      exact h1.trans (sR (bw n1 n2))⟩
     have key:∀ S':St,HExt st.heap S'.heap→st.heap.length≤S'.lo→ReadP s st (finishCall st S' (.tuple [c.pv,iv 0])).1 (finishCall st S' (.tuple [c.pv,iv 0])).2:=by
      intro S' hx' hl'
      obtain⟨k1,k2,k3⟩:=finish_keep (st:=st) (st1:=S') (vs:=[c.pv,iv 0]) (by rfl) hl'
      rw[k1]
      refine⟨c,by rw[e],by rw[e],hok.sm,?_,k2⟩
      rcases k3 with h|h <;> rw[h] <;> first|exact .refl _|exact hx'
     exact key _ (hxS.setVar (by omega)) (by simp only[lo_push,lo_setVar];omega)
end Go.Den.Ve
end

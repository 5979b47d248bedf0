/- Part of the proofs of laws of the package version. Texts: TqI, TqJ, TqK, TqL, TqP, TnFnOK, TnEntry, TnIn. -/
import Derived.Test.YthnfeimjhibcaaaTAAr
import Derived.Test.YthnfeimjhibcaaaTAAq
import Derived.Test.YthnfeimjhibcaaaTAAg
import Derived.Test.YthnfeimjhibcaaaProg
import Derived.Test.YthnfeimjhibcaaaTAAi
import Derived.ProofKit
import Derived.HandedShaped
import Derived.Shelf.Vars
import Derived.LaidLaws
import Derived.Lay
import Derived.LaidHandle
set_option linter.unusedSimpArgs false
set_option linter.unusedVariables false
section
namespace Go.Den.Tq
open Go.Den.Tp Go.Den.Ve
theorem c34 (b:QB) (n:Int) (TU:PV) (hT:TU.cells=[TU]) (st:St):Cl EE (.func 34 [] []) [b.pv,iv n,TU] st (.ret (.func 76 [] [.ptr st.heap.length 0,.ptr (st.heap.length+2) 0,.ptr (st.heap.length+1) 0])) (((st.push (.var [iv b.cues,iv b.tunes,b.v])).push (.var [iv n])).push (.var [TU])):=by
 refine cF3 pr34 fn34 (fun tm hl h0 h1 h2=>?_)
 refine go2 (bw5 hl h0 h1 h2 hT) fnil ?_
 unfold FnQ
 refine ⟨.func 76 [] [.ptr st.heap.length 0,.ptr (st.heap.length+2) 0,.ptr (st.heap.length+1) 0],results_one (by rw [rdRes_tmp];simp only [↓reduceIte,go_sem,hl]),_,?_,rfl⟩
 rw [finish_none (by simp only [lo_push];omega) (by simp [letGo,freeze1,retag1,PV.low,lowL])]
 rfl
section
variable {α:Type} (p:α→Bool) (X:List α)
def cntF (i:Nat):Nat:=((X.take i).filter p).length
theorem cntF_succ {i:Nat} (hi:i<X.length):cntF p X (i+1)=cntF p X i+if p X[i] then 1 else 0:=by
 unfold cntF
 rw [List.take_succ_eq_append_getElem hi,List.filter_append,List.length_append]
 congr 1
 cases h:p X[i] <;> simp [h]
theorem cntF_at {i:Nat} (hi:i<X.length) (h:p X[i]=true):∃ hc:cntF p X i<(X.filter p).length,(X.filter p)[cntF p X i]=X[i]:=by
 have e:X.filter p=(X.take i).filter p++(X[i]::(X.drop (i+1)).filter p):=by
  have:X=X.take i++(X[i]::X.drop (i+1)):=by rw [← List.drop_eq_getElem_cons hi,List.take_append_drop]
  conv=>lhs;rw [this]
  rw [List.filter_append,List.filter_cons,if_pos h]
 have hc:cntF p X i<(X.filter p).length:=by rw [e];simp only [List.length_append,List.length_cons,cntF];omega
 refine ⟨hc,?_⟩
 simp only [e]
 rw [List.getElem_append_right (by simp only [cntF];omega)]
 simp [cntF]
theorem cntF_all:cntF p X X.length=(X.filter p).length:=by unfold cntF;rw [List.take_length]
theorem loud_ex (h:X.filter p≠[]):∃ i,∃ hi:i<X.length,p X[i]=true:=by
 obtain ⟨x,hx⟩:=List.exists_mem_of_ne_nil _ h
 rw [List.mem_filter] at hx
 obtain ⟨i,hi,rfl⟩:=List.getElem_of_mem hx.1
 exact ⟨i,hi,hx.2⟩
end
theorem set_loop {h:List HObj} {l l':Nat} {cs:List PV} {o o':HObj} (g:h[l]? = some (.var cs)) (hl:h[l']? = some o) (ho:isLoop o=true):(h.set l' o')[l]? = some (.var cs):=by
 rw [List.getElem?_set_ne]
 ·exact g
 ·rintro rfl;rw [g] at hl;cases hl;cases ho
def hitP (T:List (List Mv)) (tu:List Int) (l:List Int):Bool:=notedB (plays T 0 l) tu
def hitsL (T:List (List Mv)) (tu:List Int) (wd:Nat):List (List Int):=(listsL wd tu.length).filter (hitP T tu)
set_option maxHeartbeats 4000000 in
theorem iter76 {b:QB} {wd n pb pt pn:Nat} {TU:PV} {tu:List Int} {st:St} (hwd:b.cues=(wd:Int)) (hw9:wd<1000) (hn:n<b.vs.length) (hV:OkV b.cues b.tunes b.vs[n]) (hTU:SlOf 1 encI TU tu) (htu:tu.length<100) (hne:hitsL (b.vs[n]).t tu wd≠[]) (hpb:hp st pb=some (.var [iv b.cues,iv b.tunes,b.v])) (hpt:hp st pt=some (.var [TU])) (hpn:hp st pn=some (.var [iv n])) :
  IterU EE (.func 76 [] [.ptr pb 0,.ptr pt 0,.ptr pn 0]) st (hitsL (b.vs[n]).t tu wd) RepL (fun l=>l=pb∨l=pt∨l=pn):=by
 intro y W e u w I S Y hWp hI he hwf hw
 have hyi:=Y.cell
 have hyc:=Y.cells
 have hew:=Y.eu
 have huw:=Y.uw
 have hWw:=Y.Ww
 have hWb:¬ W pb:=hWp pb (.inl rfl)
 have hWt:¬ W pt:=hWp pt (.inr (.inl rfl))
 have hWn:¬ W pn:=hWp pn (.inr (.inr rfl))
 have hWm:¬ W st.heap.length:=fun h=>by have:=hWw _ h;omega
 have hTs:=hTU.slen
 have hTc:=hTU.cells
 have hTi:=hTU.isCell
 have hbh:=b.h
 have lpb:=hp_lt hpb
 have lpt:=hp_lt hpt
 have lpn:=hp_lt hpn
 have hgoal:ClR EE (.func 76 [] [.ptr pb 0,.ptr pt 0,.ptr pn 0]) [y] st (fun v st'=>KeepV W st.heap st'.heap∧e≤st'.lo∧st'.lo≤st'.heap.length∧(((hitsL (b.vs[n]).t tu wd).length=0∧st'=st)∨st'.lo≤u)∧(I (hitsL (b.vs[n]).t tu wd).length st'.heap∨S st'.heap)):=by
  have fin:∀ (st1:St),KeepV W st.heap st1.heap→e≤st1.lo→st1.lo≤u→(I (hitsL (b.vs[n]).t tu wd).length st1.heap∨S st1.heap)→KeepV W st.heap (finishCall st st1 (.tuple [])).2.heap∧e≤(finishCall st st1 (.tuple [])).2.lo∧(finishCall st st1 (.tuple [])).2.lo≤(finishCall st st1 (.tuple [])).2.heap.length∧(((hitsL (b.vs[n]).t tu wd).length=0∧(finishCall st st1 (.tuple [])).2=st)∨(finishCall st st1 (.tuple [])).2.lo≤u)∧(I (hitsL (b.vs[n]).t tu wd).length (finishCall st st1 (.tuple [])).2.heap∨S (finishCall st st1 (.tuple [])).2.heap):=by
   intro st1 hk h1 h2 h3
   rw [finish_low (by omega)]
   refine ⟨hk,by show e≤min st.lo st1.lo;omega,?_,.inr (by show min st.lo st1.lo≤u;omega),h3⟩
   have:=hk.1
   show min st.lo st1.lo≤st1.heap.length;omega
  have hpb':hp { heap:=st.heap,lo:=st.heap.length } pb=some (.var [iv b.cues,iv b.tunes,b.v]):=hpb
  have hpt':hp { heap:=st.heap,lo:=st.heap.length } pt=some (.var [TU]):=hpt
  refine clr_fn (pr76 · _ _) fn76 4 rfl (by decide) (fun tm hl hg=>?_);have h0:tg tm 0=y:=(hg 0 (by decide));have h1:tg tm 1 = .ptr pb 0:=(hg 1 (by decide));have h2:tg tm 2 = .ptr pt 0:=(hg 2 (by decide));have h3:tg tm 3 = .ptr pn 0:=(hg 3 (by decide));clear hg
  refine go2 (bw12 hl h0 h1 h2 h3 hyi hyc hpb' hpt' hTs (n4 lpb) (n4 lpt)) (bw (c77 b tu.length) fnil) ?_
  apply wp_block
  have hx0:HExt st.heap (((({ heap:=st.heap,lo:=st.heap.length }:St).push (.var [y])).push (.var [iv b.cues,iv b.tunes,b.v])).push (.var [iv tu.length])).heap :=
   ((HExt.push ⟨st.heap,st.heap.length⟩ _).trans (.push _ _)).trans (.push _ _)
  have hm0:hp (((({ heap:=st.heap,lo:=st.heap.length }:St).push (.var [y])).push (.var [iv b.cues,iv b.tunes,b.v])).push (.var [iv tu.length])) st.heap.length=some (.var [y]):=by simp only [↓reduceIte,go_sem]
  refine wp_rangeQ (X:=listsL wd tu.length) (Rep:=RepL) (priv:=fun l=>l=st.heap.length+2∨l=st.heap.length+1) W e u (fun i=>if h:i<(listsL wd tu.length).length then hitP (b.vs[n]).t tu (listsL wd tu.length)[i] else false)
   (fun i h=>I (cntF (hitP (b.vs[n]).t tu) (listsL wd tu.length) i) h∧h[st.heap.length]? = some (.var [y])∧h[pb]? = some (.var [iv b.cues,iv b.tunes,b.v])∧h[pt]? = some (.var [TU])∧h[pn]? = some (.var [iv n])) (fun j h=>j = .ret∧S h) (sR hl)
   (iter119 (T:=iv b.tunes) (V:=b.v) (st:=((((({ heap:=st.heap,lo:=st.heap.length }:St).push (.var [y])).push (.var [iv b.cues,iv b.tunes,b.v])).push (.var [iv tu.length])).push _)) hw9 htu (sG fnil) (by rw [← hwd];simp only [↓reduceIte,go_sem]))
   (fun l hl=>⟨fun h=>by have:=hWw _ h;omega,by simp only [len_push];omega⟩) (fun l hl=>by have:=hWw _ hl;simp only [len_push];omega) (by simp only [lo_push];omega) (by simp only [lo_push,len_push];omega) hew (by simp only [len_push];omega)
   (fun i h h' ⟨g1,g2,g3,g4,g5⟩ hx=>⟨Y.stab _ _ _ g1 hx,hx.var g2,hx.var g3,hx.var g4,hx.var g5⟩) (fun j h h' ⟨g1,g2⟩ hx=>⟨g1,Y.stabS _ _ g2 hx⟩)
   (fun i h l o o' hle ⟨g1,g2,g3,g4,g5⟩ hl ho ho'=>⟨Y.loopI _ _ _ _ _ (by simp only [len_push] at hle;omega) g1 hl ho ho',set_loop g2 hl ho,set_loop g3 hl ho,set_loop g4 hl ho,set_loop g5 hl ho⟩) (fun j h l o o' hle ⟨g1,g2⟩ hl ho ho'=>⟨g1,Y.loopS _ _ _ _ (by simp only [len_push] at hle;omega) g2 hl ho ho'⟩)
   ⟨Y.stab _ _ _ hI hx0,hm0,hx0.hp hpb,hx0.hp hpt,hx0.hp hpn⟩ ?_ ?_ ?_
  ·rintro i hi v s1 hv ⟨hI1,hm1,g3,g4,g5⟩ he1 hwf1 hlt1 ⟨ol,hol,hol2⟩
   rw [dif_pos hi]
   obtain ⟨hin1,hin2⟩:=mem_lists.1 (List.getElem_mem hi)
   have hInC:InC b.cues (listsL wd tu.length)[i]:=fun c hc=>by have:=hin2 c hc;omega
   simp only [len_push] at hlt1 hol
   apply wp_region_ops
   refine wops_one rfl (fun rec=>by rw [op_val,ev_t,tg_same (sG hl)]) ?_
   apply wops_nil
   refine ⟨rfl,.refl _,he1,hwf1,fun o ho=>?_⟩
   simp only [len_push]
   have e3:hp (setVar s1 (st.heap.length+1+1+1) o) st.heap.length=some (.var [y]):=by rw [hp_setVar,if_neg (by omega)];exact hm1
   have b3:hp (setVar s1 (st.heap.length+1+1+1) o) pb=some (.var [iv b.cues,iv b.tunes,b.v]):=by rw [hp_setVar,if_neg (by omega)];exact g3
   have t3:hp (setVar s1 (st.heap.length+1+1+1) o) pt=some (.var [TU]):=by rw [hp_setVar,if_neg (by omega)];exact g4
   have n3:hp (setVar s1 (st.heap.length+1+1+1) o) pn=some (.var [iv n]):=by rw [hp_setVar,if_neg (by omega)];exact g5
   have hI3:I (cntF (hitP (b.vs[n]).t tu) (listsL wd tu.length) i) (setVar s1 (st.heap.length+1+1+1) o).heap:=Y.loopI _ _ _ _ _ (by omega) hI1 hol hol2 ho
   have hl3:(setVar s1 (st.heap.length+1+1+1) o).lo≤(setVar s1 (st.heap.length+1+1+1) o).heap.length:=by rw [lo_setVar,len_setVar];omega
   have he3:e≤(setVar s1 (st.heap.length+1+1+1) o).lo:=by rw [lo_setVar];omega
   have hlen3:st.heap.length+1+1+1<(setVar s1 (st.heap.length+1+1+1) o).heap.length:=by rw [len_setVar];omega
   generalize setVar s1 (st.heap.length+1+1+1) o=s3 at e3 b3 t3 n3 hI3 hl3 he3 hlen3 ⊢
   have lm3:=hp_lt e3
   have lb3:=hp_lt b3
   have lt3:=hp_lt t3
   have ln3:=hp_lt n3
   refine go2 (bw11 hl h1 h2 h3 e3 b3 t3 n3 (n4 lb3) (n4 lt3) (n4 ln3)) fnil ?_
   have hcall:=c31 b.vs[n] hV v (listsL wd tu.length)[i] hv.1 (by omega) hInC s3
   refine cR hl (hcall) ?_
   rintro r4 s4 ⟨P,rfl,hP,hk⟩
   have e4:=hk.hp e3
   have b4:=hk.hp b3
   have t4:=hk.hp t3
   have hlo4:s4.lo=s3.lo:=hk.2
   have hln4:=hk.len
   have lm4:=hp_lt e4
   have lt4:=hp_lt t4
   have hPs:SlOf 1 encI P (plays (b.vs[n]).t 0 (listsL wd tu.length)[i]):=SlOf.of_sl hP (plays_len _ _ _).symm rfl (fun _=>rfl)
   have k78:=fun st=>c78 P TU _ tu hPs hTU (by omega) (by rw [plays_len,hin1]) st
   have hx4:HExt s3.heap (setVar (s4.push (.var [.nilslice,iv 0])) s4.heap.length (.var [(b.vs[n]).v,iv (stTo (b.vs[n]).t 0 (listsL wd tu.length)[i])])).heap:=(hk.1.trans (.push _ _)).setVar hln4
   have hsuc:=cntF_succ (hitP (b.vs[n]).t tu) (listsL wd tu.length) hi
   cases hh:hitP (b.vs[n]).t tu (listsL wd tu.length)[i]
   ·have hno:notedB (plays (b.vs[n]).t 0 (listsL wd tu.length)[i]) tu=false:=hh
    rw [hh] at hsuc
    refine go2 (bw7 hl h2 e4 t4 (n4 lm4) (n4 lt4) hno) (bw k78 fnil) ?_
    exact ⟨hx4.keep W,by simp only [lo_setVar,lo_push];omega,by simp only [lo_setVar,lo_push,len_setVar,len_push];omega,⟨by rw [hsuc];exact Y.stab _ _ _ hI3 hx4,hx4.hp e3,hx4.hp b3,hx4.hp t3,hx4.hp n3⟩,(fun h=>by cases h)⟩
   ·have hno:notedB (plays (b.vs[n]).t 0 (listsL wd tu.length)[i]) tu=true:=hh
    rw [hh] at hsuc
    obtain ⟨hci,hXi⟩:∃ hc:cntF (hitP (b.vs[n]).t tu) (listsL wd tu.length) i<(hitsL (b.vs[n]).t tu wd).length,(hitsL (b.vs[n]).t tu wd)[cntF (hitP (b.vs[n]).t tu) (listsL wd tu.length) i]=(listsL wd tu.length)[i]:=cntF_at _ _ hi hh
    obtain ⟨r,s5,hcl,hk5,he5,hu5,hT,hS'⟩:=Y.step _ hci v (setVar (s4.push (.var [.nilslice,iv 0])) s4.heap.length (.var [(b.vs[n]).v,iv (stTo (b.vs[n]).t 0 (listsL wd tu.length)[i])])) (by rw [hXi];exact hv) (Y.stab _ _ _ hI3 hx4) (by simp only [lo_setVar,lo_push];omega) (by simp only [lo_setVar,lo_push,len_setVar,len_push];omega) (by simp only [len_setVar,len_push];omega)
    have hw5:s5.lo≤s5.heap.length:=by have:=hk5.1;simp only [len_setVar,len_push] at this;omega
    have hk35:KeepV W s3.heap s5.heap:=(hx4.keep W).trans hk5
    cases r
    ·refine go2 (bw7 hl h2 e4 t4 (n4 lm4) (n4 lt4) hno) (bw3 k78 hcl fnil) ?_
     exact ⟨hk35,he5,hw5,⟨rfl,hS' rfl⟩,hu5⟩
    ·refine go2 (bw7 hl h2 e4 t4 (n4 lm4) (n4 lt4) hno) (bw3 k78 hcl fnil) ?_
     exact ⟨hk35,he5,hw5,⟨by rw [hsuc];exact hT rfl,hk35.hp e3 hWm,hk35.hp b3 hWb,hk35.hp t3 hWt,hk35.hp n3 hWn⟩,fun _=>hu5⟩
  ·rintro s4 ⟨hI4,hm4,_⟩ hk4 he4 hw4 _ hq4
   rw [cntF_all] at hI4
   have hu5:s4.lo≤u:=by
    obtain ⟨i,hi,hh⟩:=loud_ex _ _ hne
    exact hq4 i hi (by rw [dif_pos hi];exact hh)
   refine go2 hl fnil ?_
   exact fnr_normal results_nil (fin s4 ((hx0.keep W).trans hk4) he4 hu5 (.inl hI4))
  ·rintro j s4 ⟨rfl,hS4⟩ hk4 he4 hw4 hu4
   simp only [jumpEx]
   refine go2 hl fnil ?_
   exact fnr_ret results_nil (fin s4 ((hx0.keep W).trans hk4) he4 hu4 (.inr hS4))
 obtain ⟨v,st',h1,h2⟩:=hgoal
 exact ⟨v,st',h1,h2⟩
end Go.Den.Tq
end
section
namespace Go.Den.Tq
open Go.Den.Tp Go.Den.Ve
abbrev encH (cues:List Int) (x:List Int):List PV:=[elL x,.int .i64 (apart x cues:Nat)]
attribute [go_sem] encH
theorem c36 (A B:PV) (hA:A.isCell=true) (hB:B.isCell=true) (a b:Int) (st:St):Cl EE (.func 36 [] []) [.agg [A,iv a],.agg [B,iv b]] st (.ret (.bool (decide (a<b)))) st:=by
 refine cF2 pr36 fn36 (fun tm hl h0 h1=>?_)
 refine go2 (bw5 hl h0 h1 hA hB) fnil ?_
 exact fQ hl
def fewer (cues:List Int) (x o:List Int):Bool:=decide ((apart x cues:Int)<(apart o cues:Int))
set_option maxHeartbeats 2000000 in
theorem c35 (cues:List Int) (F:PV) (X:List (List Int)) (hF:SlOf 2 (encH cues) F X) (h0:0<X.length) (hN:X.length<1000000) (st:St):ClR EE (.func 35 [] []) [F,.func 36 [] []] st (fun v st'=>∃ o,bestF (fewer cues) X=some o∧v = .tuple [.agg (encH cues o),.bool true]∧Keep st st'):=by
 refine cG2 pr35 fn35 (fun tm hl h0 h1=>?_)
 have hs:=hF.slen
 have hE:∀ x,(elL x).isCell=true:=el_isCell
 refine go2 (bw4 hl h0 h1 hs) fnil ?_
 refine wp_range X.length [] (fun i vs st'=>HExt st.heap st'.heap∧st.heap.length≤st'.lo∧st'.lo≤st'.heap.length∧hp st' st.heap.length=some (.var [.nilslice,iv 0])∧∃ cs,hp st' (st.heap.length+1)=some (.var cs)∧((i=0∧cs=[.nilslice,iv 0])∨∃ o,cs=encH cues o∧bestF (fewer cues) (X.take i)=some o)) (by omega) (sG hl) (sG hl) (sG hl) (by rfl)
  ⟨(show HExt ({ heap:=st.heap,lo:=st.heap.length }:St).heap _ from (((Fr.refl st.heap.length { heap:=st.heap,lo:=st.heap.length }).push (Nat.le_refl _)).push (by simp only [len_push];omega)).hext),by simp only [lo_push];omega,by simp only [lo_push,len_push];omega,(sG fnil),_,(sG fnil),.inl ⟨rfl,rfl⟩⟩ ?_ ?_
 ·rintro i hi tm1 st1 ⟨hx,hlo,hwf,hz0,cs,ho,hcs⟩ hS hia
  have hl1:tm1.length=30:=lN hS hl;have j1:tg tm1 1 = .func 36 [] []:=tQ hS (bw3 hl h0 h1);have j6:tg tm1 6 = .ptr (st.heap.length+1) 0:=tQ hS (bw3 hl h0 h1);have j9:tg tm1 9=F:=tQ hS (bw3 hl h0 h1);clear hS
  have ll:=hp_lt ho
  have lz:=hp_lt hz0
  have hX:HExt st.heap (setVar (st1.push (.var [.nilslice,iv 0])) st1.heap.length (.var (encH cues X[i]))).heap:=hx.trans (((Fr.refl st1.heap.length st1).push (Nat.le_refl _)).setVar (Nat.le_refl _)).hext
  have hX2:HExt st.heap (setVar (setVar (st1.push (.var [.nilslice,iv 0])) st1.heap.length (.var (encH cues X[i]))) (st.heap.length+1) (.var (encH cues X[i]))).heap:=hX.setVar (by omega)
  rcases hcs with ⟨rfl,rfl⟩|⟨o,rfl,hbo⟩
  ·have hz1:(((0:Nat):Int)==0)=true:=rfl
   have hb1:bestF (fewer cues) (X.take (0+1))=some X[0]:=by rw [bestF_take _ _ hi];rfl
   refine go2 (bw9 hl1 j1 j6 j9 hia hz1 ho hE (n4 ll)) fnil ?_
   exact ⟨hX2,by simp only [lo_setVar,lo_push];omega,by simp only [lo_setVar,lo_push,len_setVar,len_push];omega,(sG (bw hz0 (n4 lz))),_,(sG (n4 ll)),.inr ⟨X[0],rfl,hb1⟩⟩
  ·have hi0:i≠0:=by rintro rfl;simp [bestF] at hbo
   have hd0:((i:Int)==0)=false:=by simp;omega
   have hcall:=fun st=>c36 (elL X[i]) (elL o) (el_isCell _) (el_isCell _) (apart X[i] cues:Nat) (apart o cues:Nat) st
   have hnx:=bestF_take (fewer cues) X hi
   rw [hbo] at hnx
   simp only at hnx
   cases hbt:decide ((apart X[i] cues:Int)<(apart o cues:Int))
   ·have hf:fewer cues X[i] o=false:=hbt
    rw [hf] at hnx
    refine go2 (bw10 hl1 j1 j6 j9 hia hd0 ho hbt hE (n4 ll)) (bw hcall fnil) ?_
    exact ⟨hX,by simp only [lo_setVar,lo_push];omega,by simp only [lo_setVar,lo_push,len_setVar,len_push];omega,(sG (bw hz0 (n4 lz))),_,(sG (bw ho (n4 ll))),.inr ⟨o,rfl,hnx⟩⟩
   ·have hf:fewer cues X[i] o=true:=hbt
    rw [hf] at hnx
    refine go2 (bw10 hl1 j1 j6 j9 hia hd0 ho hbt hE (n4 ll)) (bw hcall fnil) ?_
    exact ⟨hX2,by simp only [lo_setVar,lo_push];omega,by simp only [lo_setVar,lo_push,len_setVar,len_push];omega,(sG (bw hz0 (n4 lz))),_,(sG (n4 ll)),.inr ⟨X[i],rfl,hnx⟩⟩
 ·rintro tm1 st1 ⟨hx,hlo,hwf,hz0,cs,ho,hcs⟩ hS
  have hl1:tm1.length=30:=lN hS hl;have j0:tg tm1 0=F:=tQ hS (bw hl h0);have j4:tg tm1 4 = .ptr st.heap.length 0:=tQ hS (bw hl h0);have j6:tg tm1 6 = .ptr (st.heap.length+1) 0:=tQ hS (bw hl h0);clear hS
  have ll:=hp_lt ho
  have lz:=hp_lt hz0
  obtain ⟨o,rfl,hbo⟩:∃ o,cs=encH cues o∧bestF (fewer cues) X=some o:=by
   rcases hcs with ⟨h,_⟩|⟨o,h1,h2⟩
   ·omega
   ·exact ⟨o,h1,by rwa [List.take_length] at h2⟩
  have hgt:decide ((X.length:Int)>0)=true:=by simp;omega
  refine go2 (bw11 hl1 j0 j4 j6 hs ho hz0 hgt hE (n4 ll) (n4 lz)) fnil ?_
  refine fX (.tuple [.agg (encH cues o),.bool true]) (bw5 hl1 j4 hz0 (n4 ll) (n4 lz)) ?_
  obtain ⟨e1,e2⟩:=finish_keepT (st:=st) (st1:=setVar st1 st.heap.length (.var (encH cues o))) (vs:=[.agg (encH cues o),.bool true]) (by rfl) (by simp only [lo_setVar];omega) (hx.setVar (by omega))
  exact ⟨o,hbo,e1,e2⟩
end Go.Den.Tq
end
section
namespace Go.Den.Tq
open Go.Den.Tp Go.Den.Ve
set_option maxHeartbeats 4000000 in
theorem c11 (b:QB) (hN:SmQ b) (hb:qbB b=true) (n:Nat) (hn:n<b.vs.length) (CU TU:PV) (cues tu:List Int) (hC:SlOf 1 encI CU cues) (hT:SlOf 1 encI TU tu) (h8:cues.length≤8) (hin:InC b.cues cues) (hhd:heardB b tu=true) (hlen:cues.length=tu.length) (hne:hitsL (b.vs[n]).t tu b.cues.toNat≠[]) (hX9:(hitsL (b.vs[n]).t tu b.cues.toNat).length<1000000) (st:St) :
  ClR EE (.func 11 [] []) [b.pv,iv n,CU,TU] st (fun v st'=>∃ P o,bestF (fewer cues) (hitsL (b.vs[n]).t tu b.cues.toNat)=some o∧v = .tuple [P,iv (apart o cues:Nat),iv 0]∧Keep st st'):=by
 have hCs:=hC.slen
 have hCc:=hC.cells
 have hCi:=hC.isCell
 have hTs:=hT.slen
 have hTc:=hT.cells
 have hTi:=hT.isCell
 have hE:∀ x,(elL x).isCell=true:=el_isCell
 have hq:=hb
 simp only [qbB,Bool.and_eq_true,List.all_eq_true] at hq
 obtain ⟨hc,ht,hv,hall⟩:=hq
 have hV:=okV_iff.1 (hall _ (List.getElem_mem hn))
 have k28:=fun st=>c28 b hN st
 have k29:=fun st=>c29 b hN n st
 have k30:=fun st=>c30 b hc CU cues hC st
 have k33:=fun st=>c33 b ht TU tu hT st
 have k34:=fun st=>c34 b n TU hTc st
 have hB:inN (n:Int) 0 ((b.vs.length:Int) - 1)=true:=by simp only [inN,Bool.and_eq_true,decide_eq_true_eq];omega
 have hCu:cuesB b cues=true:=by
  simp only [cuesB,Bool.and_eq_true,decide_eq_true_eq,List.all_eq_true,inN]
  exact ⟨h8,fun c hc=>by have:=hin c hc;omega⟩
 have hle:((cues.length:Int) != (tu.length:Int))=false:=by simp;omega
 simp only [inN,Bool.and_eq_true,decide_eq_true_eq] at hc
 obtain ⟨wd,hwd⟩:∃ wd:Nat,b.cues=wd:=⟨b.cues.toNat,by omega⟩
 have hw:b.cues.toNat=wd:=by omega
 rw [hw] at hne hX9 ⊢
 generalize hX:hitsL (b.vs[n]).t tu wd=X at hne hX9 ⊢
 have hmem:∀ x∈X,x.length=cues.length:=by
  intro x hx
  rw [← hX] at hx
  rw [(mem_lists.1 (List.mem_filter.1 hx).1).1,hlen]
 refine clr_fn (pr11 · _ _) fn11 4 rfl (by decide) (fun tm hl hg=>?_);have h0:tg tm 0=b.pv:=(hg 0 (by decide));have h1:tg tm 1=iv n:=(hg 1 (by decide));have h2:tg tm 2=CU:=(hg 2 (by decide));have h3:tg tm 3=TU:=(hg 3 (by decide));clear hg
 refine go2 (bw14 hl h0 h1 h2 h3 hCs hCc hCi hTs hb hB hCu hhd hle) (bw6 k28 k29 k30 k33 k34 fnil) ?_
 apply wp_block
 refine wp_rangeV (X:=X) (Rep:=RepL) (g:=76) (fa:=[]) (fc:=[.ptr (st.heap.length+3) 0,.ptr (st.heap.length+5) 0,.ptr (st.heap.length+4) 0]) (priv:=fun l=>l=st.heap.length+3∨l=st.heap.length+5∨l=st.heap.length+4) [st.heap.length+2] st.heap.length (fun i L=>∃ v,OwnP st.heap.length 2 v i ((X.take i).flatMap (encH cues))∧L=[(st.heap.length+1,.var [CU]),(st.heap.length+2,.var [v])]++tagL v) (fun _ _=>False) (sG hl) (fun o=>?_) (sG hl) (fun l hl=>by simp only [List.mem_singleton,len_push];omega) (fun l hl=>by simp only [List.mem_singleton] at hl;simp only [len_push];omega) (by simp only [lo_push];omega) (by simp only [lo_push,len_push];omega) ⟨_,?_,.nilslice,.nil,rfl⟩ ?_ ?_ ?_
 ·rw [← hX]
  exact iter76 hwd (by omega) hn hV hT (by omega) (by rw [hX];exact hne) (sG fnil) (sG fnil) (sG fnil)
 ·exact .cons (sG fnil) rfl (.cons (sG fnil) rfl (.nil _))
 ·rintro i hi x s0 L hx hH' ⟨v,hv,rfl⟩ he hwf hlt
  have hH:Has s0.heap ([(st.heap.length+1,.var [CU]),(st.heap.length+2,.var [v])]++tagL v):=hH'
  simp only [len_push] at hlt
  have d1:=hH.left.hp (l:=st.heap.length+1) (o := .var [CU]) (by simp)
  have d2:=hH.left.hp (l:=st.heap.length+2) (o := .var [v]) (by simp)
  have hO:=hv.own hH.right
  have ld1:=hp_lt d1
  have ld2:=hp_lt d2
  have hxm:=hmem _ (List.getElem_mem hi)
  have hxs:=hx.1.slen
  have hxc:=hx.1.cells
  have hxi:=hx.1.isCell
  have hxh:=hx.1
  refine go2 (bw8 hl d1 d2 hxs hxc hxi (n4 ld1) (n4 ld2)) fnil ?_
  refine wp_range (X[i]).length [] (fun k vs s=>HExt s0.heap s.heap∧s.lo=s0.lo∧s0.heap.length<s.heap.length∧hp s s0.heap.length=some (.var [x,iv (apart ((X[i]).take k) (cues.take k):Nat)])) (by omega) (sG hl) (sG hl) (sG hl) (by decide) ⟨?_,by simp only [lo_setVar,lo_push];omega,by simp only [len_setVar,len_push];omega,(sR fnil)⟩ ?_ ?_
  ·exact ((HExt.push s0 _).setVar (Nat.le_refl _))
  ·rintro k hk tm1 s1 ⟨hx1,hlo1,hlt1,hp1⟩ hS hka
   have hk2:k<cues.length:=by omega
   have hl1:tm1.length=86:=lN hS hl;have j6:tg tm1 6 = .ptr (st.heap.length+1) 0:=tQ hS hl;have j13:tg tm1 13 = .ptr s0.heap.length 0:=tQ hS hl;have j53:tg tm1 53=x:=tQ hS hl;clear hS
   have f1:=hx1.hp d1
   have lf1:=hp_lt f1
   have hap:=apart_le ((X[i]).take k) (cues.take k)
   rw [List.length_take] at hap
   have hw1:=wrapS (n:=apart ((X[i]).take k) (cues.take k)) (by omega)
   cases hd:((X[i])[k] != cues[k])
   ·have hde:(X[i])[k]=cues[k]:=by simpa using hd
    refine go2 (bw10 hl1 j6 j13 j53 hka f1 hp1 hd (n4 lf1) (n4 hlt1)) fnil ?_
    refine ⟨hx1,hlo1,hlt1,?_⟩
    rw [apart_take hk hk2,if_pos hde]
    exact hp1
   ·have hde:¬ (X[i])[k]=cues[k]:=by simpa using hd
    refine go2 (bw11 hl1 j6 j13 j53 hka f1 hp1 hd hw1 (n4 lf1) (n4 hlt1)) fnil ?_
    refine ⟨hx1.setVar (Nat.le_refl _),by simp only [lo_setVar];omega,by simp only [len_setVar];omega,?_⟩
    rw [apart_take hk hk2,if_neg hde]
    simp only [↓reduceIte,go_sem,n4 hlt1]
  ·rintro tm1 s1 ⟨hx1,hlo1,hlt1,hp1⟩ hS
   rw [List.take_length,hxm,List.take_length] at hp1
   have hl1:tm1.length=86:=lN hS hl;have j11:tg tm1 11 = .ptr (st.heap.length+2) 0:=tQ hS hl;have j13:tg tm1 13 = .ptr s0.heap.length 0:=tQ hS hl;clear hS
   have f1:=hx1.hp d1
   have f2:=hx1.hp d2
   have lf2:=hp_lt f2
   have hsh:=hx.2
   refine go2 (bw8 hl1 j11 j13 f2 hp1 hsh (n4 lf2) (n4 hlt1)) fnil ?_
   have hO1:OwnS st.heap.length s1 2 v i ((X.take i).flatMap (encH cues)):=OwnS.hext hO hx1
   refine wops_append rfl rfl (sR hl1) (sR (bw hl1 hsh)) hO1.push rfl (by simp only [len_push];omega) (by rfl) (by simp only [List.all_cons,List.all_nil,el_isCell,isCell_int,Bool.and_true]) (by simp only [maxList];omega) ?_
   intro v' s3 hO3 hF3 hk3
   have e1:hp s3 (st.heap.length+1)=some (.var [CU]):=hk3 _ _ (by rw [hp_push,if_neg (by have:=hp_lt f1;omega)];exact f1) (by simp)
   have e2:hp s3 (st.heap.length+2)=some (.var [v]):=hk3 _ _ (by rw [hp_push,if_neg (by omega)];exact f2) (by simp)
   have le2:=hp_lt e2
   have v1:=sl_cells hO3.sl
   have v2:=sl_isCell hO3.sl
   have kA:KeepV (fun l=>l∈[st.heap.length+2]) s0.heap s3.heap:=((hx1.keep _).kpush).trans (keep_app hk3 hF3.len)
   have z1:=hF3.lo
   have z2:=hF3.up
   have z3:=hF3.len
   simp only [lo_push,len_push] at z1 z2 z3
   refine go2 (bw6 hl1 j11 e2 v1 v2 (n4 le2)) fnil ?_
   obtain ⟨r1,r2⟩:=(own_var (o := .var [v']) hO3 e2).p
   refine ⟨kA.kset (.inl (by simp)),by rw [lo_setVar];omega,by rw [lo_setVar,len_setVar];omega,trivial,_,.app (.cons (by rw [hp_setVar,if_neg (by omega)];exact e1) rfl (.cons (by rw [hp_setVar,if_pos rfl,if_pos le2]) rfl (.nil _))) r2,v',?_,rfl⟩
   rw [List.take_succ_eq_append_getElem hi,List.flatMap_append,List.flatMap_singleton]
   have:[elL X[i],PV.int .i64 (apart X[i] cues:Nat)].map PV.share=encH cues X[i]:=by simp only [List.map_cons,List.map_nil,el_share,share_int]
   rw [← this]
   exact r1
 ·rintro s4 L hH' ⟨v,hv,rfl⟩ k4 he hwf
  have hH:Has s4.heap ([(st.heap.length+1,.var [CU]),(st.heap.length+2,.var [v])]++tagL v):=hH'
  have d2:=hH.left.hp (l:=st.heap.length+2) (o := .var [v]) (by simp)
  have hO:=hv.own hH.right
  rw [List.take_length] at hO
  have hF:SlOf 2 (encH cues) v X:=SlOf.of_sl hO.sl rfl rfl (fun _=>rfl)
  have hcall:=c35 cues v X hF (List.length_pos_iff.2 hne) hX9 s4
  apply inBlock_normal
  refine go2 (bw hl d2) fnil ?_
  refine cR hl (hcall) ?_
  rintro u s5 ⟨o,hbo,rfl,hk5⟩
  have hlo5:=hk5.2
  refine go2 (bw hl hE) fnil ?_
  refine fX (.tuple [elL o,iv (apart o cues:Nat),iv 0]) hl ?_
  have hk1:=hk5.len
  obtain ⟨P,e1,e2⟩:=finish_slT (st:=st) (st1:=setVar (s5.push (.var [.nilslice,iv 0])) s5.heap.length (.var (encH cues o))) (vs:=[iv (apart o cues:Nat),iv 0]) (el_sl o).sl (by rfl) (by simp only [lo_setVar,lo_push];omega) (fun m=>ints_low _ m)
  exact ⟨P,o,hbo,e1,keepW e2⟩
 ·intro j st' L _ h
  exact h.elim
end Go.Den.Tq
end
section
namespace Go.Den.Tq
open Go.Den.Tp Go.Den.Ve
theorem c20 (F G:PV) (l m:List Int) (hF:SlOf 1 encI F l) (hG:SlOf 1 encI G m) (hN:l.length<1000000) (st:St):Cl EE (.func 20 [] []) [F,G] st (.ret (.bool (l==m))) st:=by
 have hFs:=hF.slen
 have hGs:=hG.slen
 refine cF2 pr20 fn20 (fun tm hl h0 h1=>?_)
 cases hd:((l.length:Int) != (m.length:Int))
 ·have hlm:l.length=m.length:=by have:=bne_eq_false_iff_eq.1 hd;omega
  refine go2 (bw6 hl h0 h1 hFs hGs hd) fnil ?_
  refine wp_for [5] (fun i vs st1=>vs=[iv i]∧i≤l.length∧l.take i=m.take i∧st1={ heap:=st.heap,lo:=st.heap.length }) (fun i=>l.length - i) ⟨(sR hl),Nat.zero_le _,rfl,rfl⟩ ?_
  rintro i tm1 st1 ⟨hv,hi,ht,rfl⟩ hS
  simp only [List.map_cons,List.map_nil,List.cons.injEq,and_true] at hv
  have hl1:tm1.length=26:=lN hS hl;have i0:tg tm1 0=F:=tQ hS (bw3 hl h0 h1);have i1:tg tm1 1=G:=tQ hS (bw3 hl h0 h1);clear hS
  refine go2 (bw4 hl1 hv i0 hFs) fnil ?_
  refine ⟨decide ((i:Int)<l.length),(sG hl1),fun hb=>?_,fun hb=>?_⟩
  ·have hlt:=of_decide_eq_false hb
   have hin:i=l.length:=by omega
   have e:(l==m)=true:=by rw [beq_iff_eq];exact eq_of_take hlm (by rw [← hin];exact ht)
   rw [e]
   refine go2 hl1 fnil ?_
   exact fQ hl1
  ·have hlt:i<l.length:=by have:=of_decide_eq_true hb;omega
   have hlt2:i<m.length:=by omega
   have hw1:IntKind.wrap .i64 ((i:Int)+1)=((i+1:Nat):Int):=wrap_nat (n:=i+1) (by omega)
   refine ⟨by omega,?_⟩
   cases hx:(l[i] != m[i])
   ·refine go2 (bw6 hl1 hv i0 i1 hw1 hx) fnil ?_
    exact ⟨(sG hl1),by omega,take_snoc_eq hlt hlt2 ht (bne_eq_false_iff_eq.1 hx),rfl⟩
   ·have e:(l==m)=false:=by
     rw [beq_eq_false_iff_ne]
     intro e
     subst e
     simp at hx
    rw [e]
    refine go2 (bw5 hl1 hv i0 i1 hx) fnil ?_
    exact fQ hl1
 ·have e:(l==m)=false:=by
   rw [beq_eq_false_iff_ne]
   intro e
   subst e
   simp at hd
  rw [e]
  refine go2 (bw6 hl h0 h1 hFs hGs hd) fnil ?_
  exact fQ hl
end Go.Den.Tq
end
section
namespace Go.Den.Tq
open Go.Den.Tp Go.Den.Ve
theorem lev_apart:∀ {l m:List Int},l.length=m.length→lev l m≤apart l m
 | [],[],_=>by rw [lev_self];exact Nat.zero_le _
 | a::l,b::m,h=>by
  have:=lev_apart (l:=l) (m:=m) (by simpa using h)
  rw [lev_cons]
  simp only [apart]
  omega
theorem apart_symm:∀ l m:List Int,apart l m=apart m l
 | [],[]=>rfl
 | [],_::_=>rfl
 | _::_,[]=>rfl
 | a::l,b::m=>by
  simp only [apart,apart_symm l m]
  congr 1
  by_cases h:a=b
  ·rw [if_pos h,if_pos h.symm]
  ·rw [if_neg h,if_neg (fun e=>h e.symm)]
theorem apart_self:∀ l:List Int,apart l l=0
 | []=>rfl
 | a::l=>by simp only [apart,apart_self l,if_true]
theorem apart_zero:∀ {l m:List Int},l.length=m.length→apart l m=0→l=m
 | [],[],_,_=>rfl
 | a::l,b::m,h,h0=>by
  simp only [apart] at h0
  have h1:apart l m=0:=by omega
  have h2:a=b:=by
   by_cases e:a=b
   ·exact e
   ·rw [if_neg e] at h0;omega
  rw [h2,apart_zero (by simpa using h) h1]
theorem notedB_iff {t h:List Int} (hlen:t.length=h.length) (h0:∀ x∈h,0≤x):notedB t h=true↔t=h:=by
 unfold notedB
 rw [List.all_eq_true]
 constructor
 ·intro hh
  refine List.ext_getElem hlen fun i h1 h2=>?_
  have:=hh i (by simpa using h2)
  rw [getD_at h2,getD_at h1] at this
  have hz:=h0 _ (List.getElem_mem h2)
  simpa [hz] using this
 ·rintro rfl i _
  simp
theorem bestF_least {cues:List Int} {X:List (List Int)}:∀ {i:Nat} {o:List Int},i≤X.length→bestF (fewer cues) (X.take i)=some o→∀ k,∀ hk:k<X.length,k<i→apart o cues≤apart X[k] cues:=by
 intro i
 induction i with
 | zero=>intro o _ _ k _ hk;omega
 | succ i ih =>
  intro o hi h k hk hki
  rw [bestF_take _ _ (by omega)] at h
  split at h
  ·rename_i hb
   cases h
   by_cases hke:k=i
   ·subst hke;exact Nat.le_refl _
   ·exfalso
    have:i=0:=by
     cases i with
     | zero=>rfl
     | succ j =>
      rw [bestF_take _ _ (by omega)] at hb
      split at hb
      ·cases hb
      ·split at hb <;> cases hb
    omega
  ·rename_i o' hb
   have hall:=ih (by omega) hb
   split at h
   ·rename_i hf
    cases h
    simp only [fewer,decide_eq_true_eq] at hf
    by_cases hke:k=i
    ·subst hke;exact Nat.le_refl _
    ·have:=hall k hk (by omega)
     omega
   ·rename_i hf
    cases h
    simp only [fewer,decide_eq_true_eq] at hf
    by_cases hke:k=i
    ·subst hke;omega
    ·exact hall k hk (by omega)
theorem noted_law {x:VP} {cu tn:Int} (hV:OkV cu tn x) {wd:Nat} (hwd:cu=(wd:Int)) {cues heard:List Int} (hc:InC cu cues) (hh:InC cu heard) (hlen:heard.length=cues.length) :
  hitsL x.t (plays x.t 0 heard) wd≠[]∧∀ o,bestF (fewer cues) (hitsL x.t (plays x.t 0 heard) wd)=some o →
   (apart o cues≤apart cues heard∧(apart o cues=0↔plays x.t 0 cues=plays x.t 0 heard)):=by
 have hq0:=hV.tunes heard hh
 have hql:(plays x.t 0 heard).length=heard.length:=plays_len _ _ _
 have hmem:∀ l,InC cu l→l.length=heard.length→plays x.t 0 l=plays x.t 0 heard→l∈hitsL x.t (plays x.t 0 heard) wd:=by
  intro l hl hll he
  unfold hitsL
  rw [List.mem_filter]
  refine ⟨mem_lists.2 ⟨by omega,fun c hc=>by have:=hl c hc;omega⟩,?_⟩
  unfold hitP
  rw [he]
  exact (notedB_iff rfl (fun t ht=>(hq0 t ht).1)).2 rfl
 have h1:=hmem heard hh rfl rfl
 refine ⟨List.ne_nil_of_mem h1,fun o ho=>?_⟩
 have ho':bestF (fewer cues) ((hitsL x.t (plays x.t 0 heard) wd).take (hitsL x.t (plays x.t 0 heard) wd).length)=some o:=by rw [List.take_length];exact ho
 have hleast:=bestF_least (Nat.le_refl _) ho'
 have hom:=bestF_mem _ _ (Nat.le_refl _) ho'
 have hall:∀ l∈hitsL x.t (plays x.t 0 heard) wd,apart o cues≤apart l cues:=by
  intro l hl
  obtain ⟨k,hk,rfl⟩:=List.getElem_of_mem hl
  exact hleast k hk hk
 unfold hitsL at hom
 rw [List.mem_filter] at hom
 obtain ⟨hom1,hom2⟩:=hom
 obtain ⟨hol,hoc⟩:=mem_lists.1 hom1
 refine ⟨by rw [apart_symm cues heard];exact hall _ h1,fun h0=>?_,fun he=>?_⟩
 ·have:o=cues:=apart_zero (by omega) h0
  subst this
  unfold hitP at hom2
  exact (notedB_iff (by rw [plays_len,plays_len];omega) (fun t ht=>(hq0 t ht).1)).1 hom2
 ·have:=hall cues (hmem cues hc (by omega) he)
  rw [apart_self] at this
  omega
end Go.Den.Tq
end
section
namespace Go.Den.Tp
open Go.Proofs
set_option maxRecDepth 100000
def mu0:TypeId→Bool:=fun _=>false
theorem en3:funcC Try.prog mu0 Try.f3=some den3:=by kernel_rfl
theorem en5:funcC Try.prog mu0 Try.f5=some den5:=by kernel_rfl
theorem en6:funcC Try.prog mu0 Try.f6=some den6:=by kernel_rfl
theorem en7:funcC Try.prog mu0 Try.f7=some den7:=by kernel_rfl
theorem en8:funcC Try.prog mu0 Try.f8=some den8:=by kernel_rfl
theorem en9:funcC Try.prog mu0 Try.f9=some den9:=by kernel_rfl
theorem en10:funcC Try.prog mu0 Try.f10=some den10:=by kernel_rfl
theorem en11:funcC Try.prog mu0 Try.f11=some den11:=by kernel_rfl
theorem en12:funcC Try.prog mu0 Try.f12=some den12:=by kernel_rfl
theorem en13:funcC Try.prog mu0 Try.f13=some den13:=by kernel_rfl
theorem en20:funcC Try.prog mu0 Try.f20=some den20:=by kernel_rfl
theorem en21:funcC Try.prog mu0 Try.f21=some den21:=by kernel_rfl
theorem en22:funcC Try.prog mu0 Try.f22=some den22:=by kernel_rfl
theorem en23:funcC Try.prog mu0 Try.f23=some den23:=by kernel_rfl
theorem en24:funcC Try.prog mu0 Try.f24=some den24:=by kernel_rfl
theorem en25:funcC Try.prog mu0 Try.f25=some den25:=by kernel_rfl
theorem en26:funcC Try.prog mu0 Try.f26=some den26:=by kernel_rfl
theorem en27:funcC Try.prog mu0 Try.f27=some den27:=by kernel_rfl
theorem en28:funcC Try.prog mu0 Try.f28=some den28:=by kernel_rfl
theorem en29:funcC Try.prog mu0 Try.f29=some den29:=by kernel_rfl
theorem en30:funcC Try.prog mu0 Try.f30=some den30:=by kernel_rfl
theorem en31:funcC Try.prog mu0 Try.f31=some den31:=by kernel_rfl
theorem en32:funcC Try.prog mu0 Try.f32=some den32:=by kernel_rfl
theorem en33:funcC Try.prog mu0 Try.f33=some den33:=by kernel_rfl
theorem en34:funcC Try.prog mu0 Try.f34=some den34:=by kernel_rfl
theorem en35:funcC Try.prog mu0 Try.f35=some den35:=by kernel_rfl
theorem en36:funcC Try.prog mu0 Try.f36=some den36:=by kernel_rfl
theorem en37:funcC Try.prog mu0 Try.f37=some den37:=by kernel_rfl
theorem en38:funcC Try.prog mu0 Try.f38=some den38:=by kernel_rfl
theorem en39:funcC Try.prog mu0 Try.f39=some den39:=by kernel_rfl
theorem en47:funcC Try.prog mu0 Try.f47=some den47:=by kernel_rfl
theorem en48:funcC Try.prog mu0 Try.f48=some den48:=by kernel_rfl
theorem en49:funcC Try.prog mu0 Try.f49=some den49:=by kernel_rfl
theorem en51:funcC Try.prog mu0 Try.f51=some den51:=by kernel_rfl
theorem en55:funcC Try.prog mu0 Try.f55=some den55:=by kernel_rfl
theorem en56:funcC Try.prog mu0 Try.f56=some den56:=by kernel_rfl
theorem en57:funcC Try.prog mu0 Try.f57=some den57:=by kernel_rfl
theorem en58:funcC Try.prog mu0 Try.f58=some den58:=by kernel_rfl
theorem en59:funcC Try.prog mu0 Try.f59=some den59:=by kernel_rfl
theorem en60:funcC Try.prog mu0 Try.f60=some den60:=by kernel_rfl
theorem en61:funcC Try.prog mu0 Try.f61=some den61:=by kernel_rfl
theorem en62:funcC Try.prog mu0 Try.f62=some den62:=by kernel_rfl
theorem en63:funcC Try.prog mu0 Try.f63=some den63:=by kernel_rfl
theorem en64:funcC Try.prog mu0 Try.f64=some den64:=by kernel_rfl
theorem en65:funcC Try.prog mu0 Try.f65=some den65:=by kernel_rfl
theorem en66:funcC Try.prog mu0 Try.f66=some den66:=by kernel_rfl
theorem en67:funcC Try.prog mu0 Try.f67=some den67:=by kernel_rfl
theorem en68:funcC Try.prog mu0 Try.f68=some den68:=by kernel_rfl
theorem en69:funcC Try.prog mu0 Try.f69=some den69:=by kernel_rfl
theorem en70:funcC Try.prog mu0 Try.f70=some den70:=by kernel_rfl
theorem en71:funcC Try.prog mu0 Try.f71=some den71:=by kernel_rfl
theorem en72:funcC Try.prog mu0 Try.f72=some den72:=by kernel_rfl
theorem en73:funcC Try.prog mu0 Try.f73=some den73:=by kernel_rfl
theorem en74:funcC Try.prog mu0 Try.f74=some den74:=by kernel_rfl
theorem en75:funcC Try.prog mu0 Try.f75=some den75:=by kernel_rfl
theorem en76:funcC Try.prog mu0 Try.f76=some den76:=by kernel_rfl
theorem en77:funcC Try.prog mu0 Try.f77=some den77:=by kernel_rfl
theorem en78:funcC Try.prog mu0 Try.f78=some den78:=by kernel_rfl
theorem en79:funcC Try.prog mu0 Try.f79=some den79:=by kernel_rfl
theorem en80:funcC Try.prog mu0 Try.f80=some den80:=by kernel_rfl
theorem en81:funcC Try.prog mu0 Try.f81=some den81:=by kernel_rfl
theorem en82:funcC Try.prog mu0 Try.f82=some den82:=by kernel_rfl
theorem en83:funcC Try.prog mu0 Try.f83=some den83:=by kernel_rfl
theorem en89:funcC Try.prog mu0 Try.f89=some den89:=by kernel_rfl
theorem en97:funcC Try.prog mu0 Try.f97=some den97:=by kernel_rfl
theorem en98:funcC Try.prog mu0 Try.f98=some den98:=by kernel_rfl
theorem en99:funcC Try.prog mu0 Try.f99=some den99:=by kernel_rfl
theorem en100:funcC Try.prog mu0 Try.f100=some den100:=by kernel_rfl
theorem en101:funcC Try.prog mu0 Try.f101=some den101:=by kernel_rfl
theorem en102:funcC Try.prog mu0 Try.f102=some den102:=by kernel_rfl
theorem en103:funcC Try.prog mu0 Try.f103=some den103:=by kernel_rfl
theorem en104:funcC Try.prog mu0 Try.f104=some den104:=by kernel_rfl
theorem en105:funcC Try.prog mu0 Try.f105=some den105:=by kernel_rfl
theorem en108:funcC Try.prog mu0 Try.f108=some den108:=by kernel_rfl
theorem en109:funcC Try.prog mu0 Try.f109=some den109:=by kernel_rfl
theorem en110:funcC Try.prog mu0 Try.f110=some den110:=by kernel_rfl
theorem en111:funcC Try.prog mu0 Try.f111=some den111:=by kernel_rfl
theorem en112:funcC Try.prog mu0 Try.f112=some den112:=by kernel_rfl
theorem en113:funcC Try.prog mu0 Try.f113=some den113:=by kernel_rfl
theorem en114:funcC Try.prog mu0 Try.f114=some den114:=by kernel_rfl
theorem en115:funcC Try.prog mu0 Try.f115=some den115:=by kernel_rfl
theorem en116:funcC Try.prog mu0 Try.f116=some den116:=by kernel_rfl
theorem en117:funcC Try.prog mu0 Try.f117=some den117:=by kernel_rfl
theorem en118:funcC Try.prog mu0 Try.f118=some den118:=by kernel_rfl
theorem en119:funcC Try.prog mu0 Try.f119=some den119:=by kernel_rfl
theorem en120:funcC Try.prog mu0 Try.f120=some den120:=by kernel_rfl
theorem en121:funcC Try.prog mu0 Try.f121=some den121:=by kernel_rfl
theorem en122:funcC Try.prog mu0 Try.f122=some den122:=by kernel_rfl
theorem en123:funcC Try.prog mu0 Try.f123=some den123:=by kernel_rfl
theorem en124:funcC Try.prog mu0 Try.f124=some den124:=by kernel_rfl
theorem en132:funcC Try.prog mu0 Try.f132=some den132:=by kernel_rfl
theorem en133:funcC Try.prog mu0 Try.f133=some den133:=by kernel_rfl
theorem en134:funcC Try.prog mu0 Try.f134=some den134:=by kernel_rfl
theorem en135:funcC Try.prog mu0 Try.f135=some den135:=by kernel_rfl
theorem en136:funcC Try.prog mu0 Try.f136=some den136:=by kernel_rfl
theorem en137:funcC Try.prog mu0 Try.f137=some den137:=by kernel_rfl
theorem en138:funcC Try.prog mu0 Try.f138=some den138:=by kernel_rfl
theorem en139:funcC Try.prog mu0 Try.f139=some den139:=by kernel_rfl
theorem en140:funcC Try.prog mu0 Try.f140=some den140:=by kernel_rfl
theorem en_of {g:Nat} {df df':DFunc} {fn:Func} {mu:TypeId→Bool} (h:some df'=some df) (h1:Try.prog.funcs[g]? = some fn) (h2:funcC Try.prog mu fn=some df') (h3:(fn.name== "runtime.NumGoroutine")=false):∃ fn mu,Try.prog.funcs[g]? = some fn∧funcC Try.prog mu fn=some df∧(fn.name== "runtime.NumGoroutine")=false:=by
 cases h
 exact ⟨fn,mu,h1,h2,h3⟩
theorem envFn:EnvFn Try.prog EE:=⟨fun g df h=>by
 have h:fnT g=some df:=h
 unfold fnT at h
 split at h
 ·exact en_of h Try.func3 en3 (by kernel_rfl)
 ·exact en_of h Try.func5 en5 (by kernel_rfl)
 ·exact en_of h Try.func6 en6 (by kernel_rfl)
 ·exact en_of h Try.func7 en7 (by kernel_rfl)
 ·exact en_of h Try.func8 en8 (by kernel_rfl)
 ·exact en_of h Try.func9 en9 (by kernel_rfl)
 ·exact en_of h Try.func10 en10 (by kernel_rfl)
 ·exact en_of h Try.func11 en11 (by kernel_rfl)
 ·exact en_of h Try.func12 en12 (by kernel_rfl)
 ·exact en_of h Try.func13 en13 (by kernel_rfl)
 ·exact en_of h Try.func20 en20 (by kernel_rfl)
 ·exact en_of h Try.func21 en21 (by kernel_rfl)
 ·exact en_of h Try.func22 en22 (by kernel_rfl)
 ·exact en_of h Try.func23 en23 (by kernel_rfl)
 ·exact en_of h Try.func24 en24 (by kernel_rfl)
 ·exact en_of h Try.func25 en25 (by kernel_rfl)
 ·exact en_of h Try.func26 en26 (by kernel_rfl)
 ·exact en_of h Try.func27 en27 (by kernel_rfl)
 ·exact en_of h Try.func28 en28 (by kernel_rfl)
 ·exact en_of h Try.func29 en29 (by kernel_rfl)
 ·exact en_of h Try.func30 en30 (by kernel_rfl)
 ·exact en_of h Try.func31 en31 (by kernel_rfl)
 ·exact en_of h Try.func32 en32 (by kernel_rfl)
 ·exact en_of h Try.func33 en33 (by kernel_rfl)
 ·exact en_of h Try.func34 en34 (by kernel_rfl)
 ·exact en_of h Try.func35 en35 (by kernel_rfl)
 ·exact en_of h Try.func36 en36 (by kernel_rfl)
 ·exact en_of h Try.func37 en37 (by kernel_rfl)
 ·exact en_of h Try.func38 en38 (by kernel_rfl)
 ·exact en_of h Try.func39 en39 (by kernel_rfl)
 ·exact en_of h Try.func47 en47 (by kernel_rfl)
 ·exact en_of h Try.func48 en48 (by kernel_rfl)
 ·exact en_of h Try.func49 en49 (by kernel_rfl)
 ·exact en_of h Try.func51 en51 (by kernel_rfl)
 ·exact en_of h Try.func55 en55 (by kernel_rfl)
 ·exact en_of h Try.func56 en56 (by kernel_rfl)
 ·exact en_of h Try.func57 en57 (by kernel_rfl)
 ·exact en_of h Try.func58 en58 (by kernel_rfl)
 ·exact en_of h Try.func59 en59 (by kernel_rfl)
 ·exact en_of h Try.func60 en60 (by kernel_rfl)
 ·exact en_of h Try.func61 en61 (by kernel_rfl)
 ·exact en_of h Try.func62 en62 (by kernel_rfl)
 ·exact en_of h Try.func63 en63 (by kernel_rfl)
 ·exact en_of h Try.func64 en64 (by kernel_rfl)
 ·exact en_of h Try.func65 en65 (by kernel_rfl)
 ·exact en_of h Try.func66 en66 (by kernel_rfl)
 ·exact en_of h Try.func67 en67 (by kernel_rfl)
 ·exact en_of h Try.func68 en68 (by kernel_rfl)
 ·exact en_of h Try.func69 en69 (by kernel_rfl)
 ·exact en_of h Try.func70 en70 (by kernel_rfl)
 ·exact en_of h Try.func71 en71 (by kernel_rfl)
 ·exact en_of h Try.func72 en72 (by kernel_rfl)
 ·exact en_of h Try.func73 en73 (by kernel_rfl)
 ·exact en_of h Try.func74 en74 (by kernel_rfl)
 ·exact en_of h Try.func75 en75 (by kernel_rfl)
 ·exact en_of h Try.func76 en76 (by kernel_rfl)
 ·exact en_of h Try.func77 en77 (by kernel_rfl)
 ·exact en_of h Try.func78 en78 (by kernel_rfl)
 ·exact en_of h Try.func79 en79 (by kernel_rfl)
 ·exact en_of h Try.func80 en80 (by kernel_rfl)
 ·exact en_of h Try.func81 en81 (by kernel_rfl)
 ·exact en_of h Try.func82 en82 (by kernel_rfl)
 ·exact en_of h Try.func83 en83 (by kernel_rfl)
 ·exact en_of h Try.func89 en89 (by kernel_rfl)
 ·exact en_of h Try.func97 en97 (by kernel_rfl)
 ·exact en_of h Try.func98 en98 (by kernel_rfl)
 ·exact en_of h Try.func99 en99 (by kernel_rfl)
 ·exact en_of h Try.func100 en100 (by kernel_rfl)
 ·exact en_of h Try.func101 en101 (by kernel_rfl)
 ·exact en_of h Try.func102 en102 (by kernel_rfl)
 ·exact en_of h Try.func103 en103 (by kernel_rfl)
 ·exact en_of h Try.func104 en104 (by kernel_rfl)
 ·exact en_of h Try.func105 en105 (by kernel_rfl)
 ·exact en_of h Try.func108 en108 (by kernel_rfl)
 ·exact en_of h Try.func109 en109 (by kernel_rfl)
 ·exact en_of h Try.func110 en110 (by kernel_rfl)
 ·exact en_of h Try.func111 en111 (by kernel_rfl)
 ·exact en_of h Try.func112 en112 (by kernel_rfl)
 ·exact en_of h Try.func113 en113 (by kernel_rfl)
 ·exact en_of h Try.func114 en114 (by kernel_rfl)
 ·exact en_of h Try.func115 en115 (by kernel_rfl)
 ·exact en_of h Try.func116 en116 (by kernel_rfl)
 ·exact en_of h Try.func117 en117 (by kernel_rfl)
 ·exact en_of h Try.func118 en118 (by kernel_rfl)
 ·exact en_of h Try.func119 en119 (by kernel_rfl)
 ·exact en_of h Try.func120 en120 (by kernel_rfl)
 ·exact en_of h Try.func121 en121 (by kernel_rfl)
 ·exact en_of h Try.func122 en122 (by kernel_rfl)
 ·exact en_of h Try.func123 en123 (by kernel_rfl)
 ·exact en_of h Try.func124 en124 (by kernel_rfl)
 ·exact en_of h Try.func132 en132 (by kernel_rfl)
 ·exact en_of h Try.func133 en133 (by kernel_rfl)
 ·exact en_of h Try.func134 en134 (by kernel_rfl)
 ·exact en_of h Try.func135 en135 (by kernel_rfl)
 ·exact en_of h Try.func136 en136 (by kernel_rfl)
 ·exact en_of h Try.func137 en137 (by kernel_rfl)
 ·exact en_of h Try.func138 en138 (by kernel_rfl)
 ·exact en_of h Try.func139 en139 (by kernel_rfl)
 ·exact en_of h Try.func140 en140 (by kernel_rfl)
 ·cases h⟩
theorem envOK:EnvOK Try.prog EE:=⟨fun t m f h v w=>by cases h⟩
theorem follows:Try.prog.follows .mixedOrders=true:=by kernel_rfl
end Go.Den.Tp
end
section
namespace Go.Den
variable {P:Program}
def gh0 (W:World):Gh:=⟨fun _=>none,fun _=>none,fun b=>match W.heap[b]? with
 | some (.cells arr _ _)=>some arr.size
 | _=>none⟩
theorem wr0 (W:World):WR P W.heap.size W (gh0 W) [] W:=by
 refine ⟨fun _=>⟨rfl,rfl⟩,fun h=>(by cases h),fun h=>(by cases h),fun h=>(by cases h),fun h=>(by cases h),fun {b n} h=>?_,⟨Nat.le_refl _,fun _ _=>rfl⟩,⟨rfl,rfl⟩⟩
 simp only [gh0] at h
 split at h
 ·rename_i arr T fr hb
  cases h
  exact ⟨arr,T,fr,hb,Nat.le_refl _⟩
 ·cases h
theorem vrc_of {G:Gh} {w:World}:∀ {cs:List PV} {b off:Nat},(∀ (j:Nat) (p:PV),cs[j]? = some p→∃ v,w.cell? ⟨b,off+j,none⟩=some v∧VR G w p v)→VRC G w cs b off
 | [],b,off,h=>by simp only [VRC]
 | c::cs,b,off,h=>by
  simp only [VRC]
  refine ⟨h 0 c rfl,vrc_of fun j p hj=>?_⟩
  obtain ⟨v,h1,h2⟩:=h (j+1) p (by simpa using hj)
  exact ⟨v,by rw [← h1];congr 2;omega,h2⟩
theorem cell_gh {W:World} {b i:Nat} {v:Value} (h:W.cell? ⟨b,i,none⟩=some v):∃ m,(gh0 W).cm b=some m∧i<m:=by
 unfold World.cell? at h
 split at h
 ·rename_i arr T fr hb
  refine ⟨arr.size,?_,?_⟩
  ·simp only [gh0]
   simp only at hb
   rw [hb]
  ·simp only [Option.isSome_none,Bool.false_eq_true,if_false] at h
   exact (Array.getElem?_eq_some_iff.1 h).1
 ·cases h
theorem vr_slice0 {W:World} {n cap b off:Nat} {cs:List PV} (hcap:n≤cap) (h:∀ (j:Nat) (p:PV),cs[j]? = some p→∃ v,W.cell? ⟨b,off+j,none⟩=some v∧VR (gh0 W) W p v):VR (gh0 W) W (.slice .shared n cs) (.slice (some ⟨b,off,none⟩) n cap):=by
 simp only [VR]
 refine .inl ⟨b,off,cap,rfl,hcap,fun hne=>?_,trivial,vrc_of h⟩
 have hl:cs.length - 1<cs.length:=by
  have:cs.length≠0:=by simpa using hne
  omega
 obtain ⟨v,h1,_⟩:=h (cs.length - 1) _ (List.getElem?_eq_getElem hl)
 obtain ⟨m,h2,h3⟩:=cell_gh h1
 exact ⟨m,h2,by omega⟩
theorem list_of {α:Type} {Q:Nat→α→Prop}:∀ (n:Nat),(∀ i,i<n→∃ a,Q i a)→∃ l:List α,l.length=n∧∀ (i:Nat) (a:α),l[i]? = some a→Q i a
 | 0,_=>⟨[],rfl,fun i a h=>by simp at h⟩
 | n+1,h=>by
  obtain ⟨l,h1,h2⟩:=list_of n (fun i hi=>h i (by omega))
  obtain ⟨a,ha⟩:=h n (by omega)
  refine ⟨l++[a],by simp [h1],fun i x hx=>?_⟩
  by_cases hi:i<n
  ·rw [List.getElem?_append_left (by omega)] at hx
   exact h2 i x hx
  ·have hlt:=(List.getElem?_eq_some_iff.1 hx).1
   simp [h1] at hlt
   have:i=n:=by omega
   subst this
   rw [List.getElem?_append_right (by omega),h1] at hx
   simp at hx
   subst hx
   exact ha
end Go.Den
namespace Go.Den.Ty
set_option maxRecDepth 100000
open Go.Proofs Go.ChangeShapes Go.WideShapes Go.Den.Ve
open Go.Den.Tp (EE follows envOK envFn)
section
variable {H:Type} {enc:TypeId×Value→H} {W:World} {base fuel:Nat} {d:DataW H} {ps:List MemPlace}
theorem in_ints {v:Value} (hok:Value.okWide Try.prog W .any base 25 v) (h:DataW.Trod enc Try.prog W 0 (fun _=>true) true 25 v d ps):∃ P l,VR (gh0 W) W P v∧SlOf 1 encI P l:=by
 obtain ⟨fuel,h⟩:=h
 have hcell:Cell.okWide Try.prog W .any base 25 v:=by
  unfold Value.okWide at hok
  rw [Try.underlying25] at hok
  exact hok
 have e1:Try.prog.cellsOf 3=1:=by kernel_rfl
 rcases open_ints Try.underlying25 Try.underlying3 e1 h with ⟨hv,_⟩|⟨a,len,cap,zs,hv,_,hl,_,hz,_,hc,_⟩
 ·have hv':v = .slice none 0 0:=by
   cases v with
   | agg cs=>exfalso;unfold Cell.okWide Cell.ok at hcell;rw [Try.underlying25] at hcell;exact hcell
   | slice p l c=>simpa [Value.cells] using hv
   | _=>simp [Value.cells] at hv
  subst hv'
  exact ⟨.nilslice,[],by simp only [VR],rfl,fun _ h=>by cases h⟩
 ·have hv':v = .slice (some a) len cap:=by
   cases v with
   | agg cs=>exfalso;unfold Cell.okWide Cell.ok at hcell;rw [Try.underlying25] at hcell;exact hcell
   | slice p l c=>simpa [Value.cells] using hv
   | _=>simp [Value.cells] at hv
  subst hv'
  have hsp:a.spot=none:=by
   unfold Cell.okWide Cell.ok at hcell
   rw [Try.underlying25] at hcell
   exact hcell.2.2.2.1
  obtain ⟨b,off,sp⟩:=a
  simp only at hsp
  subst hsp
  simp only [if_true] at hz
  refine ⟨.slice .shared len ((zs.take len).flatMap encI),zs.take len,vr_slice0 hl fun j p hj=>?_,?_,fun _ _=>rfl⟩
  ·rw [encI_map,List.getElem?_map] at hj
   obtain ⟨n,hn,rfl⟩:=Option.map_eq_some_iff.1 hj
   have hjl:=(List.getElem?_eq_some_iff.1 hn).1
   have hjz:j<zs.length:=by simp at hjl;omega
   have hget:zs.getD j 0=n:=by
    rw [List.getElem?_take] at hn
    split at hn
    ·rw [List.getD_eq_getElem?_getD,hn];rfl
    ·cases hn
   refine ⟨.int .i64 n,?_,by simp only [VR]⟩
   have:=hc j hjz
   rw [hget] at this
   rw [← this]
   unfold Addr.add
   by_cases h0:j=0
   ·subst h0;rfl
   ·rw [if_neg h0]
  ·simp only [PV.sl]
   congr 2
   simp;omega
end
theorem primOK0 {P:Program} {B0:Nat} {w0:World}:PrimOK P B0 w0 EE:=fun g rec args st r st' _ _ _ _ h=>by
 have h:(none:Option (Option (CR×St)))=some (some (r,st')):=h
 cases h
theorem primGrows0:PrimGrows EE:=fun g rec args st r st' _ _ h=>by
 have h:(none:Option (Option (CR×St)))=some (some (r,st')):=h
 cases h
theorem law_call {g:Nat} {args:List PV} {avs:Array Value} {W:World} (h:∀ st,Cl EE (.func g [] []) args st (.ret (.bool true)) st) (ha:VRL (gh0 W) W args avs.toList) :
  Calls Try.prog g avs W fun e W'=>e = .returned (.bool true)∧W.heap.size≤W'.heap.size∧(∀ b,b<W.heap.size→W'.heap[b]? = W.heap[b]?)∧W'.os=W.os∧W'.output=W.output:=by
 obtain ⟨N,hN⟩:=h { heap:=[],lo:=0 }
 have hs:=(run_ok (B0:=W.heap.size) (w0:=W) follows envOK envFn primOK0 primGrows0 N).1 _ _ _ _ _ (hN N (Nat.le_refl _)) (Nat.le_refl _)
 obtain ⟨_,hC⟩:=hs.2 (gh0 W) W (.func (.func g) #[] #[]) avs.toList (wr0 W) (by simp only [VR];exact ⟨_,_,rfl,VRL.nil_iff.2 rfl,VRL.nil_iff.2 rfl⟩) ha #[] #[] rfl
 have hC1:=callsIn_wide.1 (hC 0)
 have e:#[]++avs.toList.toArray++#[]=avs:=by simp
 rw [e] at hC1
 refine hC1.mono ?_
 rintro e W' ⟨G',hw,hx,u,rfl,hu⟩
 simp only [VR] at hu
 subst hu
 exact ⟨rfl,hw.low.1,hw.low.2,hw.out⟩
end Go.Den.Ty
end
section
namespace Go.Den.Ty
set_option maxRecDepth 100000
open Go.Proofs Go.ChangeShapes Go.WideShapes Go.Den.Ve Go.Den.Tq
section
variable {H:Type} {enc:TypeId×Value→H} {W:World} {base fuel:Nat} {d:DataW H} {ps:List MemPlace}
theorem cells_get {a:Addr} {k:Nat} {cs:List Value} (h:W.cells? 0 a k=some cs):cs.length=k∧∀ (j:Nat) (v:Value),cs[j]? = some v→W.cell? (a.add j)=some v:=by
 unfold World.cells? at h
 simp only [Nat.zero_le,if_true] at h
 have hl:=mapM_some_length h
 rw [List.length_range] at hl
 refine ⟨hl,fun j v hj=>?_⟩
 have hjl:=(List.getElem?_eq_some_iff.1 hj).1
 have:=mapM_some_get h j j (by rw [List.getElem?_range (by omega)])
 rw [this,hj]
theorem add_spot {a:Addr} {v:Value} (h:W.cell? ((a.add 0).add 0)=some v):a.spot=none:=by
 have:=World.cell?_spot h
 simpa [Addr.add] using this
theorem in_slice {α:Type} {en:α→List PV} {t e:TypeId} {k:Nat} (hu:Try.prog.underlying t=some (.slice e)) (hk:Try.prog.cellsOf e=k) (hk1:0<k) (hen:∀ a,(en a).length=k)
  (hel:∀ (n:Nat) (cs:List Value) (y:DataW H×List MemPlace),DataW.trod enc Try.prog W 0 (fun _=>true) true n e cs=some y→∃ a:α,VRL (gh0 W) W (en a) cs)
  {v:Value} {x:DataW H×List MemPlace} (h:DataW.trod enc Try.prog W 0 (fun _=>true) true fuel t [v]=some x):∃ F l,VR (gh0 W) W F v∧SlOf k en F l:=by
 rcases DataW.trod_slice hu h with ⟨hv,_⟩|⟨a,len,cap,elems,rest,n,_,hv,_,_,hl,_,hlen,hel',hrest,_⟩
 ·simp at hv
  subst hv
  exact ⟨.nilslice,[],by simp only [VR],rfl,fun _ h=>by cases h⟩
 ·simp at hv
  subst hv
  rw [hk] at hel' hrest
  by_cases hcap:cap=0
  ·subst hcap
   have hl0:len=0:=by omega
   subst hl0
   refine ⟨.slice .shared 0 [],[],?_,rfl,fun _ h=>by cases h⟩
   simp only [VR]
   exact .inr ⟨by trivial,by trivial,by trivial,a,rfl⟩
  ·have hsp:a.spot=none:=by
    have key:∀ (o:Option (DataW H×List MemPlace)) (i:Nat),i=0→o.isSome=true→(W.cells? 0 (a.add (i*k)) k).bind (DataW.trod enc Try.prog W 0 (fun _=>true) true n e)=o→a.spot=none:=fun o i hi ho h1=>by
     obtain ⟨y,rfl⟩:=Option.isSome_iff_exists.1 ho
     obtain ⟨cs,h2,h3⟩:=Option.bind_eq_some_iff.1 h1
     obtain ⟨h4,h5⟩:=cells_get h2
     have hc0:0<cs.length:=by omega
     have h6:=h5 0 cs[0] (List.getElem?_eq_getElem hc0)
     rw [hi,Nat.zero_mul] at h6
     exact add_spot h6
    by_cases hlen0:0<len
    ·refine key elems[0]? 0 rfl (by rw [List.getElem?_eq_getElem (by omega)];rfl) (hel' 0 hlen0)
    ·obtain ⟨h1,h2⟩:=hrest rfl
     exact key rest[0]? (len+0) (by omega) (by rw [List.getElem?_eq_getElem (by omega)];rfl) (h2 0 (by omega))
   obtain ⟨b,off,sp⟩:=a
   simp only at hsp
   subst hsp
   have hadd:∀ o j,((⟨b,o,none⟩:Addr).add j)=⟨b,o+j,none⟩:=fun o j=>by
    unfold Addr.add
    by_cases h0:j=0
    ·rw [if_pos h0,h0];rfl
    ·rw [if_neg h0]
   obtain ⟨l,hll,hlq⟩:=list_of (α:=α) (Q:=fun i a=>∀ (j:Nat) (p:PV),(en a)[j]? = some p→∃ v,W.cell? ⟨b,off+i*k+j,none⟩=some v∧VR (gh0 W) W p v) len (fun i hi=>by
    have h1:=hel' i hi
    rw [hadd,List.getElem?_eq_getElem (by omega:i<elems.length)] at h1
    obtain ⟨cs,h2,h3⟩:=Option.bind_eq_some_iff.1 h1
    obtain ⟨h4,h5⟩:=cells_get h2
    obtain ⟨x,hx⟩:=hel n cs _ h3
    refine ⟨x,fun j p hj=>?_⟩
    obtain ⟨v,g1,g2⟩:=hx.get hj
    have:=h5 j v g1
    rw [hadd] at this
    exact ⟨v,this,g2⟩)
   refine ⟨.slice .shared len (l.flatMap en),l,vr_slice0 hl fun j p hj=>?_,by simp only [PV.sl,hll],fun a _=>hen a⟩
   have hjl:=(List.getElem?_eq_some_iff.1 hj).1
   have hfl:(l.flatMap en).length=l.length*k:=flatMap_len (fun a _=>hen a)
   have hi:j / k<l.length:=by
    rw [hfl] at hjl
    exact (Nat.div_lt_iff_lt_mul hk1).2 hjl
   have hdr:(l.flatMap en).drop (j / k*k)=(l.drop (j / k)).flatMap en:=flatMap_drop (j / k) (fun a _=>hen a)
   have hdm:j / k*k+j % k=j:=by rw [Nat.mul_comm];exact Nat.div_add_mod j k
   have hj2:((l.flatMap en).drop (j / k*k))[j % k]? = some p:=by
    rw [List.getElem?_drop,← hj,hdm]
   rw [hdr,List.drop_eq_getElem_cons hi,List.flatMap_cons,List.getElem?_append_left (by rw [hen];exact Nat.mod_lt _ hk1)] at hj2
   obtain ⟨v,g1,g2⟩:=hlq (j / k) _ (List.getElem?_eq_getElem hi) (j % k) p hj2
   refine ⟨v,?_,g2⟩
   rw [← g1]
   congr 2
   omega
theorem e3':Try.prog.cellsOf 3=1:=by kernel_rfl
theorem e22':Try.prog.cellsOf 22=1:=by kernel_rfl
theorem e24':Try.prog.cellsOf 24=3:=by kernel_rfl
theorem e71':Try.prog.cellsOf 71=1:=by kernel_rfl
theorem e73':Try.prog.cellsOf 73=1:=by kernel_rfl
theorem e74':Try.prog.cellsOf 74=1:=by kernel_rfl
theorem e157':Try.prog.cellsOf 157=2:=by kernel_rfl
theorem trod_one {t n:Nat} {cs:List Value} {y:DataW H×List MemPlace} (h:DataW.trod enc Try.prog W 0 (fun _=>true) true n t cs=some y) (hs:(∃ e,Try.prog.underlying t=some (.slice e))):∃ v,cs=[v]:=by
 obtain ⟨e,hu⟩:=hs
 rcases DataW.trod_slice hu h with ⟨hv,_⟩|⟨a,len,cap,elems,rest,n,_,hv,_⟩
 ·exact ⟨_,hv⟩
 ·exact ⟨_,hv⟩
theorem in_move {n:Nat} {cs:List Value} {y:DataW H×List MemPlace} (h:DataW.trod enc Try.prog W 0 (fun _=>true) true n 157 cs=some y):∃ a:Mv,VRL (gh0 W) W (encM a) cs:=by
 obtain ⟨xs,n,_,_,hl,hxl,hf⟩:=DataW.trod_struct Try.underlying157 h
 rw [e157'] at hl
 match cs,hl with
 | [a,b],_ =>
  have f0:DataW.trod enc Try.prog W 0 (fun _=>true) true n 3 (List.take (Try.prog.cellsOf 3) [a,b])=xs[0]? := hf 0 _ rfl
  have f1:DataW.trod enc Try.prog W 0 (fun _=>true) true n 3 (List.take (Try.prog.cellsOf 3) [b])=xs[1]? := hf 1 _ rfl
  rw [e3'] at f0 f1
  have hx:xs.length=2:=hxl
  match xs,hx with
  | [x0,x1],_ =>
   obtain ⟨k,k0,_,_⟩:=DataW.trod_int Try.underlying3 f0
   obtain ⟨m,m0,_,_⟩:=DataW.trod_int Try.underlying3 f1
   simp at k0 m0
   subst k0 m0
   exact ⟨⟨k,m⟩,VRL.cons (by simp only [VR]) (VRL.cons (by simp only [VR]) (VRL.nil_iff.2 rfl))⟩
theorem in_state {n:Nat} {cs:List Value} {y:DataW H×List MemPlace} (h:DataW.trod enc Try.prog W 0 (fun _=>true) true n 74 cs=some y):∃ a:SP,VRL (gh0 W) W (encSP a) cs:=by
 obtain ⟨v,rfl⟩:=trod_one h ⟨_,Try.underlying74⟩
 obtain ⟨F,l,h1,h2⟩:=in_slice (en:=encM) Try.underlying74 e157' (by decide) (fun _=>rfl) (fun n cs y h=>in_move h) h
 exact ⟨⟨F,l,h2⟩,VRL.cons h1 (VRL.nil_iff.2 rfl)⟩
theorem in_version {n:Nat} {cs:List Value} {y:DataW H×List MemPlace} (h:DataW.trod enc Try.prog W 0 (fun _=>true) true n 73 cs=some y):∃ a:VP,VRL (gh0 W) W (encVP a) cs:=by
 obtain ⟨xs,n,_,_,hl,hxl,hf⟩:=DataW.trod_struct Try.underlying73 h
 rw [e73'] at hl
 match cs,hl with
 | [a],_ =>
  have f0:DataW.trod enc Try.prog W 0 (fun _=>true) true n 71 (List.take (Try.prog.cellsOf 71) [a])=xs[0]? := hf 0 _ rfl
  rw [e71'] at f0
  have hx:xs.length=1:=hxl
  match xs,hx with
  | [x0],_ =>
   obtain ⟨F,l,h1,h2⟩:=in_slice (en:=encSP) (x:=x0) Try.underlying71 e74' (by decide) (fun _=>rfl) (fun n cs y h=>in_state h) f0
   exact ⟨⟨F,l,h2⟩,VRL.cons h1 (VRL.nil_iff.2 rfl)⟩
theorem in_book {v:Value} (hok:Value.okWide Try.prog W .any base 24 v) (h:DataW.Trod enc Try.prog W 0 (fun _=>true) true 24 v d ps):∃ b:QB,VR (gh0 W) W b.pv v:=by
 obtain ⟨fuel,h⟩:=h
 unfold Value.okWide at hok
 rw [Try.underlying24] at hok
 obtain ⟨cs,rfl,_⟩:=hok
 obtain ⟨xs,n,_,_,hl,hxl,hf⟩:=DataW.trod_struct Try.underlying24 h
 rw [e24'] at hl
 have hcs:(Value.agg cs).cells.toList=cs.toList:=rfl
 rw [hcs] at hl hf
 obtain ⟨l⟩:=cs
 match l,hl with
 | [a,b,c],_ =>
  have f0:DataW.trod enc Try.prog W 0 (fun _=>true) true n 3 (List.take (Try.prog.cellsOf 3) [a,b,c])=xs[0]? := hf 0 _ rfl
  have f1:DataW.trod enc Try.prog W 0 (fun _=>true) true n 3 (List.take (Try.prog.cellsOf 3) [b,c])=xs[1]? := hf 1 _ rfl
  have f2:DataW.trod enc Try.prog W 0 (fun _=>true) true n 22 (List.take (Try.prog.cellsOf 22) [c])=xs[2]? := hf 2 _ rfl
  rw [e3'] at f0 f1
  rw [e22'] at f2
  have hx:xs.length=3:=hxl
  match xs,hx with
  | [x0,x1,x2],_ =>
   obtain ⟨n0,k0,_,_⟩:=DataW.trod_int Try.underlying3 f0
   obtain ⟨n1,k1,_,_⟩:=DataW.trod_int Try.underlying3 f1
   simp at k0 k1
   subst k0 k1
   obtain ⟨F,l,h1,h2⟩:=in_slice (en:=encVP) (x:=x2) Try.underlying22 e73' (by decide) (fun _=>rfl) (fun n cs y h=>in_version h) f2
   refine ⟨⟨n0,n1,F,l,h2⟩,?_⟩
   simp only [VR]
   exact ⟨_,rfl,VRL.cons (by simp only [VR]) (VRL.cons (by simp only [VR]) (VRL.cons h1 (VRL.nil_iff.2 rfl)))⟩
end
end Go.Den.Ty
end

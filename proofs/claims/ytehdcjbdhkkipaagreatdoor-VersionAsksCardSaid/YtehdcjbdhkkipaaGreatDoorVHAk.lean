/- Part of the proofs of laws of the package version. Texts: VtF, VuA, VuB, VuC, VuD. -/
import Derived.Test.YtehdcjbdhkkipaaGreatDoorVHAj
set_option linter.unusedSimpArgs false
set_option linter.unusedVariables false
section
namespace Go.Den.Ve
def ClosP (o:Option BK) (b:Nat) (st:St) (r:CR) (st':St):Prop:=match r with
 | .ret v=>v = .tuple []∧(∃ c:BP,o=some c.bk∧OkP c∧hp st' b=some (.var [iv c.words,c.v]))∧(∀ l,l<st.heap.length→l≠b→hp st' l=hp st l)∧st.heap.length≤st'.heap.length∧st'.lo=min st.lo b
 | .panic v=>o=none∧(∃ x,v=noneX x)∧HExt st.heap st'.heap∧st'.lo=st.lo
theorem par_ret {o:Option BK} {st st':St} {v:PV} (h:ParP o st (.ret v) st'):HExt st.heap st'.heap∧st'.lo=st.lo∧∃ b:BP,o=some b.bk∧v=b.pv∧OkP b:=h
theorem par_no {o:Option BK} {st st':St} {v:PV} (h:ParP o st (.panic v) st'):HExt st.heap st'.heap∧st'.lo=st.lo∧o=none∧∃ x,v=noneX x:=h
theorem OkP.sm {b:BP} (h:OkP b):SmB b:=⟨by have:=h.cs;omega,fun c hc=>by have:=h.ls hc;omega⟩
set_option maxHeartbeats 2000000 in
theorem c123 (s:List UInt8) (hs:s.length≤400) (a b:Nat) (st:St) (hwf:st.lo≤st.heap.length) (ha:hp st a=some (.var [.str (toB s)])) (hb:hp st b=some (.var [iv 0,.nilslice])):ClA EE (.func 123 [] [.ptr a 0,.ptr b 0]) [] st (ClosP (parsedV s) b st):=by
 have mb:=hp_lt hb
 refine cA2 pr123 fn123 (fun tm hl h0 h1=>?_)
 have ha':hp { heap:=st.heap,lo:=st.heap.length } a=some (.var [.str (toB s)]):=ha
 refine go2 (bw4 hl h0 h1 ha') fnil ?_
 refine wops_callA rfl rfl (sR hl) (by simp only [↓reduceIte,go_sem,hl];exact c124 s hs _ (Nat.le_refl _)) ?_ ?_
 ·intro v S hP
  obtain ⟨hx,hlo,c,ho,rfl,hok⟩:=par_ret hP
  have hB:=c.h
  have hb':hp S b=some (.var [iv 0,.nilslice]):=(hx.2 b mb).trans hb
  have mS:=hp_lt hb'
  simp only at hlo
  have hx1:=hx.1
  simp only at hx1
  refine go2 (bw3 hl h1 hb') fnil ?_
  refine fna_normal (v := .tuple []) results_nil ?_
  rw [finish_low (by rw [lo_setVar];omega)]
  refine ⟨rfl,⟨c,ho,hok,?_⟩,fun l hl hne=>?_,?_,?_⟩
  ·show hp (setVar S b _) b=_
   rw [hp_setVar,if_pos rfl,if_pos mS]
  ·show hp (setVar S b _) l=_
   rw [hp_setVar,if_neg hne];exact hx.2 l hl
  ·show st.heap.length≤(setVar S b _).heap.length
   rw [len_setVar];exact hx1
  ·show min st.lo (setVar S b _).lo=_
   rw [lo_setVar];omega
 ·intro v S hP
  obtain ⟨hx,hlo,ho,x,rfl⟩:=par_no hP
  refine go2 fnil fnil ?_
  refine fna_panic ⟨ho,⟨x,rfl⟩,hx,?_⟩
  show min st.lo S.lo=st.lo
  simp only at hlo
  omega
def ReadP (s:List UInt8) (st:St) (v:PV) (st':St):Prop:=∃ b:BP,v = .tuple [b.pv,iv (readV s).2]∧b.bk=(readV s).1∧SmB b∧HExt st.heap st'.heap∧st'.lo=st.lo
theorem readP_none {s:List UInt8} {st S:St} {e:Int} (h:readV s=(⟨0,[]⟩,e)) (hlo:st.heap.length≤S.lo):ReadP s st (finishCall st S (.tuple [.agg [iv 0,.nilslice],iv e])).1 (finishCall st S (.tuple [.agg [iv 0,.nilslice],iv e])).2:=by
 rw [finish_tuple hlo (by rfl)]
 unfold ReadP
 rw [h]
 exact ⟨⟨0,.nilslice,[],.nil⟩,rfl,rfl,⟨by simp,fun c hc=>by cases hc⟩,.refl _,rfl⟩
set_option maxHeartbeats 4000000 in
theorem c75 (s:List UInt8) (st:St):ClR EE (.func 75 [] []) [.str (toB s)] st (ReadP s st):=by
 refine cG1 pr75 fn75 (fun tm hl h0=>?_)
 by_cases h400:s.length>400
 ·have d1:decide ((s.length:Int)>400)=true:=by simp;omega
  have e:readV s=(⟨0,[]⟩,3):=by simp [readV,h400]
  refine go2 (bw3 hl h0 d1) fnil ?_
  refine fnr_ret (v := .tuple [.agg [iv 0,.nilslice],iv 3]) (results_two ?_ ?_) (readP_none e (by simp only [lo_push,lo_setVar];omega))
  ·rw [rdRes_hp (l:=st.heap.length+1) (off:=0) (sG hl)]
   simp only [↓reduceIte,go_sem,hl];first|done|rfl
  ·rw [rdRes_tmp];simp only [↓reduceIte,go_sem,hl];first|done|rfl
 ·have d1:decide ((s.length:Int)>400)=false:=by simp;omega
  have z0:((0:Int) != 0)=false:=rfl
  have z4:((4:Int) != 0)=true:=rfl
  refine go2 (bw3 hl h0 d1) fnil ?_
  obtain ⟨r,S,hcl,hP⟩:=c123 s (by omega) st.heap.length (st.heap.length+1+1) (((({ heap:=st.heap,lo:=st.heap.length }:St).push (.var [.str (toB s)])).push (.var [iv 0,.nilslice])).push (.var [iv 0,.nilslice])) (by simp only [lo_push,len_push];omega) (sG fnil) (sG fnil)
  cases r with
  | panic v =>
   obtain ⟨ho,⟨x,rfl⟩,hx,hlo⟩:=hP
   have e:readV s=(⟨0,[]⟩,4):=by simp [readV,h400,ho]
   have b1:hp S (st.heap.length+1)=some (.var [iv 0,.nilslice]):=(hx.2 _ (by simp only [len_push];omega)).trans (by have h:∀ (S:St) l,S.heap[l]? = hp S l:=fun _ _=>rfl;rw [h];simp only [↓reduceIte,go_sem])
   have m1:=hp_lt b1
   simp only [lo_push] at hlo
   refine wops_call' rfl rfl (sR hl) (by simp only [↓reduceIte,go_sem,hl];exact c122_none hcl) ?_
   refine go2 (bw4 hl b1 (n4 m1) z4) fnil ?_
   refine fnr_ret (v := .tuple [.agg [iv 0,.nilslice],iv 4]) (results_two ?_ ?_) (readP_none e (by simp only [lo_push,lo_setVar];omega))
   ·rw [rdRes_hp (l:=st.heap.length+1) (off:=0) (sG hl)]
    simp only [↓reduceIte,go_sem,hl,m1,n4 m1];first|done|rfl
   ·rw [rdRes_tmp];simp only [↓reduceIte,go_sem,hl];first|done|rfl
  | ret v =>
   obtain ⟨rfl,⟨c,ho,hok,hbc⟩,hk,hln,hlo⟩:=hP
   have hB:=c.h
   have h81:=c81 c hok.sm
   have b1:hp S (st.heap.length+1)=some (.var [iv 0,.nilslice]):=(hk _ (by simp only [len_push];omega) (by omega)).trans (sG fnil)
   have m1:=hp_lt b1
   have m2:=hp_lt hbc
   simp only [lo_push,len_push] at hlo hln
   refine wops_call' rfl rfl (sR hl) (by simp only [↓reduceIte,go_sem,hl];exact c122_ret hcl) ?_
   cases hA:bookB c.bk
   ·have e:readV s=(⟨0,[]⟩,2):=by simp [readV,h400,ho,hA]
    refine go2 (bw7 hl b1 (n4 m1) hbc (n4 m2) z0 hA) (bw h81 fnil) ?_
    refine fnr_ret (v := .tuple [.agg [iv 0,.nilslice],iv 2]) (results_two ?_ ?_) (readP_none e (by simp only [lo_push,lo_setVar];omega))
    ·rw [rdRes_hp (l:=st.heap.length+1) (off:=0) (sG hl)]
     simp only [↓reduceIte,go_sem,hl,m1,n4 m1];first|done|rfl
    ·rw [rdRes_tmp];simp only [↓reduceIte,go_sem,hl];first|done|rfl
   ·have e:readV s=(c.bk,0):=by simp [readV,h400,ho,hA]
    refine go2 (bw7 hl b1 (n4 m1) hbc (n4 m2) z0 hA) (bw h81 fnil) ?_
    refine fnr_ret (v := .tuple [c.pv,iv 0]) (results_two ?_ ?_) ?_
    ·rw [rdRes_hp (l:=st.heap.length+1) (off:=0) (sG hl)]
     simp only [↓reduceIte,go_sem,hl,m1,n4 m1];first|done|rfl
    ·rw [rdRes_tmp];simp only [↓reduceIte,go_sem,hl];first|done|rfl
    ·have hxS:HExt st.heap S.heap:=⟨by omega,fun l hl=>by
      have h1:=hk l (by simp only [len_push];omega) (by omega)
      have n1:(l=st.heap.length)=False:=by simp;omega
      have n2:∀ k,(l=st.heap.length+k)=False:=by simp;omega
      exact h1.trans (sR (bw n1 n2))⟩
     have key:∀ S':St,HExt st.heap S'.heap→st.heap.length≤S'.lo→ReadP s st (finishCall st S' (.tuple [c.pv,iv 0])).1 (finishCall st S' (.tuple [c.pv,iv 0])).2:=by
      intro S' hx' hl'
      obtain ⟨k1,k2,k3⟩:=finish_keep (st:=st) (st1:=S') (vs:=[c.pv,iv 0]) (by rfl) hl'
      rw [k1]
      refine ⟨c,by rw [e],by rw [e],hok.sm,?_,k2⟩
      rcases k3 with h|h <;> rw [h] <;> first|exact .refl _|exact hx'
     exact key _ (hxS.setVar (by omega)) (by simp only [lo_push,lo_setVar];omega)
end Go.Den.Ve
end
section
namespace Go.Den.Ve
theorem c79 (x lo hi:Int) (st:St):Cl EE (.func 79 [] []) [iv x,iv lo,iv hi] st (.ret (.bool (inN x lo hi))) st:=by
 refine cF3 pr79 fn79 (fun tm hl h0 h1 h2=>?_)
 have e:inN x lo hi=(decide (x≥lo)&&decide (x≤hi)):=rfl
 rw [e]
 cases hd:decide (x≥lo)
 ·refine go2 (bw5 hl h0 h1 h2 hd) fnil ?_
  exact fQ hl
 ·refine go2 (bw5 hl h0 h1 h2 hd) fnil ?_
  exact fQ hl
theorem c27 (F G:PV) (l m:List Int) (hF:SlOf 1 encI F l) (hG:SlOf 1 encI G m) (hN:l.length<1000000) (st:St):Cl EE (.func 27 [] []) [F,G] st (.ret (.bool (l==m))) st:=by
 have hFs:=hF.slen
 have hGs:=hG.slen
 refine cF2 pr27 fn27 (fun tm hl h0 h1=>?_)
 cases hd:((l.length:Int) != (m.length:Int))
 ·have hlm:l.length=m.length:=by have:=bne_eq_false_iff_eq.1 hd;omega
  refine go2 (bw6 hl h0 h1 hFs hGs hd) fnil ?_
  refine wp_for [5] (fun i vs st1=>vs=[iv i]∧i≤l.length∧l.take i=m.take i∧st1={ heap:=st.heap,lo:=st.heap.length }) (fun i=>l.length - i) ⟨(sR hl),Nat.zero_le _,rfl,rfl⟩ ?_
  rintro i tm1 st1 ⟨hv,hi,ht,rfl⟩ hS
  simp only [List.map_cons,List.map_nil,List.cons.injEq,and_true] at hv
  have hl1:tm1.length=26:=lN hS hl;have i0:tg tm1 0=F:=tQ hS (bw3 hl h0 h1);have i1:tg tm1 1=G:=tQ hS (bw3 hl h0 h1);clear hS
  refine go2 (bw4 hl1 hv i0 hFs) fnil ?_
  refine ⟨decide ((i:Int)<l.length),(sG hl1),fun hb=>?_,fun hb=>?_⟩
  ·have hlt:=of_decide_eq_false hb
   have hin:i=l.length:=by omega
   have e:(l==m)=true:=by rw [beq_iff_eq];exact eq_of_take hlm (by rw [← hin];exact ht)
   rw [e]
   refine go2 hl1 fnil ?_
   exact fQ hl1
  ·have hlt:i<l.length:=by have:=of_decide_eq_true hb;omega
   have hlt2:i<m.length:=by omega
   have hw1:IntKind.wrap .i64 ((i:Int)+1)=((i+1:Nat):Int):=wrap_nat (n:=i+1) (by omega)
   refine ⟨by omega,?_⟩
   cases hx:(l[i] != m[i])
   ·refine go2 (bw6 hl1 hv i0 i1 hw1 hx) fnil ?_
    exact ⟨(sG hl1),by omega,take_snoc_eq hlt hlt2 ht (bne_eq_false_iff_eq.1 hx),rfl⟩
   ·have e:(l==m)=false:=by
     rw [beq_eq_false_iff_ne]
     intro e
     subst e
     simp at hx
    rw [e]
    refine go2 (bw5 hl1 hv i0 i1 hx) fnil ?_
    exact fQ hl1
 ·have e:(l==m)=false:=by
   rw [beq_eq_false_iff_ne]
   intro e
   subst e
   simp at hd
  rw [e]
  refine go2 (bw6 hl h0 h1 hFs hGs hd) fnil ?_
  exact fQ hl
set_option maxHeartbeats 1000000 in
theorem c33 (F G:PV) (l m:List (Int×Int)) (hF:SlOf 2 enc2 F l) (hG:SlOf 2 enc2 G m) (hN:l.length<1000000) (st:St):Cl EE (.func 33 [] []) [F,G] st (.ret (.bool (l==m))) st:=by
 have hFs:=hF.slen
 have hGs:=hG.slen
 refine cF2 pr33 fn33 (fun tm hl h0 h1=>?_)
 cases hd:((l.length:Int) != (m.length:Int))
 ·have hlm:l.length=m.length:=by have:=bne_eq_false_iff_eq.1 hd;omega
  refine go2 (bw6 hl h0 h1 hFs hGs hd) fnil ?_
  refine wp_for [5] (fun i vs st1=>vs=[iv i]∧i≤l.length∧l.take i=m.take i∧st1={ heap:=st.heap,lo:=st.heap.length }) (fun i=>l.length - i) ⟨(sR hl),Nat.zero_le _,rfl,rfl⟩ ?_
  rintro i tm1 st1 ⟨hv,hi,ht,rfl⟩ hS
  simp only [List.map_cons,List.map_nil,List.cons.injEq,and_true] at hv
  have hl1:tm1.length=26:=lN hS hl;have i0:tg tm1 0=F:=tQ hS (bw3 hl h0 h1);have i1:tg tm1 1=G:=tQ hS (bw3 hl h0 h1);clear hS
  refine go2 (bw4 hl1 hv i0 hFs) fnil ?_
  refine ⟨decide ((i:Int)<l.length),(sG hl1),fun hb=>?_,fun hb=>?_⟩
  ·have hlt:=of_decide_eq_false hb
   have hin:i=l.length:=by omega
   have e:(l==m)=true:=by rw [beq_iff_eq];exact eq_of_take hlm (by rw [← hin];exact ht)
   rw [e]
   refine go2 hl1 fnil ?_
   exact fQ hl1
  ·have hlt:i<l.length:=by have:=of_decide_eq_true hb;omega
   have hlt2:i<m.length:=by omega
   have hw1:IntKind.wrap .i64 ((i:Int)+1)=((i+1:Nat):Int):=wrap_nat (n:=i+1) (by omega)
   refine ⟨by omega,?_⟩
   cases hx:([l[i].1,l[i].2]==[m[i].1,m[i].2])
   ·have e:(l==m)=false:=by
     rw [beq_eq_false_iff_ne]
     intro e
     subst e
     simp at hx
    rw [e]
    refine go2 (bw5 hl1 hv i0 i1 hx) fnil ?_
    exact fQ hl1
   ·have hpe:l[i]=m[i]:=by
     have:=eq_of_beq hx
     simp only [List.cons.injEq,and_true] at this
     exact Prod.ext this.1 this.2
    refine go2 (bw6 hl1 hv i0 i1 hw1 hx) fnil ?_
    exact ⟨(sG hl1),by omega,take_snoc_eq hlt hlt2 ht hpe,rfl⟩
 ·have e:(l==m)=false:=by
   rw [beq_eq_false_iff_ne]
   intro e
   subst e
   simp at hd
  rw [e]
  refine go2 (bw6 hl h0 h1 hFs hGs hd) fnil ?_
  exact fQ hl
set_option maxHeartbeats 1000000 in
theorem c38 (F G:PV) (X Y:List SI) (hF:SlOf 1 encSI F X) (hG:SlOf 1 encSI G Y) (hN:X.length<1000000) (hNX:∀ x∈X,x.l.length<1000000) (st:St):Cl EE (.func 38 [] []) [F,G] st (.ret (.bool (X.map SI.l==Y.map SI.l))) st:=by
 have hFs:=hF.slen
 have hGs:=hG.slen
 refine cF2 pr38 fn38 (fun tm hl h0 h1=>?_)
 cases hd:((X.length:Int) != (Y.length:Int))
 ·have hlm:X.length=Y.length:=by have:=bne_eq_false_iff_eq.1 hd;omega
  refine go2 (bw6 hl h0 h1 hFs hGs hd) fnil ?_
  refine wp_for [5] (fun i vs st1=>vs=[iv i]∧i≤X.length∧(X.map SI.l).take i=(Y.map SI.l).take i∧st1={ heap:=st.heap,lo:=st.heap.length }) (fun i=>X.length - i) ⟨(sR hl),Nat.zero_le _,rfl,rfl⟩ ?_
  rintro i tm1 st1 ⟨hv,hi,ht,rfl⟩ hS
  simp only [List.map_cons,List.map_nil,List.cons.injEq,and_true] at hv
  have hl1:tm1.length=27:=lN hS hl;have i0:tg tm1 0=F:=tQ hS (bw3 hl h0 h1);have i1:tg tm1 1=G:=tQ hS (bw3 hl h0 h1);clear hS
  refine go2 (bw4 hl1 hv i0 hFs) fnil ?_
  refine ⟨decide ((i:Int)<X.length),(sG hl1),fun hb=>?_,fun hb=>?_⟩
  ·have hlt:=of_decide_eq_false hb
   have hin:i=X.length:=by omega
   have e:(X.map SI.l==Y.map SI.l)=true:=by rw [beq_iff_eq];exact eq_of_take (by simpa using hlm) (by rw [List.length_map,← hin];exact ht)
   rw [e]
   refine go2 hl1 fnil ?_
   exact fQ hl1
  ·have hlt:i<X.length:=by have:=of_decide_eq_true hb;omega
   have hlt2:i<Y.length:=by omega
   have hw1:IntKind.wrap .i64 ((i:Int)+1)=((i+1:Nat):Int):=wrap_nat (n:=i+1) (by omega)
   refine ⟨by omega,?_⟩
   have kc:=fun st=>c27 X[i].v Y[i].v X[i].l Y[i].l X[i].h Y[i].h (hNX _ (List.getElem_mem hlt)) st
   cases hx:(X[i].l==Y[i].l)
   ·have e:(X.map SI.l==Y.map SI.l)=false:=by
     rw [beq_eq_false_iff_ne]
     intro e
     have e1:(X.map SI.l)[i]? = (Y.map SI.l)[i]? := by rw [e]
     rw [List.getElem?_map,List.getElem?_map,List.getElem?_eq_getElem hlt,List.getElem?_eq_getElem hlt2] at e1
     have:=Option.some.inj e1
     rw [this] at hx
     simp at hx
    rw [e]
    rw [hx] at kc
    refine go2 (bw5 hl1 hv i0 i1 hx) (bw kc fnil) ?_
    exact fQ hl1
   ·rw [hx] at kc
    refine go2 (bw6 hl1 hv i0 i1 hw1 hx) (bw kc fnil) ?_
    exact ⟨(sG hl1),by omega,take_snoc_eq (by simpa using hlt) (by simpa using hlt2) ht (by simpa using eq_of_beq hx),rfl⟩
 ·have e:(X.map SI.l==Y.map SI.l)=false:=by
   rw [beq_eq_false_iff_ne]
   intro e
   have:=congrArg List.length e
   simp only [List.length_map] at this
   rw [this] at hd
   simp at hd
  rw [e]
  refine go2 (bw6 hl h0 h1 hFs hGs hd) fnil ?_
  exact fQ hl
theorem c24 (w:Int) (V:PV) (hV:V.cells=[V]) (hVi:V.isCell=true) (hw:OkW w) (L:PV) (l:List Int) (hL:SlOf 1 encI L l) (hN:l.length<1000000) (st:St):Cl EE (.func 24 [] []) [.agg [iv w,V],L] st (.ret (.bool (lineB w l))) st:=by
 have hLs:=hL.slen
 have hww:=hw.wrap
 refine cF2 pr24 fn24 (fun tm hl h0 h1=>?_)
 refine go2 (bw4 hl h0 hV hVi) fnil ?_
 refine wp_for [5] (fun i vs st1=>vs=[iv i]∧i≤l.length∧(∀ x∈l.take i,inN x 0 (w - 1)=true)∧st1=({ heap:=st.heap,lo:=st.heap.length }:St).push (.var [iv w,V])) (fun i=>l.length - i) ⟨(sR hl),Nat.zero_le _,by simp,rfl⟩ ?_
 rintro i tm1 st1 ⟨hv,hi,hall,rfl⟩ hS
 simp only [List.map_cons,List.map_nil,List.cons.injEq,and_true] at hv
 have hl1:tm1.length=24:=lN hS hl;have i1:tg tm1 1=L:=tQ hS (bw hl h1);have i2:tg tm1 2 = .ptr st.heap.length 0:=tQ hS (bw hl h1);clear hS
 refine go2 (bw4 hl1 hv i1 hLs) fnil ?_
 refine ⟨decide ((i:Int)<l.length),(sG hl1),fun hb=>?_,fun hb=>?_⟩
 ·have hlt:=of_decide_eq_false hb
  have hin:i=l.length:=by omega
  rw [hin,List.take_length] at hall
  have e:lineB w l=decide ((l.length:Int)≤4):=by
   have h1:l.all (fun x=>inN x 0 (w - 1))=true:=List.all_eq_true.2 hall
   have h2:decide (l.length≤4)=decide ((l.length:Int)≤4):=by rw [decide_eq_decide];omega
   rw [lineB,h1,Bool.and_true,h2]
  rw [e]
  refine go2 (bw3 hl1 i1 hLs) fnil ?_
  exact fQ hl1
 ·have hlt:i<l.length:=by have:=of_decide_eq_true hb;omega
  have hw1:IntKind.wrap .i64 ((i:Int)+1)=((i+1:Nat):Int):=wrap_nat (n:=i+1) (by omega)
  have kc:=fun st=>c79 l[i] 0 (w - 1) st
  refine ⟨by omega,?_⟩
  cases hx:inN l[i] 0 (w - 1)
  ·have e:lineB w l=false:=by
    have h1:l.all (fun x=>inN x 0 (w - 1))=false:=List.all_eq_false.2 ⟨l[i],List.getElem_mem hlt,by simp [hx]⟩
    rw [lineB,h1,Bool.and_false]
   rw [e]
   rw [hx] at kc
   refine go2 (bw6 hl1 hv i1 i2 hww hx) (bw kc fnil) ?_
   exact fQ hl1
  ·rw [hx] at kc
   refine go2 (bw7 hl1 hv i1 i2 hww hw1 hx) (bw kc fnil) ?_
   refine ⟨(sG hl1),by omega,fun x hm=>?_,rfl⟩
   rw [List.take_succ_eq_append_getElem hlt] at hm
   rcases List.mem_append.1 hm with hm|hm
   ·exact hall x hm
   ·rw [List.mem_singleton.1 hm];exact hx
end Go.Den.Ve
end
section
namespace Go.Den.Ve
set_option maxHeartbeats 4000000 in
theorem c30 (b:BP) (hN:SmB b) (hM:∀ c∈b.cs,∀ x∈c.ls,x.l.length<1000000) (st:St):Cl EE (.func 30 [] []) [b.pv] st (.ret (.bool (bookB b.bk))) st:=by
 have hB:=b.h
 have hn:=hN.n
 refine cF1 pr30 fn30 (fun tm hl h0=>?_)
 have k1:=fun st=>c79 b.words 1 3 st
 have k2:=fun st=>c79 (b.cs.length:Int) 1 5 st
 cases hA:inN b.words 1 3
 ·have e:bookB b.bk=false:=by simp [bookB,hA]
  rw [e]
  rw [hA] at k1
  refine go2 (bw3 hl h0 hA) (bw k1 fnil) ?_
  exact fQ hl
 rw [hA] at k1
 have hw:OkW b.words:=by simp only [inN,Bool.and_eq_true,decide_eq_true_eq] at hA;exact ⟨hA.1,hA.2⟩
 cases hL:inN (b.cs.length:Int) 1 5
 ·have e:bookB b.bk=false:=by simp [bookB,hA,hL]
  rw [e]
  rw [hL] at k2
  refine go2 (bw4 hl h0 hA hL) (bw3 k1 k2 fnil) ?_
  exact fQ hl
 rw [hL] at k2
 have hp0:0<b.cs.length:=by simp only [inN,Bool.and_eq_true,decide_eq_true_eq] at hL;omega
 have hl1b:=lines1_bk b hp0
 refine go2 (bw4 hl h0 hA hL) (bw3 k1 k2 fnil) ?_
 refine wp_for [3] (fun i vs S=>vs=[iv i]∧i≤b.cs.length∧(∀ c∈b.cs.take i,copyB b.bk c.c=true)∧hp S st.heap.length=some (.var [iv b.words,b.v])∧st.heap.length≤S.lo∧S.lo≤S.heap.length) (fun i=>b.cs.length - i) ⟨(sR hl),Nat.zero_le _,by simp,(sG fnil),by simp only [lo_push];omega,by simp only [lo_push,len_push];omega⟩ ?_
 rintro i tm1 S ⟨hv,hi,hall,d0,hlo,hwf⟩ hS
 simp only [List.map_cons,List.map_nil,List.cons.injEq,and_true] at hv
 have hl1:tm1.length=75:=lN hS hl;have i1:tg tm1 1 = .ptr st.heap.length 0:=tQ hS hl;clear hS
 have ld0:=hp_lt d0
 refine go2 (bw5 hl1 hv i1 d0 (n4 ld0)) fnil ?_
 refine ⟨decide ((i:Int)<b.cs.length),(sG hl1),fun hb=>?_,fun hb=>?_⟩
 ·have hlt:=of_decide_eq_false hb
  have hin:i=b.cs.length:=by omega
  rw [hin,List.take_length] at hall
  have hz:((0:Nat):Int)=0:=rfl
  have k3:=fun st=>c79 (b.cs[0].ls.length:Int) 1 4 st
  have e:bookB b.bk=inN (b.cs[0].ls.length:Int) 1 4:=by
   have h1:b.bk.copies.all (copyB b.bk)=true:=List.all_eq_true.2 fun c hc=>by obtain ⟨x,hx,rfl⟩:=List.mem_map.1 hc;exact hall x hx
   have h2:inN (b.bk.copies.length:Int) 1 5=true:=by simpa using hL
   have h3:inN b.bk.words 1 3=true:=hA
   rw [bookB,h1,h2,h3,hl1b];simp
  rw [e]
  refine go2 (bw4 hl1 i1 d0 (n4 ld0)) (bw k3 fnil) ?_
  exact fQ hl1
 ·have hlt:i<b.cs.length:=by have:=of_decide_eq_true hb;omega
  have hC:=b.cs[i].h
  have hC0:=b.cs[0].h
  have hcn:=hN.k _ (List.getElem_mem hlt)
  have hw1:IntKind.wrap .i64 ((i:Int)+1)=((i+1:Nat):Int):=wrap_nat (n:=i+1) (by omega)
  refine ⟨by omega,?_⟩
  have bad:copyB b.bk b.cs[i].c=false→bookB b.bk=false:=fun h=>by
   have h1:b.bk.copies.all (copyB b.bk)=false:=List.all_eq_false.2 ⟨b.cs[i].c,List.mem_map.2 ⟨_,List.getElem_mem hlt,rfl⟩,by simp [h]⟩
   rw [bookB,h1];simp
  cases hne:((b.cs[i].ls.length:Int) != (b.cs[0].ls.length:Int))
  ·have heq:b.cs[i].ls.length=lines1 b.bk:=by rw [hl1b];have:=bne_eq_false_iff_eq.1 hne;omega
   refine go2 (bw6 hl1 hv i1 d0 hne (n4 ld0)) fnil ?_
   refine wp_for [4] (fun j vs S'=>vs=[iv j]∧j≤b.cs[i].ls.length∧(∀ x∈b.cs[i].ls.take j,lnB b.words x.ln=true)∧hp S' st.heap.length=some (.var [iv b.words,b.v])∧st.heap.length≤S'.lo∧S'.lo≤S'.heap.length) (fun j=>b.cs[i].ls.length - j) ⟨(sR hl1),Nat.zero_le _,by simp,d0,hlo,hwf⟩ ?_
   clear d0 hlo hwf ld0
   rintro j tm2 S2 ⟨hv4,hj,hall2,d0,hlo,hwf⟩ hS2
   simp only [List.map_cons,List.map_nil,List.cons.injEq,and_true] at hv4
   have hl2:tm2.length=75:=lN hS2 hl1;have k1':tg tm2 1 = .ptr st.heap.length 0:=tQ hS2 (bw3 hl1 i1 hv);have k3:tg tm2 3=iv i:=tQ hS2 (bw3 hl1 i1 hv);clear hS2
   have ld0:=hp_lt d0
   refine go2 (bw6 hl2 hv4 k1' k3 d0 (n4 ld0)) fnil ?_
   refine ⟨decide ((j:Int)<b.cs[i].ls.length),(sG hl2),fun hb2=>?_,fun hb2=>?_⟩
   ·have hlt2:=of_decide_eq_false hb2
    have hjn:j=b.cs[i].ls.length:=by omega
    rw [hjn,List.take_length] at hall2
    refine go2 (bw3 hl2 k3 hw1) fnil ?_
    refine ⟨(sG hl2),by omega,fun c hc=>?_,d0,hlo,hwf⟩
    rw [List.take_succ_eq_append_getElem hlt] at hc
    rcases List.mem_append.1 hc with hc|hc
    ·exact hall c hc
    ·rw [List.mem_singleton.1 hc]
     simp only [copyB,Bool.and_eq_true,decide_eq_true_eq,List.all_eq_true]
     exact ⟨by simpa using heq,fun x hx=>by obtain ⟨y,hy,rfl⟩:=List.mem_map.1 hx;exact hall2 y hy⟩
   ·have hlt2:j<b.cs[i].ls.length:=by have:=of_decide_eq_true hb2;omega
    have hw2:IntKind.wrap .i64 ((j:Int)+1)=((j+1:Nat):Int):=wrap_nat (n:=j+1) (by omega)
    have hX:=b.cs[i].ls[j].h
    refine ⟨by omega,?_⟩
    have bad2:lnB b.words b.cs[i].ls[j].ln=false→bookB b.bk=false:=fun h=>bad (by
     have h1:b.cs[i].c.all (lnB b.bk.words)=false:=List.all_eq_false.2 ⟨b.cs[i].ls[j].ln,List.mem_map.2 ⟨_,List.getElem_mem hlt2,rfl⟩,by simpa using h⟩
     rw [copyB,h1,Bool.and_false])
    have kc:=fun st=>c24 b.words b.v b.cells b.isCell hw b.cs[i].ls[j].w b.cs[i].ls[j].l hX (hM _ (List.getElem_mem hlt) _ (List.getElem_mem hlt2)) st
    have good:lnB b.words b.cs[i].ls[j].ln=true→∀ x∈b.cs[i].ls.take (j+1),lnB b.words x.ln=true:=fun h x hx=>by
     rw [List.take_succ_eq_append_getElem hlt2] at hx
     rcases List.mem_append.1 hx with hx|hx
     ·exact hall2 x hx
     ·rw [List.mem_singleton.1 hx];exact h
    have hg:lnB b.words b.cs[i].ls[j].ln=(lineB b.words b.cs[i].ls[j].l&&!(b.cs[i].ls[j].lost&&decide ((b.cs[i].ls[j].l.length:Int)>0))):=by
     unfold lnB
     congr 3
     show (!b.cs[i].ls[j].l.isEmpty)=_
     cases b.cs[i].ls[j].l <;> simp
    cases hln:lineB b.words b.cs[i].ls[j].l
    ·rw [bad2 (by rw [hg,hln];rfl)]
     rw [hln] at kc
     refine go2 (bw7 hl2 hv4 k1' k3 d0 hln (n4 ld0)) (bw kc fnil) ?_
     exact fQ hl2
    ·rw [hln] at kc
     rw [hln,Bool.true_and] at hg
     cases hlo2:b.cs[i].ls[j].lost
     ·rw [hlo2] at hg
      refine go2 (bw9 hl2 hv4 k1' k3 d0 hln hlo2 hw2 (n4 ld0)) (bw kc fnil) ?_
      exact ⟨(sG hl2),by omega,good (by rw [hg];rfl),(sG (bw d0 (n4 ld0))),by simp only [lo_setVar,lo_push];omega,by simp only [lo_setVar,lo_push,len_setVar,len_push];omega⟩
     ·rw [hlo2,Bool.true_and] at hg
      cases hz:decide ((b.cs[i].ls[j].l.length:Int)>0)
      ·rw [hz] at hg
       refine go2 (bw10 hl2 hv4 k1' k3 d0 hln hlo2 hz hw2 (n4 ld0)) (bw kc fnil) ?_
       exact ⟨(sG hl2),by omega,good (by rw [hg];rfl),(sG (bw d0 (n4 ld0))),by simp only [lo_setVar,lo_push];omega,by simp only [lo_setVar,lo_push,len_setVar,len_push];omega⟩
      ·rw [hz] at hg
       rw [bad2 (by rw [hg];rfl)]
       refine go2 (bw9 hl2 hv4 k1' k3 d0 hln hlo2 hz (n4 ld0)) (bw kc fnil) ?_
       exact fQ hl2
  ·have hco:copyB b.bk b.cs[i].c=false:=by
    have:decide (b.cs[i].c.length=lines1 b.bk)=false:=by
     rw [hl1b]
     have:=bne_iff_ne.1 hne
     simp;omega
    rw [copyB,this,Bool.false_and]
   rw [bad hco]
   refine go2 (bw6 hl1 hv i1 d0 hne (n4 ld0)) fnil ?_
   exact fQ hl1
end Go.Den.Ve
end
section
namespace Go.Den.Ve
def smC (c:CP):Bool:=decide (c.ls.length≤6)&&c.ls.all fun x=>decide (x.l.length≤6)
def smallB (b:BP):Bool:=decide (b.cs.length≤7)&&b.cs.all smC
theorem smallB_yes {b:BP} (h:smallB b=true):SmB b∧∀ c∈b.cs,∀ x∈c.ls,x.l.length≤6:=by
 simp only [smallB,smC,Bool.and_eq_true,decide_eq_true_eq,List.all_eq_true] at h
 exact ⟨⟨by omega,fun c hc=>by have:=(h.2 c hc).1;omega⟩,fun c hc x hx=>(h.2 c hc).2 x hx⟩
set_option maxHeartbeats 4000000 in
theorem c28 (b:BP) (st:St):Cl EE (.func 28 [] []) [b.pv] st (.ret (.bool (smallB b))) st:=by
 have hB:=b.h
 refine cF1 pr28 fn28 (fun tm hl h0=>?_)
 refine go2 (bw hl h0) fnil ?_
 refine wp_for [3] (fun i vs S=>vs=[iv i]∧i≤7∧i≤b.cs.length∧(∀ c∈b.cs.take i,smC c=true)∧S=({ heap:=st.heap,lo:=st.heap.length }:St).push (.var [iv b.words,b.v])) (fun i=>b.cs.length - i) ⟨(sR hl),by omega,Nat.zero_le _,by simp,rfl⟩ ?_
 rintro i tm1 S ⟨hv,hi7,hi,hall,rfl⟩ hS
 simp only [List.map_cons,List.map_nil,List.cons.injEq,and_true] at hv
 have hl1:tm1.length=52:=lN hS hl;have i1:tg tm1 1 = .ptr st.heap.length 0:=tQ hS hl;clear hS
 have hw1:IntKind.wrap .i64 ((i:Int)+1)=((i+1:Nat):Int):=wrap_nat (n:=i+1) (by omega)
 have e7:decide (b.cs.length≤7)=decide ((b.cs.length:Int)≤7):=by rw [decide_eq_decide];omega
 cases hc1:decide ((i:Int)<(b.cs.length:Int))
 ·have hlt:=of_decide_eq_false hc1
  have hin:i=b.cs.length:=by omega
  rw [hin,List.take_length] at hall
  have e:smallB b=decide ((b.cs.length:Int)≤7):=by rw [smallB,List.all_eq_true.2 hall,Bool.and_true,e7]
  refine go2 (bw4 hl1 hv i1 hc1) fnil ?_
  refine ⟨false,(sG hl1),fun hb=>?_,fun hb=>by cases hb⟩
  rw [e]
  refine go2 (bw hl1 i1) fnil ?_
  exact fQ hl1
 have hlt:i<b.cs.length:=by have:=of_decide_eq_true hc1;omega
 cases hc2:decide ((i:Int)<7)
 ·have hlt:=of_decide_eq_false hc2
  have e:smallB b=decide ((b.cs.length:Int)≤7):=by
   have h1:decide (b.cs.length≤7)=false:=by simp;omega
   rw [smallB,h1,Bool.false_and,← e7,h1]
  refine go2 (bw5 hl1 hv i1 hc1 hc2) fnil ?_
  refine ⟨false,(sG hl1),fun hb=>?_,fun hb=>by cases hb⟩
  rw [e]
  refine go2 (bw hl1 i1) fnil ?_
  exact fQ hl1
 have hi6:i<7:=by have:=of_decide_eq_true hc2;omega
 have hC:=b.cs[i].h
 refine go2 (bw5 hl1 hv i1 hc1 hc2) fnil ?_
 refine ⟨true,(sG hl1),(fun hb=>by cases hb),fun _=>⟨by omega,?_⟩⟩
 have bad:smC b.cs[i]=false→smallB b=false:=fun h=>by
  have h1:b.cs.all smC=false:=List.all_eq_false.2 ⟨b.cs[i],List.getElem_mem hlt,by simp [h]⟩
  rw [smallB,h1,Bool.and_false]
 refine go2 (bw3 hl1 hv i1) fnil ?_
 refine wp_for [4] (fun j vs S'=>vs=[iv j]∧j≤6∧j≤b.cs[i].ls.length∧(∀ x∈b.cs[i].ls.take j,x.l.length≤6)∧S'=({ heap:=st.heap,lo:=st.heap.length }:St).push (.var [iv b.words,b.v])) (fun j=>b.cs[i].ls.length - j) ⟨(sR hl1),by omega,Nat.zero_le _,by simp,rfl⟩ ?_
 rintro j tm2 S2 ⟨hv4,hj6,hj,hall2,rfl⟩ hS2
 simp only [List.map_cons,List.map_nil,List.cons.injEq,and_true] at hv4
 have hl2:tm2.length=52:=lN hS2 hl1;have k1:tg tm2 1 = .ptr st.heap.length 0:=tQ hS2 (bw3 hl1 i1 hv);have k3:tg tm2 3=iv i:=tQ hS2 (bw3 hl1 i1 hv);clear hS2
 have hw2:IntKind.wrap .i64 ((j:Int)+1)=((j+1:Nat):Int):=wrap_nat (n:=j+1) (by omega)
 have after:(∀ x∈b.cs[i].ls.take j,x.l.length≤6)→b.cs[i].ls.length≤6→j=b.cs[i].ls.length→∀ c∈b.cs.take (i+1),smC c=true:=fun h1 h2 h3 c hc=>by
  rw [List.take_succ_eq_append_getElem hlt] at hc
  rcases List.mem_append.1 hc with hc|hc
  ·exact hall c hc
  ·rw [List.mem_singleton.1 hc]
   rw [h3,List.take_length] at h1
   simp only [smC,Bool.and_eq_true,decide_eq_true_eq,List.all_eq_true]
   exact ⟨h2,h1⟩
 cases hd1:decide ((j:Int)<(b.cs[i].ls.length:Int))
 ·have hlt1:=of_decide_eq_false hd1
  have hjn:j=b.cs[i].ls.length:=by omega
  have hd6:decide ((b.cs[i].ls.length:Int)>6)=false:=by simp;omega
  refine go2 (bw5 hl2 hv4 k1 k3 hd1) fnil ?_
  refine ⟨false,(sG hl2),fun _=>?_,fun hb=>by cases hb⟩
  refine go2 (bw5 hl2 k1 k3 hd6 hw1) fnil ?_
  exact ⟨(sG hl2),by omega,by omega,after hall2 (by omega) hjn,rfl⟩
 have hlt1:j<b.cs[i].ls.length:=by have:=of_decide_eq_true hd1;omega
 cases hd2:decide ((j:Int)<6)
 ·have hlt2:=of_decide_eq_false hd2
  have hd6:decide ((b.cs[i].ls.length:Int)>6)=true:=by simp;omega
  refine go2 (bw6 hl2 hv4 k1 k3 hd1 hd2) fnil ?_
  refine ⟨false,(sG hl2),fun _=>?_,fun hb=>by cases hb⟩
  rw [bad (by have:decide (b.cs[i].ls.length≤6)=false:=(by simp;omega);rw [smC,this,Bool.false_and])]
  refine go2 (bw4 hl2 k1 k3 hd6) fnil ?_
  exact fQ hl2
 have hlt2:j<6:=by have:=of_decide_eq_true hd2;omega
 have hX:=b.cs[i].ls[j].h
 refine go2 (bw6 hl2 hv4 k1 k3 hd1 hd2) fnil ?_
 refine ⟨true,(sG hl2),(fun hb=>by cases hb),fun _=>⟨by omega,?_⟩⟩
 cases hx:decide ((b.cs[i].ls[j].l.length:Int)>6)
 ·have hx6:=of_decide_eq_false hx
  refine go2 (bw6 hl2 hv4 k1 k3 hx hw2) fnil ?_
  refine ⟨(sG hl2),by omega,by omega,fun x hm=>?_,rfl⟩
  rw [List.take_succ_eq_append_getElem hlt1] at hm
  rcases List.mem_append.1 hm with hm|hm
  ·exact hall2 x hm
  ·rw [List.mem_singleton.1 hm];omega
 ·have hx6:=of_decide_eq_true hx
  rw [bad (by
   have h1:(b.cs[i].ls.all fun x=>decide (x.l.length≤6))=false:=List.all_eq_false.2 ⟨b.cs[i].ls[j],List.getElem_mem hlt1,by simp;omega⟩
   rw [smC,h1,Bool.and_false])]
  refine go2 (bw5 hl2 hv4 k1 k3 hx) fnil ?_
  exact fQ hl2
def goodB (b:BP):Bool:=smallB b&&bookB b.bk
end Go.Den.Ve
end
section
namespace Go.Den
theorem finish_aggB {st st1:St} {a:Bool} {v:PV} {n:Nat} {cs:List PV} (hv:v.sl=some (n,cs)) (hlo:st.heap.length≤st1.lo) (hc:∀ m,lowL m cs=true):∃ v',(finishCall st st1 (.agg [.bool a,v])).1 = .agg [.bool a,v']∧RetW st n cs v' (finishCall st st1 (.agg [.bool a,v])).2:=by
 obtain ⟨v',s,h1,h2,h3⟩:=sl_retag (m:=st.heap.length) (h:=st1.heap) hv hc
 unfold finishCall
 rw [if_pos hlo]
 have:letGo st.heap.length st1.heap (.agg [.bool a,v])=some (.agg [.bool a,v'],s.length):=by
  have hf:=sl_freeze (m:=st.heap.length) (h:=st1.heap) hv
  have ha:∀ k:Bool,freeze1 st.heap.length st1.heap (.bool k)=(.bool k,st1.heap):=fun _=>rfl
  have hr:∀ k:Bool,retag1 st1.heap st.heap.length [] (.bool k)=some (.bool k,[]):=fun _=>rfl
  simp only [letGo,freezeL,ha,hf,retagL,hr,h1,Option.map_some]
 rw [this]
 refine ⟨v',rfl,h2,?_⟩
 match s,h3 with
 | [],_=>left;simp
 | [x],_=>right;rfl
end Go.Den
namespace Go.Den.Ve
theorem c63 (st:St):Cl EE (.func 63 [] []) [] st (.ret (.agg [.bool true,.nilslice])) st:=by
 refine cF0 pr63 fn63 (fun tm hl=>?_)
 refine go2 hl fnil ?_
 refine fnq_flat (results_one ?_) (by simp only [lo_push,lo_setVar];omega) (by rfl)
 rw [rdRes_hp (l:=st.heap.length) (off:=0) (sG hl)]
 simp only [↓reduceIte,go_sem,hl]
 first|done|rfl
theorem c64 (L:PV) (l:List Int) (hL:SlOf 1 encI L l) (st:St):ClR EE (.func 64 [] []) [L] st (fun v st'=>∃ u,v = .agg [.bool false,u]∧RetW st l.length (l.flatMap encI) u st'):=by
 have hLc:=hL.cells
 have hLi:=hL.isCell
 refine cG1 pr64 fn64 (fun tm hl h0=>?_)
 refine go2 (bw4 hl h0 hLc hLi) fnil ?_
 obtain ⟨u,h1,h2⟩:=finish_aggB (st:=st) (st1:=setVar (({ heap:=st.heap,lo:=st.heap.length }:St).push (.var [.bool false,.nilslice])) st.heap.length (.var [.bool false,L])) (a:=false) hL.sl (by simp only [lo_push,lo_setVar];omega) (fun m=>ints_low l m)
 refine fnr_ret (v := .agg [.bool false,L]) (results_one ?_) ⟨u,h1,h2⟩
 rw [rdRes_hp (l:=st.heap.length) (off:=0) (sG hl)]
 simp only [↓reduceIte,go_sem,hl,hLc,hLi]
 first|done|rfl
def knownK:BK:=⟨3,[[⟨false,[0,1,2]⟩,⟨false,[1,1]⟩],[⟨false,[0,2]⟩,⟨true,[]⟩],[⟨false,[0,1,1,2]⟩,⟨false,[1,2]⟩],[⟨false,[0,1,2]⟩,⟨false,[1]⟩]]⟩
theorem retW_share {st st':St} {u:PV} {x:Int} {l:List Int} (h:RetW st (x::l).length ((x::l).flatMap encI) u st'):u.share=elL (x::l):=by
 have h1:=h.1
 cases u <;> simp only [PV.sl,Option.some.injEq,Prod.mk.injEq,reduceCtorEq] at h1
 ·obtain ⟨rfl,rfl⟩:=h1;rfl
 ·cases h1.1
set_option maxHeartbeats 8000000 in
theorem c80 (st:St):ClR EE (.func 80 [] []) [] st (fun v st'=>∃ b:BP,v=b.pv∧b.bk=knownK∧(st'=st∨st'=st.push (.tag true))):=by
 have mk:∀ (L:PV) (x:Int) (l:List Int) (s:St),L.sl=some ((x::l).length,(x::l).flatMap encI)→ClR EE (.func 64 [] []) [L] s (fun v st'=>∃ u,v = .agg [.bool false,u]∧u.share=elL (x::l)∧u.cells=[u]∧u.isCell=true∧s.heap.length≤st'.heap.length∧st'.lo=s.lo∧HExt s.heap st'.heap):=fun L x l s h=>by
  obtain ⟨v,s',h1,u,h2,h3⟩:=c64 L (x::l) (SlOf.of_sl h rfl rfl (fun _=>rfl)) s
  exact ⟨v,s',h1,u,h2,retW_share h3,sl_cells h3.1,sl_isCell h3.1,h3.len,h3.lo,h3.hext⟩
 refine cG0 pr80 fn80 (fun tm hl=>?_)
 refine go2 hl fnil ?_
 refine cR hl (mk _ 0 [1,2] _ rfl) ?_
 rintro v1 s1 ⟨u1,rfl,q1,q2,q3,p1,p2,x1⟩
 simp only [lo_push,len_push] at p1 p2
 have e1:hp s1 st.heap.length=some (.var [iv 0,.nilslice]):=x1.hp (sG fnil)
 have le1:=hp_lt e1
 refine go2 hl fnil ?_
 refine cR hl (mk _ 1 [1] _ rfl) ?_
 rintro v2 s2 ⟨u2,rfl,q4,q5,q6,p3,p4,x2⟩
 simp only [lo_push,len_push] at p3 p4
 have e2:hp s2 st.heap.length=some (.var [iv 0,.nilslice]):=x2.hp (sG (bw e1 (n4 le1)))
 have le2:=hp_lt e2
 refine go2 (bw7 hl q1 q2 q3 q4 q5 q6) fnil ?_
 refine cR hl (mk _ 0 [2] _ rfl) ?_
 rintro v3 s3 ⟨u3,rfl,q7,q8,q9,p5,p6,x3⟩
 simp only [lo_push,len_push] at p5 p6
 have e3:hp s3 st.heap.length=some (.var [iv 0,.nilslice]):=x3.hp (sG (bw e2 (n4 le2)))
 have le3:=hp_lt e3
 refine go2 (bw4 hl q7 q8 q9) (bw c63 fnil) ?_
 refine cR hl (mk _ 0 [1,1,2] _ rfl) ?_
 rintro v4 s4 ⟨u4,rfl,q10,q11,q12,p7,p8,x4⟩
 simp only [lo_push,len_push] at p7 p8
 have e4:hp s4 st.heap.length=some (.var [iv 0,.nilslice]):=x4.hp (sG (bw e3 (n4 le3)))
 have le4:=hp_lt e4
 refine go2 hl fnil ?_
 refine cR hl (mk _ 1 [2] _ rfl) ?_
 rintro v5 s5 ⟨u5,rfl,q13,q14,q15,p9,p10,x5⟩
 simp only [lo_push,len_push] at p9 p10
 have e5:hp s5 st.heap.length=some (.var [iv 0,.nilslice]):=x5.hp (sG (bw e4 (n4 le4)))
 have le5:=hp_lt e5
 refine go2 (bw7 hl q10 q11 q12 q13 q14 q15) fnil ?_
 refine cR hl (mk _ 0 [1,2] _ rfl) ?_
 rintro v6 s6 ⟨u6,rfl,q16,q17,q18,p11,p12,x6⟩
 simp only [lo_push,len_push] at p11 p12
 have e6:hp s6 st.heap.length=some (.var [iv 0,.nilslice]):=x6.hp (sG (bw e5 (n4 le5)))
 have le6:=hp_lt e6
 refine go2 hl fnil ?_
 refine cR hl (mk _ 1 [] _ rfl) ?_
 rintro v7 s7 ⟨u7,rfl,q19,q20,q21,p13,p14,x7⟩
 simp only [lo_push,len_push] at p13 p14
 have e7:hp s7 st.heap.length=some (.var [iv 0,.nilslice]):=x7.hp (sG (bw e6 (n4 le6)))
 have le7:=hp_lt e7
 refine go2 (bw9 hl q16 q17 q18 q19 q20 q21 e7 (n4 le7)) fnil ?_
 generalize hC:([PV.slice Own.shared 2 [.bool false,elL [0,1,2],.bool false,elL [1,1]],PV.slice Own.shared 2 [.bool false,elL [0,2],.bool true,.nilslice],PV.slice Own.shared 2 [.bool false,elL [0,1,1,2],.bool false,elL [1,2]],PV.slice Own.shared 2 [.bool false,elL [0,1,2],.bool false,elL [1]]]:List PV)=C
 have hcs:C=(knownK.copies.map fun c=>(⟨.slice .shared (c.map LN.lp).length ((c.map LN.lp).flatMap encLP),c.map LN.lp,⟨rfl,fun _ _=>rfl⟩⟩:CP)).flatMap encCP:=by rw [← hC];rfl
 have hlow:∀ m,lowL m C=true:=fun m=>by
  rw [hcs]
  refine lowL_of fun c hc=>?_
  obtain ⟨x,hx,hc⟩:=List.mem_flatMap.1 hc
  obtain ⟨y,_,rfl⟩:=List.mem_map.1 hx
  rw [List.mem_singleton.1 hc]
  simp only [PV.low,lp_flat]
  exact lowL_of fun z hz=>encLN_low hz
 obtain ⟨u,h1,h2⟩:=finish_agg1 (st:=st) (st1:=setVar ((s7.push (.tag true)).push (.tag true)) st.heap.length (.var [iv 3,.slice (.tag (s7.heap.length+1) 1) 4 C])) (a:=3) (v := .slice (.tag (s7.heap.length+1) 1) 4 C) (n:=4) (cs:=C) rfl (by simp only [lo_push,lo_setVar];omega) hlow
 refine fnr_ret (v := .agg [iv 3,.slice (.tag (s7.heap.length+1) 1) 4 C]) (results_one ?_) ?_
 ·rw [rdRes_hp (l:=st.heap.length) (off:=0) (sG hl)]
  simp only [↓reduceIte,go_sem,hl,e7,n4 le7]
  first|done|rfl
 ·rw [h1]
  exact ⟨⟨3,u,_,SlOf.of_sl h2.1 rfl hcs (fun _=>rfl)⟩,rfl,by show (⟨3,_⟩:BK)=knownK;rfl,h2.2⟩
end Go.Den.Ve
end

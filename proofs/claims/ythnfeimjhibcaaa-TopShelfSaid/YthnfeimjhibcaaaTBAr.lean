/- Part of the proofs of laws of the package version. Texts: TqE, TqF, TqG, TqH, TqI, TqJ, TqK, TqL. -/
import Derived.Test.YthnfeimjhibcaaaTBAq
import Derived.Test.YthnfeimjhibcaaaTBAl
set_option linter.unusedSimpArgs false
set_option linter.unusedVariables false
section
namespace Go.Den.Tq
open Go.Den.Tp Go.Den.Ve
def inC (cues:Int) (l:List Int):Bool:=l.all (fun n=>inN n 0 (cues - 1))
theorem c23 (b:QB) (hc:inN b.cues 1 4=true) (L:PV) (l:List Int) (hL:SlOf 1 encI L l) (hN:l.length<1000000) (st:St):Cl EE (.func 23 [] []) [b.pv,L] st (.ret (.bool (inC b.cues l))) st:=by
 have hLs:=hL.slen
 have hk:=fun (n:Int) st=>c56 b hc n st
 refine cF2 pr23 fn23 (fun tm hl h0 h1=>?_)
 refine go2 (bw3 hl h0 h1) fnil ?_
 refine wp_for [5] (fun i vs s=>vs=[iv i]∧i≤l.length∧(∀ k,∀ hk:k<l.length,k<i→inN l[k] 0 (b.cues - 1)=true)∧s=({ heap:=st.heap,lo:=st.heap.length }:St).push (.var [iv b.cues,iv b.tunes,b.v])) (fun i=>l.length - i) ⟨(sR hl),Nat.zero_le _,fun k _ hk=>absurd hk (by omega),rfl⟩ ?_
 rintro i tm1 st1 ⟨hv,hi,hno,rfl⟩ hS
 simp only [List.map_cons,List.map_nil,List.cons.injEq,and_true] at hv
 have hl1:tm1.length=19:=lN hS hl;have i1:tg tm1 1=L:=tQ hS (bw3 hl h0 h1);have i2:tg tm1 2 = .ptr st.heap.length 0:=tQ hS (bw3 hl h0 h1);clear hS
 refine go2 (bw5 hl1 hv i1 i2 hLs) fnil ?_
 refine ⟨decide ((i:Int)<l.length),(sG hl1),fun hd=>?_,fun hd=>?_⟩
 ·have hdf:=of_decide_eq_false hd
  have e:inC b.cues l=true:=by
   unfold inC
   rw [List.all_eq_true]
   intro s hs
   obtain ⟨k,hk,rfl⟩:=List.getElem_of_mem hs
   exact hno k hk (by omega)
  rw [e]
  refine go2 hl1 fnil ?_
  exact fQ hl1
 ·have hlt:i<l.length:=by have:=of_decide_eq_true hd;omega
  have hw1:=wrapS (n:=i) (by omega)
  refine ⟨by omega,?_⟩
  cases hV:inN l[i] 0 (b.cues - 1)
  ·have e:inC b.cues l=false:=by
    unfold inC
    rw [List.all_eq_false]
    exact ⟨_,List.getElem_mem hlt,by rw [hV];simp⟩
   rw [e]
   refine go2 (bw5 hl1 hv i1 i2 hV) (bw hk fnil) ?_
   exact fQ hl1
  ·refine go2 (bw6 hl1 hv i1 i2 hw1 hV) (bw hk fnil) ?_
   refine ⟨(sG hl1),by omega,?_,rfl⟩
   intro j hj hji
   by_cases hje:j=i
   ·subst hje;exact hV
   ·exact hno j hj (by omega)
theorem c7 (b:QB) (hc:inN b.cues 1 4=true) (L:PV) (l:List Int) (hL:SlOf 1 encI L l) (st:St):Cl EE (.func 7 [] []) [b.pv,L] st (.ret (.bool (decide (l.length≤8)&&inC b.cues l))) st:=by
 have hLs:=hL.slen
 refine cF2 pr7 fn7 (fun tm hl h0 h1=>?_)
 by_cases hA:l.length≤8
 ·have hA':decide ((l.length:Int)≤8)=true:=by simp;omega
  rw [decide_eq_true hA,Bool.true_and]
  have hk:=fun st=>c23 b hc L l hL (by omega) st
  refine go2 (bw5 hl h0 h1 hLs hA') (bw hk fnil) ?_
  exact fQ hl
 ·have hA':decide ((l.length:Int)≤8)=false:=by simp;omega
  rw [decide_eq_false hA,Bool.false_and]
  refine go2 (bw5 hl h0 h1 hLs hA') fnil ?_
  exact fQ hl
def tuneB (b:QB) (n:Int):Bool:=!(n != -1&&!inN n 0 (b.tunes - 1))
def tunesB (b:QB) (l:List Int):Bool:=l.all (tuneB b)&&decide (l.length≤8)
def apart:List Int→List Int→Nat
 | a::l,b::m=>(if a=b then 0 else 1)+apart l m
 | _,_=>0
theorem apart_take:∀ {l m:List Int} {i:Nat} (h1:i<l.length) (h2:i<m.length),apart (l.take (i+1)) (m.take (i+1))=apart (l.take i) (m.take i)+if l[i]=m[i] then 0 else 1
 | a::l,b::m,0,_,_=>by simp [apart]
 | a::l,b::m,i+1,h1,h2=>by
  have:=apart_take (l:=l) (m:=m) (i:=i) (by simpa using h1) (by simpa using h2)
  simp only [List.take_succ_cons,apart,this,List.getElem_cons_succ]
  omega
end Go.Den.Tq
end
section
namespace Go.Den.Tq
open Go.Den.Tp Go.Den.Ve
def verS (x:VP):Bool:=(x.ss.take 6).all (fun s=>decide (s.ms.length≤6))&&decide (x.ss.length≤6)
def bookedB (b:QB):Bool:=(b.vs.take 6).all verS&&(decide (b.vs.length≤6)&&(decide (b.tunes≤3)&&qbB b))
theorem take6 {α:Type} {l:List α} {p:α→Bool} {i:Nat} (h0:i=l.length∨i=6) (h:∀ k,∀ hk:k<l.length,k<i→p l[k]=true):(l.take 6).all p=true:=by
 rw [List.all_eq_true]
 intro s hs
 obtain ⟨k,hk,rfl⟩:=List.getElem_of_mem hs
 have hk2:=hk
 rw [List.length_take] at hk2
 rw [List.getElem_take]
 exact h k (by omega) (by omega)
theorem take6_no {α:Type} {l:List α} {p:α→Bool} {i:Nat} (hi:i<l.length) (h6:i<6) (h:p l[i]=false):(l.take 6).all p=false:=by
 rw [List.all_eq_false]
 refine ⟨l[i],?_,by rw [h];simp⟩
 have e:l[i]=(l.take 6)[i]'(by rw [List.length_take];omega):=by rw [List.getElem_take]
 rw [e]
 exact List.getElem_mem _
theorem smQ_of {b:QB} (h1:(b.vs.take 6).all verS=true) (h2:b.vs.length≤6):SmQ b:=by
 rw [List.take_of_length_le h2] at h1
 simp only [List.all_eq_true,verS,Bool.and_eq_true,decide_eq_true_eq] at h1
 refine ⟨by omega,fun x hx=>by have:=(h1 x hx).2;omega,fun x hx s hs=>?_⟩
 have h3:=(h1 x hx).1
 rw [List.take_of_length_le (h1 x hx).2] at h3
 have:=h3 s hs
 omega
set_option maxHeartbeats 2000000 in
theorem c5 (b:QB) (st:St):Cl EE (.func 5 [] []) [b.pv] st (.ret (.bool (bookedB b))) st:=by
 have hbh:=b.h
 refine cF1 pr5 fn5 (fun tm hl h0=>?_)
 refine go2 (bw hl h0) fnil ?_
 refine wp_for [3] (fun i vs s=>vs=[iv i]∧i≤b.vs.length∧i≤6∧(∀ k,∀ hk:k<b.vs.length,k<i→verS b.vs[k]=true)∧st.heap.length≤s.lo∧s.lo≤s.heap.length∧hp s st.heap.length=some (.var [iv b.cues,iv b.tunes,b.v])) (fun i=>6 - i) ⟨(sR hl),Nat.zero_le _,Nat.zero_le _,fun k _ hk=>absurd hk (by omega),by simp [lo_push],by simp [lo_push,len_push],(sG hl)⟩ ?_
 rintro i tm1 st1 ⟨hv,hi,hi6,hno,hlo,hwf,hb⟩ hS
 simp only [List.map_cons,List.map_nil,List.cons.injEq,and_true] at hv
 have hl1:tm1.length=57:=lN hS hl;have i1:tg tm1 1 = .ptr st.heap.length 0:=tQ hS (bw hl h0);clear hS
 have lb:=hp_lt hb
 cases hd:decide ((i:Int)<b.vs.length)
 ·have hdf:=of_decide_eq_false hd
  have hin:i=b.vs.length:=by omega
  have hall:=take6 (p:=verS) (.inl hin) hno
  have h26:b.vs.length≤6:=by omega
  refine go2 (bw6 hl1 hv i1 hb hd (n4 lb)) fnil ?_
  refine ⟨false,(sG hl1),?_,?_⟩
  rotate_left
  ·intro h
   exact absurd h (by decide)
  intro _
  have hd6:decide ((b.vs.length:Int)≤6)=true:=by simp;omega
  have e:bookedB b=(decide (b.tunes≤3)&&qbB b):=by unfold bookedB;rw [hall,decide_eq_true h26];rfl
  rw [e]
  have hk:=fun st=>c21 b (smQ_of hall h26) st
  cases hT:decide (b.tunes≤3)
  ·refine go2 (bw7 hl1 hv i1 hb hd6 hT (n4 lb)) fnil ?_
   exact fQ hl1
  ·refine go2 (bw7 hl1 hv i1 hb hd6 hT (n4 lb)) (bw hk fnil) ?_
   exact fQ hl1
 ·have hlt:i<b.vs.length:=by have:=of_decide_eq_true hd;omega
  cases hd2:decide ((i:Int)<6)
  ·have hdf:=of_decide_eq_false hd2
   have hin:i=6:=by omega
   have hall:=take6 (p:=verS) (.inr hin) hno
   refine go2 (bw7 hl1 hv i1 hb hd hd2 (n4 lb)) fnil ?_
   refine ⟨false,(sG hl1),?_,?_⟩
   rotate_left
   ·intro h
    exact absurd h (by decide)
   intro _
   by_cases h26:b.vs.length≤6
   ·exfalso;omega
   ·have hd6:decide ((b.vs.length:Int)≤6)=false:=by simp;omega
    have e:bookedB b=false:=by unfold bookedB;rw [hall,decide_eq_false h26];rfl
    rw [e]
    refine go2 (bw6 hl1 hv i1 hb hd6 (n4 lb)) fnil ?_
    exact fQ hl1
  ·have hlt6:i<6:=by have:=of_decide_eq_true hd2;omega
   have hw1:=wrapS (n:=i) (by omega)
   have hxh:=(b.vs[i]).h
   have hstop:verS b.vs[i]=false→bookedB b=false:=by
    intro h
    unfold bookedB
    rw [take6_no hlt hlt6 h,Bool.false_and]
   refine go2 (bw7 hl1 hv i1 hb hd hd2 (n4 lb)) fnil ?_
   refine ⟨true,(sG hl1),?_,?_⟩
   ·intro h
    exact absurd h (by decide)
   intro _
   refine ⟨by omega,?_⟩
   refine go2 (bw5 hl1 hv i1 hb (n4 lb)) fnil ?_
   refine wp_for [5] (fun k vs s=>vs=[iv k]∧k≤(b.vs[i]).ss.length∧k≤6∧(∀ j,∀ hj:j<(b.vs[i]).ss.length,j<k→decide ((b.vs[i]).ss[j].ms.length≤6)=true)∧st.heap.length≤s.lo∧s.lo≤s.heap.length∧hp s st.heap.length=some (.var [iv b.cues,iv b.tunes,b.v])∧hp s st1.heap.length=some (.var [(b.vs[i]).v])) (fun k=>6 - k) ⟨(sR hl1),Nat.zero_le _,Nat.zero_le _,fun k _ hk=>absurd hk (by omega),by simp only [lo_push,lo_setVar];omega,by simp only [lo_push,lo_setVar,len_push,len_setVar];omega,(sG (bw hb (n4 lb))),(sG fnil)⟩ ?_
   clear hb hlo hwf lb
   rintro k tm2 st2 ⟨hv2,hk2,hk6,hno2,hlo,hwf,hb,hxv⟩ hS
   simp only [List.map_cons,List.map_nil,List.cons.injEq,and_true] at hv2
   have hl2:tm2.length=57:=lN hS hl1;have j1:tg tm2 1 = .ptr st.heap.length 0:=tQ hS (bw3 hl1 i1 hv);have j3:tg tm2 3=iv i:=tQ hS (bw3 hl1 i1 hv);have j4:tg tm2 4 = .ptr st1.heap.length 0:=tQ hS (bw3 hl1 i1 hv);clear hS
   have lb:=hp_lt hb
   have lx:=hp_lt hxv
   cases hd:decide ((k:Int)<(b.vs[i]).ss.length)
   ·have hdf:=of_decide_eq_false hd
    have hin:k=(b.vs[i]).ss.length:=by omega
    have hall:=take6 (p:=fun s:SP=>decide (s.ms.length≤6)) (.inl hin) hno2
    have h26:(b.vs[i]).ss.length≤6:=by omega
    have hV:verS b.vs[i]=true:=by unfold verS;rw [hall,decide_eq_true h26];rfl
    have hd6:decide (((b.vs[i]).ss.length:Int)>6)=false:=by simp;omega
    refine go2 (bw9 hl2 hv2 j1 j3 j4 hxv hd (n4 lb) (n4 lx)) fnil ?_
    refine ⟨false,(sG hl2),?_,?_⟩
    rotate_left
    ·intro h
     exact absurd h (by decide)
    intro _
    refine go2 (bw10 hl2 hv2 j1 j3 j4 hxv hd6 hw1 (n4 lb) (n4 lx)) fnil ?_
    refine ⟨(sG hl2),by omega,by omega,?_,hlo,hwf,hb⟩
    intro j hj hji
    by_cases hje:j=i
    ·subst hje;exact hV
    ·exact hno j hj (by omega)
   ·have hlt2:k<(b.vs[i]).ss.length:=by have:=of_decide_eq_true hd;omega
    cases hd2:decide ((k:Int)<6)
    ·have hdf:=of_decide_eq_false hd2
     have hin:k=6:=by omega
     have hd6:decide (((b.vs[i]).ss.length:Int)>6)=true:=by simp;omega
     have hV:verS b.vs[i]=false:=by
      unfold verS
      rw [show decide ((b.vs[i]).ss.length≤6)=false by simp;omega,Bool.and_false]
     rw [hstop hV]
     refine go2 (bw10 hl2 hv2 j1 j3 j4 hxv hd hd2 (n4 lb) (n4 lx)) fnil ?_
     refine ⟨false,(sG hl2),?_,?_⟩
     rotate_left
     ·intro h
      exact absurd h (by decide)
     intro _
     refine go2 (bw10 hl2 hv2 j1 j3 j4 hxv hd6 hw1 (n4 lb) (n4 lx)) fnil ?_
     exact fQ hl2
    ·have hlt6:k<6:=by have:=of_decide_eq_true hd2;omega
     have hw2:=wrapS (n:=k) (by omega)
     have hsh:=((b.vs[i]).ss[k]).h
     refine go2 (bw10 hl2 hv2 j1 j3 j4 hxv hd hd2 (n4 lb) (n4 lx)) fnil ?_
     refine ⟨true,(sG hl2),?_,?_⟩
     ·intro h
      exact absurd h (by decide)
     intro _
     refine ⟨by omega,?_⟩
     cases hM:decide ((((b.vs[i]).ss[k]).ms.length:Int)>6)
     ·refine go2 (bw10 hl2 hv2 j1 j3 j4 hxv hM hw2 (n4 lb) (n4 lx)) fnil ?_
      refine ⟨(sG hl2),by omega,by omega,?_,hlo,hwf,hb,hxv⟩
      intro j hj hjk
      by_cases hje:j=k
      ·subst hje
       have:=of_decide_eq_false hM
       simp;omega
      ·exact hno2 j hj (by omega)
     ·have hV:verS b.vs[i]=false:=by
       unfold verS
       rw [take6_no (p:=fun s:SP=>decide (s.ms.length≤6)) hlt2 hlt6 (by have:=of_decide_eq_true hM;simp;omega),Bool.false_and]
      rw [hstop hV]
      refine go2 (bw9 hl2 hv2 j1 j3 j4 hxv hM (n4 lb) (n4 lx)) fnil ?_
      exact fQ hl2
end Go.Den.Tq
end
section
namespace Go.Den.Tq
open Go.Den.Tp Go.Den.Ve
theorem wopsD_callF {E:Env} {QD:Ex→List PV→St→List Foot→Prop} {tm:List PV} {st:St} {f:Opd} {args:List Opd} {dst:Option Nat} {g:Option (Nat×Bool)} {os:List DOper} {b:Bool} {fv:PV} {P:PV→St→Prop} (hw:wants tm g=b) (hb:b=true) {as:List PV} (hf:f.ev tm=fv) (ha:evs tm args=as) (hc:ClR E fv as { st with lo:=st.heap.length } P)
  (h:∀ v st1,P v st1→WOpsD E os (fun e tm' st' fs=>QD e tm' st' (.ch st1.lo st.heap st1.heap::fs)) (put tm dst v) { st1 with lo:=min st.lo st1.lo }):WOpsD E (⟨.call f args,dst,g⟩::os) QD tm st:=by
 subst ha
 obtain ⟨v,st1,⟨N,hN⟩,hP⟩:=hc
 exact wopsD_fine (v:=v) (st1:=st1) (hw.trans hb) N (fun n hn=>by simp only [stepOp,hf,hN n hn]) (h v st1 hP)
structure YldQ {α:Type} (E:Env) (y:PV) (X:List α) (Rep:PV→α→Prop) (W:Nat→Prop) (e u v w:Nat) (q:Nat→Bool) (I:Nat→List HObj→Prop) (S:List HObj→Prop):Prop where
 stab:∀ i h h',I i h→HExt h h'→I i h'
 eu:e≤u
 uv:u≤v
 vw:v≤w
 Ww:∀ l,W l→l≤w
 cell:y.isCell=true
 cells:y.cells=[y]
 step:∀ i (hi:i<X.length) x st,Rep x X[i]→I i st.heap→e≤st.lo→st.lo≤st.heap.length→w<st.heap.length→∃ b st',Cl E y [x] st (.ret (.bool b)) st'∧KeepV W st.heap st'.heap∧e≤st'.lo∧st'.lo≤v∧(b=true→I (i+1) st'.heap∧(q i=true→st'.lo≤u))∧(b=false→S st'.heap∧st'.lo≤u)
def IterQ {α:Type} (E:Env) (f:PV) (st0:St) (X:List α) (Rep:PV→α→Prop) (priv:Nat→Prop):Prop :=
 ∀ (y:PV) (W:Nat→Prop) (e u v w:Nat) (q:Nat→Bool) (I:Nat→List HObj→Prop) (S:List HObj→Prop),YldQ E y X Rep W e u v w q I S→(∀ l,priv l→¬ W l)→I 0 st0.heap→e≤st0.lo→st0.lo≤st0.heap.length→w<st0.heap.length →
  ∃ x st',Cl E f [y] st0 (.ret x) st'∧KeepV W st0.heap st'.heap∧e≤st'.lo∧st'.lo≤st'.heap.length∧((X.length=0∧st'=st0)∨st'.lo≤v)∧((I X.length st'.heap∧∀ i,i<X.length→q i=true→st'.lo≤u)∨(S st'.heap∧st'.lo≤u))
def Left (W:Nat→Prop) (e u v:Nat) (q:Nat→Bool) (I:Nat→List HObj→Prop) (S:List HObj→Prop) (i n:Nat) (st:St) (r:Bool) (st':St):Prop :=
 (r=true→I (i+n) st'.heap∧∀ j,i≤j→j<i+n→q j=true→st'.lo≤u)∧(r=false→S st'.heap∧st'.lo≤u)∧KeepV W st.heap st'.heap∧e≤st'.lo∧st'.lo≤st'.heap.length∧((n=0∧r=true∧st'=st)∨st'.lo≤v)
theorem left_fin {W:Nat→Prop} {e u v:Nat} {q:Nat→Bool} {I:Nat→List HObj→Prop} {S:List HObj→Prop} {i n:Nat} {st st1:St} {r:Bool} (h0:I i st.heap) (he:e≤st.lo) (hwf:st.lo≤st.heap.length) (hw:v<st.heap.length) (hk:KeepV W st.heap st1.heap) (he1:e≤st1.lo)
  (h:(st.heap.length≤st1.lo∧n=0∧r=true)∨(st1.lo≤v∧(r=true→I (i+n) st1.heap∧∀ j,i≤j→j<i+n→q j=true→st1.lo≤u)∧(r=false→S st1.heap∧st1.lo≤u))) :
  ∃ r',(finishCall st st1 (.bool r)).1 = .bool r'∧Left W e u v q I S i n st r' (finishCall st st1 (.bool r)).2:=by
 rcases h with ⟨h1,rfl,rfl⟩|⟨h1,h2,h3⟩
 ·rw [finish_flat h1 rfl]
  exact ⟨true,rfl,(fun _=>⟨h0,fun j h1 h2=>by omega⟩),(fun h=>by cases h),.refl _ _,he,hwf,.inl ⟨rfl,rfl,rfl⟩⟩
 ·unfold finishCall
  rw [if_neg (by omega)]
  exact ⟨r,rfl,fun hr=>⟨(h2 hr).1,fun j j1 j2 j3=>by have:=(h2 hr).2 j j1 j2 j3;show min st.lo st1.lo≤u;omega⟩,fun hr=>⟨(h3 hr).1,by have:=(h3 hr).2;show min st.lo st1.lo≤u;omega⟩,hk,by show e≤min st.lo st1.lo;omega,by show min st.lo st1.lo≤st1.heap.length;have:=hk.1;omega,.inr (by show min st.lo st1.lo≤v;omega)⟩
theorem c104 (F:PV) (l:List Int) (hF:SlOf 1 encI F l) (hN:l.length<1000) (st:St):ClR EE (.func 104 [] []) [F] st (RetS st 1 l.length (l.flatMap encI)):=by
 have h:=hF.sl
 refine cG1 pr104 fn104 (fun tm hl h0=>?_)
 cases F with
 | nilslice =>
  simp only [PV.sl,Option.some.injEq,Prod.mk.injEq] at h
  have:l=[]:=by simpa using h.1.symm
  subst this
  refine go2 (bw hl h0) fnil ?_
  exact fnr_ret (results_one (v := .nilslice) (by rw [rdRes_tmp];simp only [↓reduceIte,go_sem,hl])) (OwnS.nil.finish (by simp) (fun m c hc=>by cases hc))
 | slice o n cs =>
  simp only [PV.sl,Option.some.injEq,Prod.mk.injEq] at h
  obtain ⟨rfl,rfl⟩:=h
  refine go2 (bw hl h0) fnil ?_
  have hO:OwnS st.heap.length ((⟨st.heap,st.heap.length⟩:St).push (.tag true)) 1 (.slice (.tag st.heap.length 1) 0 []) 0 []:=⟨by simp,.inr ⟨_,rfl,Nat.le_refl _,by rw [hp_push,if_pos rfl]⟩⟩
  refine wops_append rfl rfl (sR hl) (sR (bw hl h0)) hO rfl (by simp only [len_push];omega) (by rw [flatMap_len (sz:=1) (fun _ _=>rfl)]) (by simp [encI_map,PV.isCell]) (by simp only [maxList];omega) ?_
  intro v' st2 hO' hFr hk
  refine go2 hl fnil ?_
  refine fnr_ret (results_one (v:=v') (by rw [rdRes_tmp];simp only [↓reduceIte,go_sem,hl])) (OwnS.finish (n:=l.length) (cs:=l.flatMap encI) ?_ ?_ (fun m c hc=>encI_low l m c hc))
  ·have:List.map PV.share (List.flatMap encI l)=List.flatMap encI l:=by simp [encI_map,PV.share]
   simpa [this] using hO'
  ·have:=hFr.lo
   simp only [lo_push] at this
   omega
 | _=>simp [PV.sl] at h
theorem wopsD_appendF {E:Env} {QD:Ex→List PV→St→List Foot→Prop} {tm:List PV} {st:St} {sz:Nat} {x y:Opd} {dst:Option Nat} {g:Option (Nat×Bool)} {os:List DOper} {b:Bool} {m n k:Nat} {v w:PV} {cs ys:List PV} (hlo:st.lo≤st.heap.length) (hw:wants tm g=b) (hb:b=true) (hx:x.ev tm=v) (hy:y.ev tm=w) (ho:OwnS m st sz v n cs) (hyl:w.sl=some (k,ys)) (hm:m≤st.heap.length) (hl:ys.length=k*sz) (hc:ys.all PV.isCell=true) (hn:n+k≤maxList)
  (h:∀ v' st' ft,(∀ l,l<m→clash l ft=false)→OwnS m st' sz v' (n+k) (cs++ys.map PV.share)→Fr m st st'→(∀ l o,hp st l=some o→(∀ b,o ≠ .tag b)→hp st' l=some o)→WOpsD E os (fun e tm' st'' fs=>QD e tm' st'' (ft::fs)) (put tm dst v') st'):WOpsD E (⟨.append false sz x y,dst,g⟩::os) QD tm st:=by
 have ho':OwnS m { st with lo:=st.heap.length } sz v n cs:=ho.keep fun _ _ h=>h
 obtain ⟨v',st1,h1,h2,h3,h4⟩:=ho'.append hm hl hc hn
 refine wopsD_cons (v:=v') (st1:=st1) (hw.trans hb) 0 (fun n _=>?_) ?_
 ·simp only [stepOp,hx,hy]
  cases w <;> simp only [PV.sl,Option.some.injEq,Prod.mk.injEq,reduceCtorEq] at hyl
  ·obtain ⟨rfl,rfl⟩:=hyl;exact h1
  ·obtain ⟨rfl,rfl⟩:=hyl;exact h1
 ·refine h v' { st1 with lo:=min st.lo st1.lo } _ (fun l hl=>?_) (h2.keep fun _ _ h=>h) ⟨h3.len,?_,h3.old,Nat.min_le_left _ _⟩ h4
  ·have:=h3.lo
   simp only at this
   simp only [footOf]
   split
   ·rfl
   ·simp only [clash,decide_eq_false_iff_not];omega
  ·have:=h3.lo
   simp only at this
   show min m st.lo≤min st.lo st1.lo
   omega
def RepL (v:PV) (x:List Int):Prop:=SlOf 1 encI v x∧v.share=elL x
def subL (w:Nat) (k:Nat) (now:List Int):List (List Int):=(listsL w k).map (now++·)
theorem subL_succ (w k:Nat) (now:List Int):subL w (k+1) now=(List.range w).flatMap fun (x:Nat)=>subL w k (now++[(x:Int)]):=by
 simp only [subL,listsL,List.map_flatMap,List.map_map]
 congr 1
 funext x
 congr 1
 funext l
 simp
theorem subL_zero (w:Nat) (now:List Int):subL w 0 now=[now]:=by simp [subL,listsL]
section
variable {y T V:PV} {wd bW bL mY mS e u v0 w:Nat} {q:Nat→Bool} {X:List (List Int)} {W:Nat→Prop} {I:Nat→List HObj→Prop} {S:List HObj→Prop} {long:Nat}
set_option maxHeartbeats 4000000 in
theorem c120 (hwd:wd<1000) (hlong:long<100) (Y:YldQ EE y X RepL W e u v0 w q I S) (hWL:¬ W bL) (hWW:¬ W bW) (hWy:¬ W mY) (hWs:¬ W mS) :
  ∀ (k:Nat) (now:List Int) (v:PV) (st:St) (i:Nat),RepL v now→now.length+k=long→subL wd k now <+: X.drop i→I i st.heap→e≤st.lo→st.lo≤st.heap.length→w<st.heap.length →
   hp st bL=some (.var [iv long])→hp st bW=some (.var [iv wd,T,V])→hp st mY=some (.var [y])→hp st mS=some (.var [.func 120 [] [.ptr bL 0,.ptr mY 0,.ptr bW 0,.ptr mS 0]]) →
   ClR EE (.func 120 [] [.ptr bL 0,.ptr mY 0,.ptr bW 0,.ptr mS 0]) [v] st (fun x st'=>∃ r,x = .bool r∧Left W e u v0 q I S i (subL wd k now).length st r st')
 | 0,now,v,st,i,hv,hlen,hX,hI,helo,hwf,hw,hbL,hbW,hy,hs=>by
  have hvs:=hv.1.slen
  have hbL':hp { heap:=st.heap,lo:=st.heap.length } bL=some (.var [iv long]):=hbL
  have hy':hp { heap:=st.heap,lo:=st.heap.length } mY=some (.var [y]):=hy
  have hbe:((now.length:Int)==(long:Int))=true:=by simp;omega
  rw [subL_zero] at hX ⊢
  obtain ⟨t,ht⟩:=hX
  have hi:i<X.length:=by
   rcases Nat.lt_or_ge i X.length with h|h
   ·exact h
   ·rw [List.drop_eq_nil_of_le h] at ht;cases ht
  have hXi:X[i]=now:=by
   rw [List.drop_eq_getElem_cons hi] at ht
   simp only [List.singleton_append,List.cons.injEq] at ht
   exact ht.1.symm
  refine clr_fn (pr120 · _ _) fn120 5 rfl (by decide) (fun tm hl hg=>?_);have h0:tg tm 0=v:=(hg 0 (by decide));have h1:tg tm 1 = .ptr bL 0:=(hg 1 (by decide));have h2:tg tm 2 = .ptr mY 0:=(hg 2 (by decide));have h3:tg tm 3 = .ptr bW 0:=(hg 3 (by decide));have h4:tg tm 4 = .ptr mS 0:=(hg 4 (by decide));clear hg
  obtain ⟨r,st',hcl,hk,he',hw',hT,hS'⟩:=Y.step i hi v { heap:=st.heap,lo:=st.heap.length } (by rw [hXi];exact hv) hI (by show e≤st.heap.length;omega) (Nat.le_refl _) hw
  refine go2 (bw9 hl h0 h1 h2 h3 hbL' hy' hvs hbe) (bw hcl fnil) ?_
  refine fX (.bool r) hl ?_
  refine left_fin hI helo hwf (by have:=Y.vw;omega) hk he' (.inr ⟨hw',fun hr=>⟨(hT hr).1,fun j j1 j2 j3=>?_⟩,hS'⟩)
  have hj:j=i:=by simp only [List.length_singleton] at j2;omega
  subst hj
  exact (hT hr).2 j3
 | k+1,now,v,st,i,hv,hlen,hX,hI,helo,hwf,hw,hbL,hbW,hy,hs=>by
  have hvs:=hv.1.slen
  have hbL':hp { heap:=st.heap,lo:=st.heap.length } bL=some (.var [iv long]):=hbL
  have hbW':hp { heap:=st.heap,lo:=st.heap.length } bW=some (.var [iv wd,T,V]):=hbW
  have hbe:((now.length:Int)==(long:Int))=false:=by simp;omega
  have h4x:True:=trivial
  refine clr_fn (pr120 · _ _) fn120 5 rfl (by decide) (fun tm hl hg=>?_);have h0:tg tm 0=v:=(hg 0 (by decide));have h1:tg tm 1 = .ptr bL 0:=(hg 1 (by decide));have h2:tg tm 2 = .ptr mY 0:=(hg 2 (by decide));have h3:tg tm 3 = .ptr bW 0:=(hg 3 (by decide));have h4:tg tm 4 = .ptr mS 0:=(hg 4 (by decide));clear hg
  refine go2 (bw9 hl h0 h1 h2 h3 hbL' hbW' hvs hbe) fnil ?_
  have hsg:=subL_succ wd k now
  generalize hg:(fun (x:Nat)=>subL wd k (now++[(x:Int)]))=g at hsg
  have hgn:∀ n,g n=subL wd k (now++[(n:Int)]):=fun n=>by rw [← hg]
  rw [hsg] at hX ⊢
  refine wp_range wd [] (fun n vs st1=>I (i+((List.range n).flatMap g).length) st1.heap∧KeepV W st.heap st1.heap∧e≤st1.lo∧st1.lo≤st1.heap.length∧(∀ j,i≤j→j<i+((List.range n).flatMap g).length→q j=true→st1.lo≤u)∧((st.heap.length≤st1.lo∧((List.range n).flatMap g).length=0)∨st1.lo≤v0)) (by omega) (sG hl) (sG hl) (sG hl) (by decide) ⟨hI,.refl _ _,by show e≤st.heap.length;omega,Nat.le_refl _,(fun j j1 j2=>by simp at j2;omega),.inl ⟨Nat.le_refl _,rfl⟩⟩ ?_ ?_
  ·rintro n hn tm1 st1 ⟨hI1,hk1,he1,hwf1,hq1,hlo1⟩ hS hia
   have hl1:tm1.length=29:=lN hS hl;have i0:tg tm1 0=v:=tQ hS (bw3 hl h0 h4);have i4:tg tm1 4 = .ptr mS 0:=tQ hS (bw3 hl h0 h4);clear hS
   have hs1:hp st1 mS=some (.var [.func 120 [] [.ptr bL 0,.ptr mY 0,.ptr bW 0,.ptr mS 0]]):=hk1.hp hs hWs
   have ls1:=hp_lt hs1
   have hlk:=hk1.1
   refine go2 (bw5 hl1 i0 i4 hia hs1) fnil ?_
   refine wopsD_callS (by first|omega|(simp only [lo_push,lo_setVar,len_push,len_setVar];omega)) rfl rfl (by simp only [↓reduceIte,go_sem,hl1,i0];first|done|rfl) (fun st1 he=>by simp only [↓reduceIte,go_sem,hl1,i0];exact c104 v now hv.1 (by omega) _) ?_
   intro v1 st2 hR
   have hlen2:=hR.len
   have hlo2:=hR.lo
   refine go2 (bw hl1 hia) fnil ?_
   refine wopsD_appendF (by omega) rfl rfl (sR hl1) (sR hl1) (hR.own (Nat.le_refl _)) rfl (by omega) (by rfl) (by rfl) (by simp only [maxList];omega) ?_
   intro v' st3 ft hft hO' hFr hk3
   have hv':RepL v' (now++[(n:Int)]):=⟨SlOf.of_sl hO'.sl (by simp) (by simp [encI_map,share_int]) (fun _=>rfl),share_own hO' (by simp) (by simp [encI_map,share_int]) (by simp)⟩
   have hFr3:Fr st1.heap.length st1 st3:=hR.fr.trans hFr
   have hl13:=hFr3.len
   have hlo13:=hFr3.lo
   have hup13:=hFr3.up
   have hx3:HExt st1.heap st3.heap:=hFr3.hext
   have hk4:=hk1.trans (hx3.keep W)
   have hXn:subL wd k (now++[(n:Int)]) <+: X.drop (i+((List.range n).flatMap g).length):=by
    obtain ⟨r,hr⟩:=flatMap_range_split g hn
    rw [hr] at hX
    rw [← hgn,← List.drop_drop]
    exact prefix_drop hX
   have hrec:=c120 hwd hlong Y hWL hWW hWy hWs k (now++[(n:Int)]) v' { heap:=st3.heap,lo:=st3.heap.length } (i+((List.range n).flatMap g).length) hv' (by simp;omega) hXn (Y.stab _ _ _ hI1 hx3) (by show e≤st3.heap.length;omega) (Nat.le_refl _) (by show w<st3.heap.length;omega) (hk4.hp hbL hWL) (hk4.hp hbW hWW) (hk4.hp hy hWy) (hk4.hp hs hWs)
   refine wopsD_callF rfl rfl (sR hl1) (sR hl1) hrec ?_
   rintro u st5 ⟨r,rfl,hT,hS',hk5,he5,hwf5,hlo5⟩
   have hcnt:=flatMap_range_succ g n
   rw [hgn] at hcnt
   have hf0:=hft mS ls1
   have hk6:KeepV W st.heap st5.heap:=hk4.trans hk5
   cases r
   ·refine go2 (bw hl1 hf0) fnil ?_
    refine fX (.bool false) hl1 ?_
    refine left_fin hI helo hwf (by have:=Y.vw;omega) hk6 (by show e≤min st3.lo st5.lo;omega) (.inr ⟨?_,(fun h=>by cases h),fun hr=>⟨(hS' hr).1,by have:=(hS' hr).2;show min st3.lo st5.lo≤u;omega⟩⟩)
    rcases hlo5 with ⟨_,h2,_⟩|h2
    ·cases h2
    ·show min st3.lo st5.lo≤v0;omega
   ·refine go2 (bw hl1 hf0) fnil ?_
    refine ⟨by rw [hcnt,← Nat.add_assoc];exact (hT rfl).1,hk6,by show e≤min st3.lo st5.lo;omega,by show min st3.lo st5.lo≤st5.heap.length;omega,?_,?_⟩
    ·intro j j1 j2 j3
     show min st3.lo st5.lo≤u
     by_cases hj:j<i+((List.range n).flatMap g).length
     ·have:=hq1 j j1 hj j3
      omega
     ·have:=(hT rfl).2 j (by omega) (by rw [hcnt] at j2;omega) j3
      omega
    rcases hlo5 with ⟨h1,_,rfl⟩|h2
    ·rcases hlo1 with ⟨h3,h4⟩|h3
     ·exact .inl ⟨by show st.heap.length≤min st3.lo st3.heap.length;omega,by omega⟩
     ·exact .inr (by show min st3.lo st3.heap.length≤v0;omega)
    ·exact .inr (by show min st3.lo st5.lo≤v0;omega)
  ·rintro tm1 st1 ⟨hI1,hk1,he1,hwf1,hq1,hlo1⟩ hS
   have hl1:tm1.length=29:=by rw [hS.1];simp only [↓reduceIte,go_sem,hl]
   refine go2 hl1 fnil ?_
   refine fX (.bool true) hl1 ?_
   refine left_fin hI helo hwf (by have:=Y.vw;omega) hk1 he1 ?_
   rcases hlo1 with ⟨h1,h2⟩|h1
   ·exact .inl ⟨h1,h2,rfl⟩
   ·exact .inr ⟨h1,fun _=>⟨hI1,hq1⟩,fun h=>by cases h⟩
end
end Go.Den.Tq
end
section
namespace Go.Den.Tq
open Go.Den.Tp Go.Den.Ve
def BodyQ (W:Nat→Prop) (e u:Nat) (q:Bool) (s0:St) (J:List HObj→Prop) (D:Jump→List HObj→Prop):Ex→List PV→St→Prop:=fun ex _ s3 =>
 KeepV W s0.heap s3.heap∧e≤s3.lo∧s3.lo≤s3.heap.length∧match ex with
  | .normal=>J s3.heap∧(q=true→s3.lo≤u)
  | .ret=>D .ret s3.heap∧s3.lo≤u
  | .exit x=>D (.exit x) s3.heap∧s3.lo≤u
  | .panic _=>False
section
variable {E:Env} {Q:Ex→List PV→St→Prop} {tm:List PV} {st:St}
end
end Go.Den.Tq
end
section
namespace Go.Den.Tq
open Go.Den.Tp Go.Den.Ve
section
variable {α:Type} (p:α→Bool) (X:List α)
def cntF (i:Nat):Nat:=((X.take i).filter p).length
end
def hitP (T:List (List Mv)) (tu:List Int) (l:List Int):Bool:=notedB (plays T 0 l) tu
def hitsL (T:List (List Mv)) (tu:List Int) (wd:Nat):List (List Int):=(listsL wd tu.length).filter (hitP T tu)
end Go.Den.Tq
end
section
namespace Go.Den.Tq
open Go.Den.Tp Go.Den.Ve
abbrev encH (cues:List Int) (x:List Int):List PV:=[elL x,.int .i64 (apart x cues:Nat)]
attribute [go_sem] encH
def fewer (cues:List Int) (x o:List Int):Bool:=decide ((apart x cues:Int)<(apart o cues:Int))
end Go.Den.Tq
end
section
namespace Go.Den.Tq
open Go.Den.Tp Go.Den.Ve
end Go.Den.Tq
end
section
namespace Go.Den.Tq
open Go.Den.Tp Go.Den.Ve
theorem c20 (F G:PV) (l m:List Int) (hF:SlOf 1 encI F l) (hG:SlOf 1 encI G m) (hN:l.length<1000000) (st:St):Cl EE (.func 20 [] []) [F,G] st (.ret (.bool (l==m))) st:=by
 have hFs:=hF.slen
 have hGs:=hG.slen
 refine cF2 pr20 fn20 (fun tm hl h0 h1=>?_)
 cases hd:((l.length:Int) != (m.length:Int))
 ·have hlm:l.length=m.length:=by have:=bne_eq_false_iff_eq.1 hd;omega
  refine go2 (bw6 hl h0 h1 hFs hGs hd) fnil ?_
  refine wp_for [5] (fun i vs st1=>vs=[iv i]∧i≤l.length∧l.take i=m.take i∧st1={ heap:=st.heap,lo:=st.heap.length }) (fun i=>l.length - i) ⟨(sR hl),Nat.zero_le _,rfl,rfl⟩ ?_
  rintro i tm1 st1 ⟨hv,hi,ht,rfl⟩ hS
  simp only [List.map_cons,List.map_nil,List.cons.injEq,and_true] at hv
  have hl1:tm1.length=26:=lN hS hl;have i0:tg tm1 0=F:=tQ hS (bw3 hl h0 h1);have i1:tg tm1 1=G:=tQ hS (bw3 hl h0 h1);clear hS
  refine go2 (bw4 hl1 hv i0 hFs) fnil ?_
  refine ⟨decide ((i:Int)<l.length),(sG hl1),fun hb=>?_,fun hb=>?_⟩
  ·have hlt:=of_decide_eq_false hb
   have hin:i=l.length:=by omega
   have e:(l==m)=true:=by rw [beq_iff_eq];exact eq_of_take hlm (by rw [← hin];exact ht)
   rw [e]
   refine go2 hl1 fnil ?_
   exact fQ hl1
  ·have hlt:i<l.length:=by have:=of_decide_eq_true hb;omega
   have hlt2:i<m.length:=by omega
   have hw1:IntKind.wrap .i64 ((i:Int)+1)=((i+1:Nat):Int):=wrap_nat (n:=i+1) (by omega)
   refine ⟨by omega,?_⟩
   cases hx:(l[i] != m[i])
   ·refine go2 (bw6 hl1 hv i0 i1 hw1 hx) fnil ?_
    exact ⟨(sG hl1),by omega,take_snoc_eq hlt hlt2 ht (bne_eq_false_iff_eq.1 hx),rfl⟩
   ·have e:(l==m)=false:=by
     rw [beq_eq_false_iff_ne]
     intro e
     subst e
     simp at hx
    rw [e]
    refine go2 (bw5 hl1 hv i0 i1 hx) fnil ?_
    exact fQ hl1
 ·have e:(l==m)=false:=by
   rw [beq_eq_false_iff_ne]
   intro e
   subst e
   simp at hd
  rw [e]
  refine go2 (bw6 hl h0 h1 hFs hGs hd) fnil ?_
  exact fQ hl
end Go.Den.Tq
end

/- Part of the proofs of laws of the package version. Texts: TqQ. -/
import Derived.Test.YthnfeimjhibcaaaTAAs
import Derived.Test.YthnfeimjhibcaaaTAAy
set_option linter.unusedSimpArgs false
set_option linter.unusedVariables false
section
namespace Go.Den.Tq
open Go.Den.Tp (EE fn3 pr3 den3)
open Go.Den.Ve
def lineE:LP:=⟨false,.nilslice,[],.nil⟩
theorem lists_few:∀ w,w≤4→∀ k,k≤4→(listsL w k).length≤256:=by decide +kernel
def cpE:CP:=⟨.slice .shared 1 [.bool false,.nilslice],[lineE],⟨rfl,fun _ _=>rfl⟩⟩
def bkE (t:Nat):BP:=⟨3,.slice (.tag t 1) 1 [.slice .shared 1 [.bool false,.nilslice]],[cpE],⟨rfl,fun _ _=>rfl⟩⟩
theorem bkE_pv (t:Nat):(bkE t).pv = .agg [.int .i64 3,.slice (.tag t 1) 1 [.slice .shared 1 [.bool false,.nilslice]]]:=rfl
theorem bkE_ok (t:Nat):bookB (bkE t).bk=true:=rfl
set_option maxHeartbeats 4000000 in
theorem c3 (b:QB) (n:Int) (CU HE:PV) (cues heard:List Int) (hC:SlOf 1 encI CU cues) (hH:SlOf 1 encI HE heard) (st:St):Cl EE (.func 3 [] []) [b.pv,iv n,CU,HE] st (.ret (.bool true)) st:=by
 have hCs:=hC.slen
 have hHs:=hH.slen
 have k5:=fun st=>c5 b st
 have k8:=fun st=>Go.Den.Tz.c8 st
 refine cF4 pr3 fn3 (fun tm hl h0 h1 h2 h3=>?_)
 cases hA:bookedB b
 ·refine go2 (bw6 hl h0 h1 h2 h3 hA) (bw3 k5 k8 fnil) ?_
  exact fQ hl
 have hA':=hA
 simp only [bookedB,Bool.and_eq_true,decide_eq_true_eq] at hA'
 obtain ⟨hs1,hs2,ht3,hq⟩:=hA'
 have hN:=smQ_of hs1 hs2
 have hq':=hq
 simp only [qbB,Bool.and_eq_true,List.all_eq_true] at hq'
 obtain ⟨hc4,ht6,hv4,hall⟩:=hq'
 have k6:=fun st=>c6 b hN n st
 cases hB:inN n 0 ((b.vs.length:Int) - 1)
 ·refine go2 (bw7 hl h0 h1 h2 h3 hA hB) (bw4 k5 k6 k8 fnil) ?_
  exact fQ hl
 cases hd4:decide ((cues.length:Int)>4)
 rotate_left
 ·refine go2 (bw9 hl h0 h1 h2 h3 hA hB hd4 hCs) (bw4 k5 k6 k8 fnil) ?_
  exact fQ hl
 have hl4:cues.length≤4:=by have:=of_decide_eq_false hd4;omega
 cases hne:((heard.length:Int) != (cues.length:Int))
 rotate_left
 ·refine go2 (bw11 hl h0 h1 h2 h3 hA hB hd4 hne hCs hHs) (bw4 k5 k6 k8 fnil) ?_
  exact fQ hl
 have hlen:heard.length=cues.length:=by have:=bne_eq_false_iff_eq.1 hne;omega
 have k7:=fun st=>c7 b hc4 CU cues hC st
 have k7h:=fun st=>c7 b hc4 HE heard hH st
 rw [decide_eq_true (by omega),Bool.true_and] at k7 k7h
 cases hI:inC b.cues cues
 ·refine go2 (bw12 hl h0 h1 h2 h3 hA hB hd4 hne hI hCs hHs) (bw5 k5 k6 k7 k8 fnil) ?_
  exact fQ hl
 cases hJ:inC b.cues heard
 ·refine go2 (bw13 hl h0 h1 h2 h3 hA hB hd4 hne hI hJ hCs hHs) (bw6 k5 k6 k7 k7h k8 fnil) ?_
  exact fQ hl
 have hIC:=inC_iff.1 hI
 have hJC:=inC_iff.1 hJ
 simp only [inN,Bool.and_eq_true,decide_eq_true_eq] at hB
 obtain ⟨m,rfl⟩:∃ m:Nat,n=m:=⟨n.toNat,by omega⟩
 have hm:m<b.vs.length:=by omega
 have hB':inN (m:Int) 0 ((b.vs.length:Int) - 1)=true:=by simp only [inN,Bool.and_eq_true,decide_eq_true_eq];omega
 have hV:=okV_iff.1 (hall _ (List.getElem_mem hm))
 refine go2 (bw13 hl h0 h1 h2 h3 hA hB' hd4 hne hI hJ hCs hHs) (bw6 k5 k6 k7 k7h k8 fnil) ?_
 have d0:hp (setVar ((((({ heap:=st.heap,lo:=st.heap.length }:St).push (.var [iv b.cues,iv b.tunes,b.v])).push (.tag true)).push (.tag true)).push (.var [iv 0,.nilslice])) (st.heap.length+3) (.var [iv 3,.slice (.tag (st.heap.length+2) 1) 1 [.slice .shared 1 [.bool false,.nilslice]]])) st.heap.length=some (.var [iv b.cues,iv b.tunes,b.v]):=by simp only [↓reduceIte,go_sem]
 have d3:hp (setVar ((((({ heap:=st.heap,lo:=st.heap.length }:St).push (.var [iv b.cues,iv b.tunes,b.v])).push (.tag true)).push (.tag true)).push (.var [iv 0,.nilslice])) (st.heap.length+3) (.var [iv 3,.slice (.tag (st.heap.length+2) 1) 1 [.slice .shared 1 [.bool false,.nilslice]]])) (st.heap.length+3)=some (.var [iv 3,.slice (.tag (st.heap.length+2) 1) 1 [.slice .shared 1 [.bool false,.nilslice]]]):=by simp only [↓reduceIte,go_sem]
 have dlo:st.heap.length≤(setVar ((((({ heap:=st.heap,lo:=st.heap.length }:St).push (.var [iv b.cues,iv b.tunes,b.v])).push (.tag true)).push (.tag true)).push (.var [iv 0,.nilslice])) (st.heap.length+3) (.var [iv 3,.slice (.tag (st.heap.length+2) 1) 1 [.slice .shared 1 [.bool false,.nilslice]]])).lo:=by simp only [lo_setVar,lo_push];omega
 generalize setVar ((((({ heap:=st.heap,lo:=st.heap.length }:St).push (.var [iv b.cues,iv b.tunes,b.v])).push (.tag true)).push (.tag true)).push (.var [iv 0,.nilslice])) (st.heap.length+3) (.var [iv 3,.slice (.tag (st.heap.length+2) 1) 1 [.slice .shared 1 [.bool false,.nilslice]]])=s0 at d0 d3 dlo ⊢
 refine cR (bw3 hl h1 h2) (c9 b hN hq m hm CU cues hC (by omega) hIC _) ?_
 rintro v1 s1 ⟨P,rfl,hP⟩
 have hx1:=keepW hP
 have hPs:SlOf 1 encI P (plays (b.vs[m]).t 0 cues):=SlOf.of_sl hP.1 (plays_len _ _ _).symm rfl (fun _=>rfl)
 have d01:=hx1.hp d0
 have d31:=hx1.hp d3
 have ld01:=hp_lt d01
 refine go2 (bw7 hl h0 h1 h2 h3 d01 (n4 ld01)) fnil ?_
 refine cR (bw3 hl h1 h3) (c9 b hN hq m hm HE heard hH (by omega) hJC _) ?_
 rintro v2 s2 ⟨Q,rfl,hQ⟩
 have hx2:=keepW hQ
 have hQs:SlOf 1 encI Q (plays (b.vs[m]).t 0 heard):=SlOf.of_sl hQ.1 (plays_len _ _ _).symm rfl (fun _=>rfl)
 have d02:=hx2.hp d01
 have d32:=hx2.hp d31
 have ld02:=hp_lt d02
 have z0:((0:Int) != 0)=false:=rfl
 have hPsl:=hPs.slen
 have hQsl:=hQs.slen
 rw [plays_len] at hPsl hQsl
 have hle1:((cues.length:Int) != (cues.length:Int))=false:=by simp
 have hle2:((heard.length:Int) != (cues.length:Int))=false:=hne
 have hpt:=hV.tunes cues hIC
 have hqt:=hV.tunes heard hJC
 have tOK:∀ l:List Int,l.length≤4→(∀ t∈l,0≤t∧t<b.tunes)→tunesB b l=true:=by
  intro l h4 hl
  unfold tunesB
  rw [Bool.and_eq_true,List.all_eq_true,decide_eq_true_eq]
  refine ⟨fun t ht=>?_,by omega⟩
  unfold tuneB
  have:inN t 0 (b.tunes - 1)=true:=by
   have:=hl t ht
   simp only [inN,Bool.and_eq_true,decide_eq_true_eq];omega
  rw [this];simp
 have e1:=tOK _ (by rw [plays_len];omega) hpt
 have e2:=tOK _ (by rw [plays_len];omega) hqt
 have k10:=fun st=>c10 b ht6 P _ hPs (by rw [plays_len];omega) st
 have k10q:=fun st=>c10 b ht6 Q _ hQs (by rw [plays_len];omega) st
 rw [e1] at k10
 rw [e2] at k10q
 refine go2 (bw13 hl h0 h1 h2 h3 d02 z0 hPsl hQsl hCs hle1 hle2 (n4 ld02)) (bw3 k10 k10q fnil) ?_
 obtain ⟨wd,hwd⟩:∃ wd:Nat,b.cues=wd:=⟨b.cues.toNat,by simp only [inN,Bool.and_eq_true,decide_eq_true_eq] at hc4;omega⟩
 have hwt:b.cues.toNat=wd:=by omega
 obtain ⟨hne1,hlaw⟩:=noted_law hV hwd hIC hJC hlen
 have hX9:(hitsL (b.vs[m]).t (plays (b.vs[m]).t 0 heard) wd).length<1000000:=by
  have h1:=lists_few wd (by simp only [inN,Bool.and_eq_true,decide_eq_true_eq] at hc4;omega) (plays (b.vs[m]).t 0 heard).length (by rw [plays_len];omega)
  have h2:(hitsL (b.vs[m]).t (plays (b.vs[m]).t 0 heard) wd).length≤(listsL wd (plays (b.vs[m]).t 0 heard).length).length:=List.length_filter_le _ _
  omega
 have hhd:heardB b (plays (b.vs[m]).t 0 heard)=true:=by
  unfold heardB
  rw [Bool.and_eq_true,List.all_eq_true,decide_eq_true_eq]
  refine ⟨by rw [plays_len];omega,fun t ht=>?_⟩
  have:=hqt t ht
  simp only [inN,Bool.or_eq_true,Bool.and_eq_true,decide_eq_true_eq];omega
 have h11:=c11 b hN hq m hm CU Q cues _ hC hQs (by omega) hIC hhd (by rw [plays_len];omega) (by rw [hwt];exact hne1) (by rw [hwt];exact hX9) s2
 refine cR (bw3 hl h1 h2) (h11) ?_
 rintro v3 s3 ⟨R,o,ho,rfl,hx3⟩
 rw [hwt] at ho
 obtain ⟨hfew,hzero⟩:=hlaw o ho
 have d33:=hx3.hp d32
 have ld33:=hp_lt d33
 have lOK:∀ l:List Int,l.length≤4→(∀ t∈l,0≤t∧t<b.tunes)→lineB 3 l=true:=fun l h4 hl=>lineB_iff.2 ⟨h4,fun t ht=>by have:=hl t ht;omega⟩
 have f1:=lOK _ (by rw [plays_len];omega) hpt
 have f2:=lOK _ (by rw [plays_len];omega) hqt
 have h12:=fun st'=>c12 (bkE (st.heap.length+2)) ⟨by simp [bkE],fun c hc=>by simp [bkE] at hc;subst hc;simp [cpE]⟩ P Q _ _ hPs hQs st'
 rw [bkE_ok,show (bkE (st.heap.length+2)).words=3 from rfl,f1,f2,bkE_pv] at h12
 simp only [Bool.and_self,if_true] at h12
 have k13:=fun st=>c13 P Q _ _ hPs hQs (by rw [plays_len,plays_len];omega) (by rw [plays_len];omega) st
 have k13h:=fun st=>c13 CU HE _ _ hC hH (by omega) (by omega) st
 have g1:decide (((lev (plays (b.vs[m]).t 0 cues) (plays (b.vs[m]).t 0 heard):Nat):Int)≤((apart (plays (b.vs[m]).t 0 cues) (plays (b.vs[m]).t 0 heard):Nat):Int))=true:=by
  have:=lev_apart (l:=plays (b.vs[m]).t 0 cues) (m:=plays (b.vs[m]).t 0 heard) (by rw [plays_len,plays_len];omega)
  simp;omega
 have g2:decide (((apart o cues:Nat):Int)≥0)=true:=by simp
 have g3:decide (((apart o cues:Nat):Int)≤((apart cues heard:Nat):Int))=true:=by simp;omega
 have hlx:s2.lo=s1.lo∧s1.lo=s0.lo∧s3.lo=s2.lo:=⟨hx2.2,hx1.2,hx3.2⟩
 have bT:(true==true)=true:=rfl
 have bF:(false==false)=true:=rfl
 by_cases hpq:plays (b.vs[m]).t 0 cues=plays (b.vs[m]).t 0 heard
 ·have y1:(((lev (plays (b.vs[m]).t 0 cues) (plays (b.vs[m]).t 0 heard):Nat):Int)==0)=true:=by rw [beq_iff_eq];have:=lev_zero.2 hpq;omega
  have y2:(((apart o cues:Nat):Int)==0)=true:=by rw [beq_iff_eq];have:=hzero.2 hpq;omega
  refine go2 (bw14 hl h1 h2 h3 d33 z0 g1 g2 g3 y1 y2 bT bF (n4 ld33)) (bw5 h12 k13 k13h k8 fnil) ?_
  have hlz:=hlx.1
  have hly:=hlx.2.1
  have hlw:=hlx.2.2
  exact fQ hl
 ·have y1:(((lev (plays (b.vs[m]).t 0 cues) (plays (b.vs[m]).t 0 heard):Nat):Int)==0)=false:=by
   rw [beq_eq_false_iff_ne]
   have h9:lev (plays (b.vs[m]).t 0 cues) (plays (b.vs[m]).t 0 heard)≠0:=fun h=>hpq (lev_zero.1 h)
   omega
  have y2:(((apart o cues:Nat):Int)==0)=false:=by
   rw [beq_eq_false_iff_ne]
   have h9:apart o cues≠0:=fun h=>hpq (hzero.1 h)
   omega
  refine go2 (bw14 hl h1 h2 h3 d33 z0 g1 g2 g3 y1 y2 bT bF (n4 ld33)) (bw5 h12 k13 k13h k8 fnil) ?_
  have hlz:=hlx.1
  have hly:=hlx.2.1
  have hlw:=hlx.2.2
  exact fQ hl
end Go.Den.Tq
end

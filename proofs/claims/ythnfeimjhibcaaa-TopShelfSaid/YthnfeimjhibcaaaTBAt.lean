/- Part of the proofs of laws of the package version. Texts: TcA, TcB, TcC, TcD, TcE, TcF. -/
import Derived.Test.YthnfeimjhibcaaaTBAq
import Derived.Test.YthnfeimjhibcaaaTBAo
import Derived.Test.YthnfeimjhibcaaaTBAk
set_option linter.unusedSimpArgs false
set_option linter.unusedVariables false
section
namespace Go.Den.Tp
open Go.Den.Ch (Fig CL Flt inB figB listB packB layerL layersL key brk disB disA disorder fullL gapL fault)
def zeroF:PV := .agg [.int .i64 0,.int .i64 0,.int .i64 0]
abbrev iv (n:Int):PV := .int .i64 n
abbrev encI (n:Int):List PV:=[.int .i64 n]
abbrev encF (f:Fig):List PV:=[.int .i64 f.size,.int .i64 f.rank,.int .i64 f.eve]
abbrev figPV (f:Fig):PV := .agg (encF f)
abbrev clPV (c:CL) (F:PV):PV := .agg [.int .i64 c.room,.int .i64 c.depth,F]
abbrev paPV (c:CL) (F P:PV):PV := .agg [.int .i64 c.room,.int .i64 c.depth,F,P]
abbrev fltPV (f:Flt):PV := .agg [.int .i64 f.rule,.int .i64 f.one,.int .i64 f.other]
attribute [go_sem] iv encI encF figPV clPV paPV fltPV
def inI (n:Int):Prop := -9223372036854775808≤n∧n<9223372036854775808
theorem wrap_in {n:Int} (h:inI n):IntKind.wrap .i64 n=n:=by
 unfold inI at h
 simp [IntKind.wrap,IntKind.bits,IntKind.signed]
 omega
theorem c97 (x lo hi:Int) (st:St):Cl EE (.func 97 [] []) [iv x,iv lo,iv hi] st (.ret (.bool (inB x lo hi))) st:=by
 refine cF3 pr97 fn97 (fun tm hl h0 h1 h2=>?_)
 have e:inB x lo hi=(decide (x≥lo)&&decide (x≤hi)):=rfl
 rw [e]
 cases hd:decide (x≥lo)
 ·refine go2 (bw5 hl h0 h1 h2 hd) fnil ?_
  exact fQ hl
 ·refine go2 (bw5 hl h0 h1 h2 hd) fnil ?_
  exact fQ hl
theorem c133 (f:Fig) (hf:figB f=true) (st:St):Cl EE (.func 133 [] []) [figPV f] st (.ret (iv (key 0 f))) st:=by
 simp only [figB,inB,Bool.and_eq_true,decide_eq_true_eq] at hf
 have e:key 0 f=IntKind.wrap .i64 (0 - f.rank):=by
  rw [wrap_in (by unfold inI;omega)];simp [key]
 rw [e]
 refine cF1 pr133 fn133 (fun tm hl h0=>?_)
 refine go2 (bw hl h0) fnil ?_
 exact fQ hl
theorem c134 (f:Fig) (st:St):Cl EE (.func 134 [] []) [figPV f] st (.ret (iv (key 1 f))) st:=by
 refine cF1 pr134 fn134 (fun tm hl h0=>?_)
 refine go2 (bw hl h0) fnil ?_
 exact fQ hl
theorem c100 (f:Fig) (st:St):Cl EE (.func 100 [] []) [figPV f] st (.ret (.bool (figB f))) st:=by
 refine cF1 pr100 fn100 (fun tm hl h0=>?_)
 cases hA:inB f.size 1 9
 ·have e:figB f=false:=by simp [figB,hA]
  rw [e]
  refine go2 (bw3 hl h0 hA) (bw c97 fnil) ?_
  exact fQ hl
 ·cases hB:inB f.rank 1 5
  ·have e:figB f=false:=by simp [figB,hB]
   rw [e]
   refine go2 (bw4 hl h0 hA hB) (bw c97 fnil) ?_
   exact fQ hl
  ·have e:figB f=inB f.eve 0 5:=by simp [figB,hA,hB]
   rw [e]
   refine go2 (bw4 hl h0 hA hB) (bw c97 fnil) ?_
   exact fQ hl
theorem c99 (f:Fig) (st:St):Cl EE (.func 99 [] []) [figPV f] st (.ret (.bool (!figB f))) st:=by
 refine cF1 pr99 fn99 (fun tm hl h0=>?_)
 refine go2 (bw hl h0) (bw c100 fnil) ?_
 exact fQ hl
theorem c106 (c:CL) (F:PV) (hF:F.cells=[F]) (n:Int) (st:St) (b:Nat) (hb:hp st b=some (.var [iv c.room,iv c.depth,F])) (hd:inB c.depth 1 5=true):Cl EE (.func 106 [] [.ptr b 0]) [iv n] st (.ret (.bool (!inB n 0 (c.depth - 1)))) st:=by
 refine cF2 pr106 fn106 (fun tm hl h0 h1=>?_)
 simp only [inB,Bool.and_eq_true,decide_eq_true_eq] at hd
 have hw:IntKind.wrap .i64 (c.depth - 1)=c.depth - 1:=wrap_in (by unfold inI;omega)
 have hb':hp { heap:=st.heap,lo:=st.heap.length } b=some (.var [iv c.room,iv c.depth,F]):=hb
 refine go2 (bw5 hl h0 h1 hb' hw) (bw c97 fnil) ?_
 exact fQ hl
theorem c135 (F:PV) (l:List Int) (hF:SlOf 1 encI F l) (hN:l.length<1000) (hb:∀ k,inI (l.take k).sum) (st:St):Cl EE (.func 135 [] []) [F] st (.ret (iv l.sum)) st:=by
 refine cF1 pr135 fn135 (fun tm hl h0=>?_)
 have hs:=hF.slen
 refine go2 (bw3 hl h0 hs) fnil ?_
 refine wp_range l.length [3] (fun i vs st'=>vs=[iv (l.take i).sum]∧st'={ heap:=st.heap,lo:=st.heap.length }) (by omega) (sG hl) (sG hl) (sG hl) (by decide) ⟨(sR hl),rfl⟩ ?_ ?_
 ·rintro i hi tm1 st1 ⟨hv,rfl⟩ hS hia
  simp only [List.map_cons,List.map_nil,List.cons.injEq,and_true] at hv
  have hl1:tm1.length=17:=by rw [hS.1];simp only [↓reduceIte,go_sem,hl]
  have h6:tg tm1 6=F:=by rw [hS.2 6 (by decide)];simp only [↓reduceIte,go_sem,hl]
  refine go2 (bw4 hl1 h6 hia hv) fnil ?_
  refine ⟨?_,rfl⟩
  have h3:=hb (i+1)
  rw [List.take_succ_eq_append_getElem hi,List.sum_append_int,List.sum_singleton] at h3 ⊢
  simp only [↓reduceIte,go_sem,hl1,wrap_in h3]
 ·rintro tm1 st1 ⟨hv,rfl⟩ hS
  simp only [List.map_cons,List.map_nil,List.cons.injEq,and_true] at hv
  have hl1:tm1.length=17:=by rw [hS.1];simp only [↓reduceIte,go_sem,hl]
  refine go2 (bw hl1 hv) fnil ?_
  refine fnq_flat ?_ (Nat.le_refl _) (by rfl)
  exact results_one (by rw [rdRes_tmp];simp only [↓reduceIte,go_sem,hl1,List.take_length])
def idxI {α:Type} (p:α→Bool) (l:List α):Int:=if l.any p then (l.findIdx p:Int) else -1
theorem idxI_ge {α:Type} (p:α→Bool) (l:List α):decide (idxI p l≥0)=l.any p:=by
 unfold idxI
 cases l.any p <;> simp
theorem idxI_at {α:Type} {p:α→Bool} {l:List α} {i:Nat} (hi:i<l.length) (h0:∀ k (hk:k<i),p (l[k]'(by omega))=false) (h:p l[i]=true):idxI p l=i:=by
 unfold idxI
 have h1:l.any p=true:=List.any_eq_true.2 ⟨l[i],List.getElem_mem hi,h⟩
 rw [if_pos h1]
 congr 1
 rw [List.findIdx_eq hi]
 exact ⟨h,fun j hj=>by simpa using h0 j hj⟩
theorem idxI_no {α:Type} {p:α→Bool} {l:List α} (h0:∀ k (hk:k<l.length),p l[k]=false):idxI p l = -1:=by
 unfold idxI
 rw [if_neg]
 intro h
 obtain ⟨x,hx,h1⟩:=List.any_eq_true.1 h
 obtain ⟨k,hk,rfl⟩:=List.getElem_of_mem hx
 rw [h0 k hk] at h1
 cases h1
theorem c132 (F:PV) (l:List Fig) (hF:SlOf 3 encF F l) (hN:l.length<1000) (g:Nat) (ga gc:List PV) (p:Fig→Bool) (st:St) (hg0:∀ st',st'.heap=st.heap→∀ a∈l,Cl EE (.func g ga gc) [figPV a] st' (.ret (.bool (p a))) st'):Cl EE (.func 132 [] []) [F,.func g ga gc] st (.ret (iv (idxI p l))) st:=by
 refine cF2 pr132 fn132 (fun tm hl h0 h1=>?_)
 have hs:=hF.slen
 refine go2 (bw4 hl h0 h1 hs) fnil ?_
 refine wp_range l.length [] (fun i vs st'=>st'={ heap:=st.heap,lo:=st.heap.length }∧∀ k (hk:k<i) (hl:k<l.length),p l[k]=false) (by omega) (sG hl) (sG hl) (sG hl) (by decide) ⟨rfl,fun k hk=>absurd hk (by omega)⟩ ?_ ?_
 ·rintro i hi tm1 st1 ⟨rfl,hk⟩ hS hia
  have hl1:tm1.length=19:=by rw [hS.1];simp only [↓reduceIte,go_sem,hl]
  have i0:tg tm1 0=F:=by rw [hS.2 0 (by decide)];simp only [↓reduceIte,go_sem,hl,h0]
  have i1:tg tm1 1 = .func g ga gc:=by rw [hS.2 1 (by decide)];simp only [↓reduceIte,go_sem,hl,h1]
  have hb:=hg0 { heap:=st.heap,lo:=st.heap.length } rfl l[i] (List.getElem_mem hi)
  cases hp:p l[i]
  ·rw [hp] at hb
   refine go2 (bw4 hl1 i0 i1 hia) (bw hb fnil) ?_
   refine ⟨rfl,fun k hk1 hk2=>?_⟩
   by_cases hki:k=i
   ·subst hki;exact hp
   ·exact hk k (by omega) hk2
  ·rw [hp] at hb
   rw [idxI_at hi (fun k hk1=>hk k hk1 (by omega)) hp]
   refine go2 (bw4 hl1 i0 i1 hia) (bw hb fnil) ?_
   exact fQ hl1
 ·rintro tm1 st1 ⟨rfl,hk⟩ hS
  have hl1:tm1.length=19:=by rw [hS.1];simp only [↓reduceIte,go_sem,hl]
  rw [idxI_no (fun k hk1=>hk k hk1 hk1)]
  refine go2 hl1 fnil ?_
  exact fQ hl1
theorem c98 (F:PV) (l:List Fig) (hF:SlOf 3 encF F l) (hN:l.length<1000) (g:Nat) (ga gc:List PV) (p:Fig→Bool) (st:St) (hg0:∀ st',st'.heap=st.heap→∀ a∈l,Cl EE (.func g ga gc) [figPV a] st' (.ret (.bool (p a))) st'):Cl EE (.func 98 [] []) [F,.func g ga gc] st (.ret (.bool (l.any p))) st:=by
 refine cF2 pr98 fn98 (fun tm hl h0 h1=>?_)
 rw [← idxI_ge]
 refine go2 (bw3 hl h0 h1) (bw (c132 F l hF hN g ga gc p ⟨st.heap,st.heap.length⟩ hg0) fnil) ?_
 exact fQ hl
theorem c116 (F:PV) (l:List Int) (hF:SlOf 1 encI F l) (hN:l.length<1000) (g:Nat) (ga gc:List PV) (p:Int→Bool) (st:St) (hg0:∀ st',st'.heap=st.heap→∀ a∈l,Cl EE (.func g ga gc) [iv a] st' (.ret (.bool (p a))) st'):Cl EE (.func 116 [] []) [F,.func g ga gc] st (.ret (iv (idxI p l))) st:=by
 refine cF2 pr116 fn116 (fun tm hl h0 h1=>?_)
 have hs:=hF.slen
 refine go2 (bw4 hl h0 h1 hs) fnil ?_
 refine wp_range l.length [] (fun i vs st'=>st'={ heap:=st.heap,lo:=st.heap.length }∧∀ k (hk:k<i) (hl:k<l.length),p l[k]=false) (by omega) (sG hl) (sG hl) (sG hl) (by decide) ⟨rfl,fun k hk=>absurd hk (by omega)⟩ ?_ ?_
 ·rintro i hi tm1 st1 ⟨rfl,hk⟩ hS hia
  have hl1:tm1.length=19:=by rw [hS.1];simp only [↓reduceIte,go_sem,hl]
  have i0:tg tm1 0=F:=by rw [hS.2 0 (by decide)];simp only [↓reduceIte,go_sem,hl,h0]
  have i1:tg tm1 1 = .func g ga gc:=by rw [hS.2 1 (by decide)];simp only [↓reduceIte,go_sem,hl,h1]
  have hb:=hg0 { heap:=st.heap,lo:=st.heap.length } rfl l[i] (List.getElem_mem hi)
  cases hp:p l[i]
  ·rw [hp] at hb
   refine go2 (bw4 hl1 i0 i1 hia) (bw hb fnil) ?_
   refine ⟨rfl,fun k hk1 hk2=>?_⟩
   by_cases hki:k=i
   ·subst hki;exact hp
   ·exact hk k (by omega) hk2
  ·rw [hp] at hb
   rw [idxI_at hi (fun k hk1=>hk k hk1 (by omega)) hp]
   refine go2 (bw4 hl1 i0 i1 hia) (bw hb fnil) ?_
   exact fQ hl1
 ·rintro tm1 st1 ⟨rfl,hk⟩ hS
  have hl1:tm1.length=19:=by rw [hS.1];simp only [↓reduceIte,go_sem,hl]
  rw [idxI_no (fun k hk1=>hk k hk1 hk1)]
  refine go2 hl1 fnil ?_
  exact fQ hl1
theorem c71 (F:PV) (l:List Int) (hF:SlOf 1 encI F l) (hN:l.length<1000) (g:Nat) (ga gc:List PV) (p:Int→Bool) (st:St) (hg0:∀ st',st'.heap=st.heap→∀ a∈l,Cl EE (.func g ga gc) [iv a] st' (.ret (.bool (p a))) st'):Cl EE (.func 71 [] []) [F,.func g ga gc] st (.ret (.bool (l.any p))) st:=by
 refine cF2 pr71 fn71 (fun tm hl h0 h1=>?_)
 rw [← idxI_ge]
 refine go2 (bw3 hl h0 h1) (bw (c116 F l hF hN g ga gc p ⟨st.heap,st.heap.length⟩ hg0) fnil) ?_
 exact fQ hl
theorem c47 (c:CL) (F:PV) (hF:SlOf 3 encF F c.figs) (st:St):Cl EE (.func 47 [] []) [clPV c F] st (.ret (.bool (listB c))) st:=by
 have hs:=hF.slen
 have hc:=hF.cells
 refine cF1 pr47 fn47 (fun tm hl h0=>?_)
 cases hA:inB c.room 1 20
 ·have e:listB c=false:=by simp [listB,hA]
  rw [e]
  refine go2 (bw3 hl h0 hA) (bw c97 fnil) ?_
  exact fQ hl
 ·cases hB:inB c.depth 1 5
  ·have e:listB c=false:=by simp [listB,hB]
   rw [e]
   refine go2 (bw4 hl h0 hA hB) (bw c97 fnil) ?_
   exact fQ hl
  ·by_cases hC:c.figs.length≤6
   ·have e:listB c=!(c.figs.any fun f=>!figB f):=by
     simp [listB,hA,hB,hC,List.all_eq_not_any_not]
    have hC':decide ((c.figs.length:Int)≤6)=true:=by simp;omega
    rw [e]
    refine go2 (bw6 hl h0 hA hB hC' hs) (bw3 c97 (fun st=>c98 F c.figs hF (by omega) 99 [] [] (fun f=>!figB f) st (fun st' _ a _=>c99 a st')) fnil) ?_
    exact fQ hl
   ·have e:listB c=false:=by simp [listB,hC]
    have hC':decide ((c.figs.length:Int)≤6)=false:=by simp;omega
    rw [e]
    refine go2 (bw6 hl h0 hA hB hC' hs) (bw c97 fnil) ?_
    exact fQ hl
theorem c52 (c:CL) (F P:PV) (p:List Int) (hF:SlOf 3 encF F c.figs) (hP:SlOf 1 encI P p) (hc:listB c=true) (st:St):Cl EE (.func 52 [] []) [clPV c F,P] st (.ret (.bool (packB c p))) st:=by
 have hs:=hF.slen
 have hs2:=hP.slen
 have hcl:=hF.cells
 simp only [listB,Bool.and_eq_true,decide_eq_true_eq] at hc
 refine cF2 pr52 fn52 (fun tm hl h0 h1=>?_)
 by_cases hA:p.length=c.figs.length
 ·have e:packB c p=!(p.any fun n=>!inB n 0 (c.depth - 1)):=by simp [packB,hA,List.all_eq_not_any_not]
  have hA':((p.length:Int)==(c.figs.length:Int))=true:=by simp;omega
  rw [e]
  repeat (first|apply wp_seq|apply wp_region_ops|apply wp_dregion_ops|apply wp_block_seq|apply wp_block_region|apply wp_block_cond|apply wp_block_dregion|apply wp_scope|apply wp_ret|apply wp_skip|apply wp_exit|apply andThen_normal|apply andThen_ret|apply andThen_exit|apply andThen_panic|apply inBlock_panic|apply inBlock_normal|apply inBlock_ret|apply inBlock_same|(apply inBlock_other (by decide))|apply wops_nil|(refine wops_one' (by simp only [go_sem,hl,h0,h1,hA',hs,hs2];first|done|rfl) (by with_reducible rfl) (fun rec=>by simp only [go_sem,hl,h0,h1,hA',hs,hs2];with_reducible rfl) (by with_reducible rfl) ?_)|(refine wops_index (by simp only [go_sem,hl,h0,h1,hA',hs,hs2];first|done|rfl) (by with_reducible rfl) (by simp only [go_sem,hl,h0,h1,hA',hs,hs2];first|done|rfl) (by assumption) (by simp only [go_sem,hl,h0,h1,hA',hs,hs2];first|done|rfl) (by first|assumption|omega) ?_)|(refine wops_indexI (by simp only [go_sem,hl,h0,h1,hA',hs,hs2];first|done|rfl) (by with_reducible rfl) (by simp only [go_sem,hl,h0,h1,hA',hs,hs2];first|done|rfl) (by assumption) (by simp only [go_sem,hl,h0,h1,hA',hs,hs2];first|done|rfl) (by first|assumption|omega) (by first|assumption|omega) ?_)|(refine wopsD_pure' (by first|omega|(simp only [lo_push,lo_setVar,len_push,len_setVar];omega)) (by simp only [go_sem,hl,h0,h1,hA',hs,hs2];first|done|rfl) (by with_reducible rfl) (fun rec st1 he hh=>by simp only [go_sem,hl,h0,h1,hA',hs,hs2,he,hh];with_reducible rfl) ?_)|(refine wopsD_push (by first|omega|(simp only [lo_push,lo_setVar,len_push,len_setVar];omega)) (by simp only [go_sem,hl,h0,h1,hA',hs,hs2];first|done|rfl) (by with_reducible rfl) (fun rec st1 he=>by simp only [go_sem,hl,h0,h1,hA',hs,hs2,he];with_reducible rfl) ?_)|(refine wopsD_index (by first|omega|(simp only [lo_push,lo_setVar,len_push,len_setVar];omega)) (by simp only [go_sem,hl,h0,h1,hA',hs,hs2];first|done|rfl) (by with_reducible rfl) (by simp only [go_sem,hl,h0,h1,hA',hs,hs2];first|done|rfl) (by assumption) (by simp only [go_sem,hl,h0,h1,hA',hs,hs2];first|done|rfl) (by first|assumption|omega) ?_)|(refine wopsD_indexI (by first|omega|(simp only [lo_push,lo_setVar,len_push,len_setVar];omega)) (by simp only [go_sem,hl,h0,h1,hA',hs,hs2];first|done|rfl) (by with_reducible rfl) (by simp only [go_sem,hl,h0,h1,hA',hs,hs2];first|done|rfl) (by assumption) (by simp only [go_sem,hl,h0,h1,hA',hs,hs2];first|done|rfl) (by first|assumption|omega) (by first|assumption|omega) ?_)|(refine wopsD_skip' (by simp only [go_sem,hl,h0,h1,hA',hs,hs2];first|done|rfl) (by with_reducible rfl) ?_)|(apply wopsD_nil;refine ⟨footOk_quiet (by rfl),?_⟩)|(refine wops_panic (by simp only [go_sem,hl,h0,h1,hA',hs,hs2];first|done|rfl) (by with_reducible rfl) (by simp only [go_sem,hl,h0,h1,hA',hs,hs2];first|done|rfl) ?_)|(refine wops_skip' (by simp only [go_sem,hl,h0,h1,hA',hs,hs2];first|done|rfl) (by with_reducible rfl) ?_)|(refine wp_condT (by simp only [go_sem,hl,h0,h1,hA',hs,hs2];first|done|rfl) ?_)|(refine wp_condF (by simp only [go_sem,hl,h0,h1,hA',hs,hs2];first|done|rfl) ?_)|(refine wopsD_call (by first|omega|(simp only [lo_push,lo_setVar,len_push,len_setVar];omega)) (by simp only [↓reduceIte,go_sem,hl,h0,h1,hA',hs,hs2];first|done|rfl) (by with_reducible rfl) (by simp only [↓reduceIte,go_sem,hl,h0,h1,hA',hs,hs2];first|done|rfl) (fun st1 he=>by simp only [go_sem,hl,h0,h1,hA',hs,hs2];first|exact c71 P p hP (by omega) 106 [] _ (fun n=>!inB n 0 (c.depth - 1)) _ (fun st' he a _=>c106 c F hcl a st' _ (by simp [hp,he,St.push]) hc.2.1)) ?_)|(refine wops_call' (by simp only [↓reduceIte,go_sem,hl,h0,h1,hA',hs,hs2];first|done|rfl) (by with_reducible rfl) (by simp only [↓reduceIte,go_sem,hl,h0,h1,hA',hs,hs2];first|done|rfl) (by simp only [↓reduceIte,go_sem,hl,h0,h1,hA',hs,hs2];first|exact c71 P p hP (by omega) 106 [] _ (fun n=>!inB n 0 (c.depth - 1)) _ (fun st' he a _=>c106 c F hcl a st' _ (by simp [hp,he,St.push]) hc.2.1)) ?_))
  exact fQ hl
 ·have e:packB c p=false:=by simp [packB,hA]
  have hA':((p.length:Int)==(c.figs.length:Int))=false:=by simp;omega
  rw [e]
  refine go2 (bw6 hl h0 h1 hA' hs hs2) fnil ?_
  exact fQ hl
end Go.Den.Tp
end
section
namespace Go.Den.Tp
open Go.Den.Ch (Fig CL Flt inB figB listB packB layerL layersL key brk disB disA disorder fullL gapL fault)
theorem layersL_take {p:List Int} {i:Nat} (h:i<p.length):layersL (p.take (i+1))=max (layersL (p.take i)) (p[i]+1):=by
 rw [List.take_succ_eq_append_getElem h,layersL,List.foldl_append];rfl
theorem layersL_bound {p:List Int} {d:Int} (hd:0≤d) (h:∀ x∈p,x<d):layersL p≤d:=by
 unfold layersL
 have:∀ (p:List Int) (a:Int),(∀ x∈p,x<d)→a≤d→p.foldl (fun n x=>max n (x+1)) a≤d:=by
  intro p
  induction p with
  | nil=>intro a _ h;exact h
  | cons x p ih =>
   intro a h ha
   refine ih _ (fun y hy=>h y (by simp [hy])) ?_
   have:=h x (by simp)
   show max a (x+1)≤d
   omega
 exact this p 0 h hd
theorem layersL_nonneg (p:List Int):0≤layersL p:=by
 unfold layersL
 have:∀ (p:List Int) (a:Int),0≤a→0≤p.foldl (fun n x=>max n (x+1)) a:=by
  intro p
  induction p with
  | nil=>intro a h;exact h
  | cons x p ih=>intro a ha;exact ih _ (by show 0≤max a (x+1);omega)
 exact this p 0 (Int.le_refl _)
theorem mm2 (a b:Int):mm true (.int .i64 a) [.int .i64 b]=some (.int .i64 (max a b)):=by
 simp only [mm,if_true]
 rw [Int.max_def]
 congr 2
 by_cases h:b>a
 ·rw [if_pos h,if_pos (by omega)]
 ·rw [if_neg h];split <;> omega
theorem mm2' (a b:Int):mm false (.int .i64 a) [.int .i64 b]=some (.int .i64 (min a b)):=by
 simp only [mm,Bool.false_eq_true,if_false]
 rw [Int.min_def]
 congr 2
 by_cases h:b<a
 ·rw [if_pos h,if_neg (by omega)]
 ·rw [if_neg h];split <;> omega
theorem c51 (c:CL) (F P:PV) (p:List Int) (hF:F.cells=[F]) (hP:SlOf 1 encI P p) (hN:p.length<1000) (hb:∀ x∈p,inI (x+1)) (st:St):Cl EE (.func 51 [] []) [paPV c F P] st (.ret (iv (layersL p))) st:=by
 have hs:=hP.slen
 refine cF1 pr51 fn51 (fun tm hl h0=>?_)
 refine go2 (bw3 hl h0 hs) fnil ?_
 refine wp_range p.length [3] (fun i vs st'=>vs=[iv (layersL (p.take i))]∧st.heap.length≤st'.lo) (by omega) (sG hl) (sG hl) (sG hl) (by decide) ⟨(sR hl),by simp [lo_push]⟩ ?_ ?_
 ·rintro i hi tm1 st1 ⟨hv,hlo⟩ hS hia
  simp only [List.map_cons,List.map_nil,List.cons.injEq,and_true] at hv
  have hl1:tm1.length=19:=by rw [hS.1];simp only [↓reduceIte,go_sem,hl]
  have i7:tg tm1 7=P:=by rw [hS.2 7 (by decide)];simp only [↓reduceIte,go_sem,hl]
  have hw:IntKind.wrap .i64 (p[i]+1)=p[i]+1:=wrap_in (hb _ (List.getElem_mem hi))
  refine go2 (bw6 hl1 i7 hia hv hw @mm2) fnil ?_
  rw [layersL_take hi]
  refine ⟨?_,hlo⟩
  simp only [↓reduceIte,go_sem,hl1]
 ·rintro tm1 st1 ⟨hv,hlo⟩ hS
  simp only [List.map_cons,List.map_nil,List.cons.injEq,and_true,List.take_length] at hv
  have hl1:tm1.length=19:=by rw [hS.1];simp only [↓reduceIte,go_sem,hl]
  refine go2 (bw hl1 hv) fnil ?_
  refine fnq_flat (results_one (by rw [rdRes_tmp];simp only [↓reduceIte,go_sem,hl1])) hlo (by rfl)
theorem encI_map (l:List Int):l.flatMap encI=l.map (PV.int .i64):=by
 induction l with
 | nil=>rfl
 | cons a l ih=>simp [ih]
theorem layerL_take {fs:List Fig} {p:List Int} {n:Int} {i:Nat} (h:i<fs.length) (h':i<p.length):layerL (fs.take (i+1)) (p.take (i+1)) n=layerL (fs.take i) (p.take i) n++(if p[i]=n then [fs[i].size] else []):=by
 induction i generalizing fs p with
 | zero =>
  match fs,p,h,h' with
  | f::fs,x::p,_,_=>simp [layerL]
 | succ i ih =>
  match fs,p,h,h' with
  | f::fs,x::p,h,h' =>
   have:=ih (fs:=fs) (p:=p) (by simpa using h) (by simpa using h')
   simp only [List.take_succ_cons,layerL,List.getElem_cons_succ,this]
   split <;> simp
theorem layerL_len:∀ (fs:List Fig) (p:List Int) (n:Int) (i:Nat),fs.length≤i→(layerL fs p n).length≤i
 | [],p,n,i,h=>by simp [layerL]
 | f::fs,[],n,i,h=>by simp [layerL]
 | f::fs,x::p,n,i,h=>by
  have:=layerL_len fs p n (i - 1) (by simp at h;omega)
  simp only [layerL]
  simp at h
  split <;> (try simp only [List.length_cons]) <;> omega
theorem c136 (c:CL) (F P:PV) (p:List Int) (n:Int) (hF:SlOf 3 encF F c.figs) (hP:SlOf 1 encI P p) (hN:c.figs.length<1000) (hpl:p.length=c.figs.length) (st:St):ClR EE (.func 136 [] []) [paPV c F P,iv n] st (RetS st 1 (layerL c.figs p n).length ((layerL c.figs p n).flatMap encI)):=by
 have hs:=hF.slen
 have hFc:=hF.cells
 have hPc:=hP.cells
 refine cG2 pr136 fn136 (fun tm hl h0 h1=>?_)
 refine go2 (bw4 hl h0 h1 hs) fnil ?_
 refine wp_range c.figs.length [5] (fun i vs st'=>∃ v,vs=[v]∧OwnS st.heap.length st' 1 v (layerL (c.figs.take i) (p.take i) n).length ((layerL (c.figs.take i) (p.take i) n).flatMap encI)∧st.heap.length≤st'.lo∧hp st' st.heap.length=some (.var [iv c.room,iv c.depth,F,P])) (by omega) (sG hl) (sG hl) (sG hl) (by decide) ⟨_,(sG hl),.nil,by simp [lo_push],(sG hl)⟩ ?_ ?_
 ·rintro i hi tm1 st1 ⟨v,hv,hO,hlo,hb⟩ hS hia
  simp only [List.map_cons,List.map_nil,List.cons.injEq,and_true] at hv
  have hl1:tm1.length=31:=by rw [hS.1];simp only [↓reduceIte,go_sem,hl]
  have i1:tg tm1 1=iv n:=by rw [hS.2 1 (by decide)];simp only [↓reduceIte,go_sem,hl,h1]
  have i2:tg tm1 2 = .ptr st.heap.length 0:=by rw [hS.2 2 (by decide)];simp only [↓reduceIte,go_sem,hl]
  have i10:tg tm1 10=F:=by rw [hS.2 10 (by decide)];simp only [↓reduceIte,go_sem,hl]
  have hlt:=hp_lt hb
  refine go2 (bw9 hl1 i1 i2 i10 hia hv hb (neL hlt) (neA hlt)) fnil ?_
  rw [layerL_take hi (by omega)]
  have hll:(layerL (List.take i c.figs) (List.take i p) n).length≤i:=layerL_len _ _ _ i (by simp;omega)
  by_cases hx:p[i]=n
  ·have hd:(p[i]==n)=true:=by simp [hx]
   refine go2 (bw3 hl1 hv hd) fnil ?_
   refine aP (bw hl1 hv) ((hO.push.setVar (by simp [hp_push])).push) ?_
   intro v' st2 hO' hFr hk
   refine go2 hl1 fnil ?_
   refine ⟨v',(sG hl1),by simpa [hx,share_int] using hO',?_,hk _ _ (by simp only [↓reduceIte,go_sem,hb,neL hlt,neA hlt]) (by simp)⟩
   have:=hFr.lo
   simp only [lo_push,lo_setVar] at this
   omega
  ·have hd:(p[i]==n)=false:=by simp [hx]
   refine go2 (bw3 hl1 hv hd) fnil ?_
   refine ⟨v,(sG (bw hl1 hv)),?_,?_,by simp only [↓reduceIte,go_sem,hb,neL hlt,neA hlt]⟩
   ·simpa [hx] using hO.push.setVar (by simp [hp_push])
   ·simp only [lo_push,lo_setVar];omega
 ·rintro tm1 st1 ⟨v,hv,hO,hlo,hb⟩ hS
  simp only [List.map_cons,List.map_nil,List.cons.injEq,and_true,List.take_length] at hv
  rw [List.take_length,← hpl,List.take_length] at hO
  have hl1:tm1.length=31:=by rw [hS.1];simp only [↓reduceIte,go_sem,hl]
  refine go2 (bw hl1 hv) fnil ?_
  exact fnr_ret (results_one (by rw [rdRes_tmp];simp only [↓reduceIte,go_sem,hl1])) (hO.finish hlo (fun m c hc=>by simp only [List.mem_flatMap,List.mem_singleton] at hc;obtain ⟨a,_,rfl⟩:=hc;rfl))
theorem encI_low (l:List Int) (m:Nat) (c:PV) (hc:c∈l.flatMap encI):PV.low m c=true:=by
 simp only [List.mem_flatMap,List.mem_singleton] at hc
 obtain ⟨a,_,rfl⟩:=hc
 rfl
theorem slI {st st':St} {l:List Int} {v:PV} (h:RetS st 1 l.length (l.flatMap encI) v st'):SlOf 1 encI v l:=SlOf.of_sl h.sl rfl rfl (fun _=>rfl)
end Go.Den.Tp
end
section
namespace Go.Den.Tp
open Go.Den.Ch (Fig CL Flt inB figB listB packB layerL layersL key brk disB disA disorder fullL gapL fault)
theorem range_some {β:Type} {f:Nat→Option β} {n i:Nat} {b:β} (hi:i<n) (h0:∀ k,k<i→f k=none) (h:f i=some b):(List.range n).findSome? f=some b:=by
 induction n with
 | zero=>omega
 | succ n ih =>
  rw [List.range_succ,List.findSome?_append]
  by_cases hn:i<n
  ·rw [ih hn];rfl
  ·have:i=n:=by omega
   subst this
   have:(List.range i).findSome? f=none:=by
    rw [List.findSome?_eq_none_iff]
    intro x hx
    exact h0 x (by simpa using hx)
   rw [this]
   simp [h]
theorem range_none {β:Type} {f:Nat→Option β} {n:Nat} (h0:∀ k,k<n→f k=none):(List.range n).findSome? f=none:=by
 rw [List.findSome?_eq_none_iff]
 intro x hx
 exact h0 x (by simpa using hx)
def fltO:Option Flt→PV
 | some f=>fltPV f
 | none=>zeroF
theorem fltO_some (f:Flt):fltO (some f)=fltPV f:=rfl
theorem fltO_none:fltO none=zeroF:=rfl
theorem zeroF_e:zeroF = .agg [.int .i64 0,.int .i64 0,.int .i64 0]:=rfl
theorem brk_at {c:CL} {p:List Int} {i a b:Nat} (ha:a<c.figs.length) (hb:b<c.figs.length) (hpl:p.length=c.figs.length):brk c p i a b=(decide (p[a]<p[b])&&decide (key i c.figs[a]>key i c.figs[b])):=by
 unfold brk
 rw [List.getElem?_eq_getElem (by omega),List.getElem?_eq_getElem (by omega),List.getElem?_eq_getElem ha,List.getElem?_eq_getElem hb]
theorem ck (i:Nat) (hi:i<2) (f:Fig) (hf:figB f=true) (st:St):Cl EE (.func (133+i) [] []) [figPV f] st (.ret (iv (key i f))) st:=by
 match i,hi with
 | 0,_=>exact c133 f hf st
 | 1,_=>exact c134 f st
set_option maxHeartbeats 4000000 in
theorem c105 (c:CL) (F P:PV) (p:List Int) (hF:SlOf 3 encF F c.figs) (hP:SlOf 1 encI P p) (hN:c.figs.length<1000) (hpl:p.length=c.figs.length) (hfb:∀ f∈c.figs,figB f=true) (st:St):Cl EE (.func 105 [] []) [paPV c F P] st (.ret (.tuple [fltO (disorder c p),.bool (disorder c p).isSome])) st:=by
 have hs:=hF.slen
 have hFc:=hF.cells
 have hPc:=hP.cells
 refine cF1 pr105 fn105 (fun tm hl h0=>?_)
 refine go2 (bw hl h0) fnil ?_
 refine wp_range 2 [] (fun i vs st'=>(∀ k,k<i→disA c p k=none)∧st.heap.length≤st'.lo∧st'.lo≤st'.heap.length∧hp st' st.heap.length=some (.var [iv c.room,iv c.depth,F,P])∧hp st' (st.heap.length+1)=some (.var [iv 0,iv 0,iv 0])) (by omega) (sG hl) (by rfl) (sG hl) (by decide) ⟨fun k hk=>absurd hk (by omega),by simp [lo_push],by simp [lo_push,len_push];omega,(sG hl),(sG hl)⟩ ?_ ?_
 ·rintro i hi tm1 st1 ⟨hno,hlo,hwf,hb,hr⟩ hS hia
  have hl1:tm1.length=64:=by rw [hS.1];simp only [↓reduceIte,go_sem,hl]
  have i1:tg tm1 1 = .ptr st.heap.length 0:=by rw [hS.2 1 (by decide)];simp only [↓reduceIte,go_sem,hl]
  have i2:tg tm1 2 = .ptr (st.heap.length+1) 0:=by rw [hS.2 2 (by decide)];simp only [↓reduceIte,go_sem,hl]
  have i10:tg tm1 10 = .agg [.func 133 [] [],.func 134 [] []]:=by rw [hS.2 10 (by decide)];simp only [↓reduceIte,go_sem,hl]
  clear hS
  have hx:∀ (rec:Rec) tm st,tg tm 10 = .agg [.func 133 [] [],.func 134 [] []]→tg tm 11=iv i→stepOp EE rec tm st (.indexArr false 2 1 (.t 10) (.t 11))=some (.val (.func (133+i) [] []) st):=by
   intro rec tm st h10 h11
   match i,hi with
   | 0,_=>simp only [↓reduceIte,go_sem,op_indexArr,ev_t,h10,h11];rfl
   | 1,_=>simp only [↓reduceIte,go_sem,op_indexArr,ev_t,h10,h11];rfl
  refine go2 (bw4 hl1 i1 i2 hia) fnil ?_
  refine wops_one (v := .func (133+i) [] []) rfl (fun rec=>hx rec _ _ (sG (bw hl1 i10)) (sG (bw hl1 hia))) ?_
  refine go2 (bw7 hl1 i1 i2 hia hb hr hs) fnil ?_
  refine wp_range c.figs.length [] (fun a vs st'=>(∀ k,k<a→disB c p i k=none)∧st.heap.length≤st'.lo∧st'.lo≤st'.heap.length∧hp st' st.heap.length=some (.var [iv c.room,iv c.depth,F,P])∧hp st' (st.heap.length+1)=some (.var [iv 0,iv 0,iv 0])) (by omega) (sG hl1) (sG hl1) (sG hl1) (by decide) ⟨fun k hk=>absurd hk (by omega),hlo,hwf,hb,hr⟩ ?_ ?_
  ·clear hb hr hlo hwf
   rintro a ha tm2 st2 ⟨hno2,hlo,hwf,hb,hr⟩ hS ha2
   have hl2:tm2.length=64:=lN hS hl1;have j1:tg tm2 1 = .ptr st.heap.length 0:=tQ hS (bw3 hl1 i1 i2);have j2:tg tm2 2 = .ptr (st.heap.length+1) 0:=tQ hS (bw3 hl1 i1 i2);have j4:tg tm2 4=iv i:=tQ hS (bw3 hl1 i1 i2);have j5:tg tm2 5 = .func (133+i) [] []:=tQ hS (bw3 hl1 i1 i2);have j17:tg tm2 17=F:=tQ hS (bw3 hl1 i1 i2);clear hS
   have lb:=hp_lt hb
   have lr:=hp_lt hr
   refine go2 (bw12 hl2 j1 j2 j4 j5 j17 ha2 hb hr hs (n4 lb) (n4 lr)) fnil ?_
   refine wp_range c.figs.length [] (fun b vs st'=>(∀ k,k<b→brk c p i a k=false)∧st.heap.length≤st'.lo∧st'.lo≤st'.heap.length∧hp st' st.heap.length=some (.var [iv c.room,iv c.depth,F,P])∧hp st' (st.heap.length+1)=some (.var [iv 0,iv 0,iv 0])∧hp st' st2.heap.length=some (.var (encF c.figs[a]))) (by omega) (sG hl2) (sG hl2) (sG hl2) (by decide) ⟨fun k hk=>absurd hk (by omega),by simp only [lo_push,lo_setVar];omega,by simp only [lo_push,lo_setVar,len_push,len_setVar];omega,(sG (bw hb (n4 lb))),(sG (bw hr (n4 lr))),(sG fnil)⟩ ?_ ?_
   ·clear hb hr hlo hwf
    rintro b hb3 tm3 st3 ⟨hno3,hlo,hwf,hb,hr,hq⟩ hS hb2
    have hl3:tm3.length=64:=lN hS hl2;have k1:tg tm3 1 = .ptr st.heap.length 0:=tQ hS (bw5 hl2 j1 j2 j4 j5);have k2:tg tm3 2 = .ptr (st.heap.length+1) 0:=tQ hS (bw5 hl2 j1 j2 j4 j5);have k4:tg tm3 4=iv i:=tQ hS (bw5 hl2 j1 j2 j4 j5);have k5:tg tm3 5 = .func (133+i) [] []:=tQ hS (bw5 hl2 j1 j2 j4 j5);have k6:tg tm3 6=iv a:=tQ hS (bw5 hl2 j1 j2 j4 j5);have k7:tg tm3 7 = .ptr st2.heap.length 0:=tQ hS (bw5 hl2 j1 j2 j4 j5);have k26:tg tm3 26=F:=tQ hS (bw5 hl2 j1 j2 j4 j5);clear hS
    have lb3:=hp_lt hb
    have lr3:=hp_lt hr
    have lq3:=hp_lt hq
    have hbrk:=brk_at (i:=i) ha hb3 hpl
    have hcx:=hfb _ (List.getElem_mem ha)
    have hcy:=hfb _ (List.getElem_mem hb3)
    cases hd:decide (p[a]<p[b])
    ·rw [hd,Bool.false_and] at hbrk
     refine go2 (bw16 hl3 k1 k2 k4 k5 k6 k7 k26 hb2 hb hr hs (n4 lb3) (n4 lr3) (n4 lq3) hd) fnil ?_
     refine ⟨fun k hk=>?_,by simp only [lo_push,lo_setVar];omega,by simp only [lo_push,lo_setVar,len_push,len_setVar];omega,(sG (bw hb (n4 lb3))),(sG (bw hr (n4 lr3))),(sG (bw hq (n4 lq3)))⟩
     by_cases hkb:k=b
     ·subst hkb;exact hbrk
     ·exact hno3 k (by omega)
    ·rw [hd,Bool.true_and] at hbrk
     cases hk:decide (key i c.figs[a]>key i c.figs[b])
     ·rw [hk] at hbrk
      refine go2 (bw18 hl3 k1 k2 k4 k5 k6 k7 k26 hb2 hb hr hq hs (n4 lb3) (n4 lr3) (n4 lq3) hd hk) (bw3 (ck i hi _ hcx) (ck i hi _ hcy) fnil) ?_
      refine ⟨fun k hk=>?_,by simp only [lo_push,lo_setVar];omega,by simp only [lo_push,lo_setVar,len_push,len_setVar];omega,(sG (bw hb (n4 lb3))),(sG (bw hr (n4 lr3))),(sG (bw hq (n4 lq3)))⟩
      by_cases hkb:k=b
      ·subst hkb;exact hbrk
      ·exact hno3 k (by omega)
     ·rw [hk] at hbrk
      have hdis:disorder c p=some ⟨3+i,a,b⟩:=by
       refine range_some hi hno (range_some ha hno2 (range_some hb3 (fun k hk=>?_) ?_))
       ·rw [if_neg (by rw [hno3 k hk];simp)]
       ·rw [if_pos hbrk]
      rw [hdis]
      have hw:IntKind.wrap .i64 (3+(i:Int))=3+i:=wrap_in (by unfold inI;omega)
      refine go2 (bw19 hl3 k1 k2 k4 k5 k6 k7 k26 hb2 hb hr hq hs (n4 lb3) (n4 lr3) (n4 lq3) hd hk hw) (bw3 (ck i hi _ hcx) (ck i hi _ hcy) fnil) ?_
      refine fnq_tuple (results_two (v:=fltPV ⟨3+i,a,b⟩) (u := .bool true) ?_ ?_) (by simp only [lo_push,lo_setVar];omega) (by rfl)
      ·rw [rdRes_hp (l:=st.heap.length+1) (off:=0) (sG (bw hl3 k2))]
       simp only [↓reduceIte,go_sem,hl3,k1,k2,k4,k5,k6,k7,k26,hb2,hb,hr,hq,hs,n4 lb3,n4 lr3,n4 lq3,hd]
      ·rw [rdRes_tmp];simp only [↓reduceIte,go_sem,hl3]
   ·clear hb hr hlo hwf
    rintro tm3 st3 ⟨hno3,hlo,hwf,hb,hr,hq⟩ hS
    have hl3:tm3.length=64:=lN hS hl2;clear hS
    refine go2 hl3 fnil ?_
    refine ⟨fun k hk=>?_,hlo,hwf,hb,hr⟩
    by_cases hka:k=a
    ·subst hka
     exact range_none (fun b hb=>by rw [if_neg (by rw [hno3 b hb];simp)])
    ·exact hno2 k (by omega)
  ·clear hb hr hlo hwf
   rintro tm2 st2 ⟨hno2,hlo,hwf,hb,hr⟩ hS
   have hl2:tm2.length=64:=lN hS hl1;clear hS
   refine go2 hl2 fnil ?_
   refine ⟨fun k hk=>?_,hlo,hwf,hb,hr⟩
   by_cases hki:k=i
   ·subst hki
    exact range_none hno2
   ·exact hno k (by omega)
 ·rintro tm1 st1 ⟨hno,hlo,hwf,hb,hr⟩ hS
  have hl1:tm1.length=64:=lN hS hl;have i2:tg tm1 2 = .ptr (st.heap.length+1) 0:=tQ hS (bw hl h0);clear hS
  have hdis:disorder c p=none:=range_none hno
  rw [hdis]
  have lr:=hp_lt hr
  refine go2 (bw4 hl1 i2 hr (n4 lr)) fnil ?_
  refine fnq_tuple (results_two (v:=zeroF) (u := .bool false) ?_ ?_) (by simp only [lo_push,lo_setVar];omega) (by rfl)
  ·rw [rdRes_hp (l:=st.heap.length+1) (off:=0) (sG (bw hl1 i2))]
   simp only [↓reduceIte,go_sem,hl1,i2,hr,n4 lr]
   rfl
  ·rw [rdRes_tmp];simp only [↓reduceIte,go_sem,hl1]
end Go.Den.Tp
end
section
namespace Go.Den.Tp
open Go.Den.Ch (Fig CL Flt inB figB listB packB layerL layersL key brk disB disA disorder fullL gapL fault)
structure OkL (c:CL):Prop where
 len:c.figs.length≤6
 figs:∀ f∈c.figs,figB f=true
 d0:0≤c.depth
 d1:c.depth≤5
structure OkP (c:CL) (p:List Int):Prop where
 len:p.length=c.figs.length
 rng:∀ x∈p,0≤x∧x<c.depth
theorem OkL.of {c:CL} (h:listB c=true):OkL c:=by
 simp only [listB,inB,Bool.and_eq_true,decide_eq_true_eq,List.all_eq_true] at h
 exact ⟨h.2.2.1,h.2.2.2,by omega,by omega⟩
theorem OkP.of {c:CL} {p:List Int} (h:packB c p=true):OkP c p:=by
 simp only [packB,inB,Bool.and_eq_true,decide_eq_true_eq,List.all_eq_true] at h
 exact ⟨h.1,fun x hx=>⟨(h.2 x hx).1,by have:=(h.2 x hx).2;omega⟩⟩
theorem layerL_mem:∀ {fs:List Fig} {p:List Int} {n x:Int},x∈layerL fs p n→∃ f∈fs,x=f.size
 | [],p,n,x,h=>by simp [layerL] at h
 | f::fs,[],n,x,h=>by simp [layerL] at h
 | f::fs,y::p,n,x,h=>by
  simp only [layerL] at h
  split at h
  ·simp only [List.mem_cons] at h
   rcases h with rfl|h
   ·exact ⟨f,by simp,rfl⟩
   ·obtain ⟨g,hg,e⟩:=layerL_mem h;exact ⟨g,by simp [hg],e⟩
  ·obtain ⟨g,hg,e⟩:=layerL_mem h;exact ⟨g,by simp [hg],e⟩
theorem sum_bound {l:List Int} {b:Int} (hb:0≤b) (h:∀ x∈l,0≤x∧x≤b):0≤l.sum∧l.sum≤b*l.length:=by
 induction l with
 | nil=>simp
 | cons x l ih =>
  have h1:=ih (fun y hy=>h y (by simp [hy]))
  have h2:=h x (by simp)
  simp only [List.sum_cons,List.length_cons]
  have:b*((l.length+1:Nat):Int)=b*l.length+b:=by rw [Int.natCast_add,Int.mul_add];simp
  omega
theorem sum_inI {l:List Int} (hl:l.length≤1000) (h:∀ x∈l,0≤x∧x≤1000) (k:Nat):inI (l.take k).sum:=by
 have h1:=sum_bound (l:=l.take k) (b:=1000) (by omega) (fun x hx=>h x (List.mem_of_mem_take hx))
 have h2:(l.take k).length≤1000:=by simp;omega
 unfold inI
 omega
theorem OkL.size {c:CL} (h:OkL c) {f:Fig} (hf:f∈c.figs):1≤f.size∧f.size≤9:=by
 have:=h.figs f hf
 simp only [figB,inB,Bool.and_eq_true,decide_eq_true_eq] at this
 omega
theorem OkL.layer {c:CL} (h:OkL c) (p:List Int) (n:Int):(layerL c.figs p n).length≤6∧∀ x∈layerL c.figs p n,1≤x∧x≤9:=by
 refine ⟨layerL_len _ _ _ _ h.len,fun x hx=>?_⟩
 obtain ⟨f,hf,rfl⟩:=layerL_mem hx
 exact h.size hf
theorem c135' {c:CL} (h:OkL c) (p:List Int) (n:Int) (v:PV) (hv:SlOf 1 encI v (layerL c.figs p n)) (st:St):Cl EE (.func 135 [] []) [v] st (.ret (iv (layerL c.figs p n).sum)) st :=
 c135 v _ hv (by have:=(h.layer p n).1;omega) (sum_inI (by have:=(h.layer p n).1;omega) (fun x hx=>by have:=(h.layer p n).2 x hx;omega)) st
set_option maxHeartbeats 4000000 in
theorem c108 (c:CL) (F P:PV) (p:List Int) (hF:SlOf 3 encF F c.figs) (hP:SlOf 1 encI P p) (hc:OkL c) (hp0:OkP c p) (st:St):Cl EE (.func 108 [] []) [paPV c F P] st (.ret (.tuple [fltO (fault c p),.bool (fault c p).isSome])) st:=by
 have hs:=hF.slen
 have hFc:=hF.cells
 have hPc:=hP.cells
 have hlen:=hc.len
 have hpl:=hp0.len
 obtain ⟨d,hd⟩:∃ d:Nat,c.depth=d:=⟨c.depth.toNat,by have:=hc.d0;omega⟩
 have hd5:d≤5:=by have:=hc.d1;omega
 refine cF1 pr108 fn108 (fun tm hl h0=>?_)
 refine go2 (bw hl h0) fnil ?_
 refine wp_range d [] (fun i vs st'=>(∀ k,k<i→¬ (layerL c.figs p (k:Nat)).sum>c.room)∧st.heap.length≤st'.lo∧st'.lo≤st'.heap.length∧hp st' st.heap.length=some (.var [iv c.room,iv c.depth,F,P])∧hp st' (st.heap.length+1)=some (.var [iv 0,iv 0,iv 0])) (by omega) (sG hl) (sG (bw hl hd)) (sG hl) (by decide) ⟨fun k hk=>absurd hk (by omega),by simp [lo_push],by simp [lo_push,len_push];omega,(sG hl),(sG hl)⟩ ?_ ?_
 ·rintro i hi tm1 st1 ⟨hno,hlo,hwf,hb,hr⟩ hS hia
  have hl1:tm1.length=40:=lN hS hl;have i1:tg tm1 1 = .ptr st.heap.length 0:=tQ hS (bw hl h0);have i2:tg tm1 2 = .ptr (st.heap.length+1) 0:=tQ hS (bw hl h0);clear hS
  have lb:=hp_lt hb
  have lr:=hp_lt hr
  refine go2 (bw9 hl1 i1 i2 hia hb hr hs (n4 lb) (n4 lr)) fnil ?_
  refine wopsD_callS (by first|omega|(simp only [lo_push,lo_setVar,len_push,len_setVar];omega)) rfl rfl (by simp only [↓reduceIte,go_sem,hl1];first|done|rfl) (fun st1 he=>by simp only [↓reduceIte,go_sem,hl1];exact c136 c F P p i hF hP (by omega) hpl _) ?_
  intro v st2 hR
  have hb2:=hR.hp hb
  have hr2:=hR.hp hr
  have hlo2:=hR.lo
  have hln2:=hR.len
  have lb2:=hp_lt hb2
  have lr2:=hp_lt hr2
  have hsl:=slI hR
  by_cases hf:(layerL c.figs p (i:Nat)).sum>c.room
  ·have hdd:decide ((layerL c.figs p (i:Nat)).sum>c.room)=true:=by simp [hf]
   have hft:fault c p=some ⟨1,i,0⟩:=by
    have:fullL c p=some ⟨1,i,0⟩:=by
     refine range_some (by omega) (fun k hk=>if_neg (hno k hk)) (if_pos hf)
    simp [fault,this]
   rw [hft]
   refine go2 (bw9 hl1 i1 i2 hia hb2 hr2 (n4 lb2) (n4 lr2) hdd) (bw (c135' hc p i v hsl) fnil) ?_
   refine fnq_tuple (results_two (v:=fltPV ⟨1,i,0⟩) (u := .bool true) ?_ ?_) (by simp only [lo_push,lo_setVar];omega) (by rfl)
   ·rw [rdRes_hp (l:=st.heap.length+1) (off:=0) (sG (bw hl1 i2))]
    simp only [↓reduceIte,go_sem,hl1,i1,i2,hia,hb2,hr2,n4 lb2,n4 lr2]
   ·rw [rdRes_tmp];simp only [↓reduceIte,go_sem,hl1]
  ·have hdd:decide ((layerL c.figs p (i:Nat)).sum>c.room)=false:=by simp [hf]
   refine go2 (bw9 hl1 i1 i2 hia hb2 hr2 (n4 lb2) (n4 lr2) hdd) (bw (c135' hc p i v hsl) fnil) ?_
   refine ⟨fun k hk=>?_,by omega,by omega,hb2,hr2⟩
   by_cases hki:k=i
   ·subst hki;exact hf
   ·exact hno k (by omega)
 ·rintro tm1 st1 ⟨hno,hlo,hwf,hb,hr⟩ hS
  have hl1:tm1.length=40:=lN hS hl;have i1:tg tm1 1 = .ptr st.heap.length 0:=tQ hS (bw hl h0);have i2:tg tm1 2 = .ptr (st.heap.length+1) 0:=tQ hS (bw hl h0);clear hS
  have hfull:fullL c p=none:=range_none (fun k hk=>if_neg (hno k (by omega)))
  have lb:=hp_lt hb
  have lr:=hp_lt hr
  obtain ⟨L,hL⟩:∃ L:Nat,layersL p=L:=⟨(layersL p).toNat,by have:=layersL_nonneg p;omega⟩
  have hL5:L≤5:=by
   have:=layersL_bound (p:=p) (d:=c.depth) hc.d0 (fun x hx=>(hp0.rng x hx).2)
   omega
  have cl:=c51 c F P p hFc hP (by omega) (fun x hx=>by have:=hp0.rng x hx;unfold inI;omega)
  rw [hL] at cl
  refine go2 (bw8 hl1 i1 i2 hb hr hs (n4 lb) (n4 lr)) (bw cl fnil) ?_
  refine wp_range L [] (fun i vs st'=>(∀ k,k<i→¬ (layerL c.figs p (k:Nat)).length=0)∧st.heap.length≤st'.lo∧st'.lo≤st'.heap.length∧hp st' st.heap.length=some (.var [iv c.room,iv c.depth,F,P])∧hp st' (st.heap.length+1)=some (.var [iv 0,iv 0,iv 0])) (by omega) (sG hl1) (sG hl1) (sG hl1) (by decide) ⟨fun k hk=>absurd hk (by omega),hlo,hwf,hb,hr⟩ ?_ ?_
  ·clear hb hr hlo hwf
   rintro i hi tm2 st2 ⟨hno2,hlo,hwf,hb,hr⟩ hS hia
   have hl2:tm2.length=40:=lN hS hl1;have j1:tg tm2 1 = .ptr st.heap.length 0:=tQ hS (bw3 hl1 i1 i2);have j2:tg tm2 2 = .ptr (st.heap.length+1) 0:=tQ hS (bw3 hl1 i1 i2);clear hS
   have lb:=hp_lt hb
   have lr:=hp_lt hr
   refine go2 (bw9 hl2 j1 j2 hia hb hr hs (n4 lb) (n4 lr)) fnil ?_
   refine cR hl2 (c136 c F P p i hF hP (by omega) hpl _) ?_
   intro v st3 hR
   have hb2:=hR.hp hb
   have hr2:=hR.hp hr
   have hlo2:=hR.lo
   have hln2:=hR.len
   have lb2:=hp_lt hb2
   have lr2:=hp_lt hr2
   have hsl:=(slI hR).slen
   by_cases hf:(layerL c.figs p (i:Nat)).length=0
   ·have hdd:(((layerL c.figs p (i:Nat)).length:Int)==0)=true:=by simp [hf]
    have hft:fault c p=some ⟨2,i,0⟩:=by
     have:gapL c p=some ⟨2,i,0⟩:=by
      refine range_some (by omega) (fun k hk=>if_neg (hno2 k hk)) (if_pos hf)
     simp [fault,hfull,this]
    rw [hft]
    refine go2 (bw10 hl2 j1 j2 hia hb2 hr2 (n4 lb2) (n4 lr2) hsl hdd) fnil ?_
    refine fnq_tuple (results_two (v:=fltPV ⟨2,i,0⟩) (u := .bool true) ?_ ?_) (by simp only [lo_push,lo_setVar];omega) (by rfl)
    ·rw [rdRes_hp (l:=st.heap.length+1) (off:=0) (sG (bw hl2 j2))]
     simp only [↓reduceIte,go_sem,hl2,j1,j2,hia,hb2,hr2,n4 lb2,n4 lr2]
    ·rw [rdRes_tmp];simp only [↓reduceIte,go_sem,hl2]
   ·have hdd:(((layerL c.figs p (i:Nat)).length:Int)==0)=false:=by simp;intro e;apply hf;simp [e]
    refine go2 (bw10 hl2 j1 j2 hia hb2 hr2 (n4 lb2) (n4 lr2) hsl hdd) fnil ?_
    refine ⟨fun k hk=>?_,by omega,by omega,hb2,hr2⟩
    by_cases hki:k=i
    ·subst hki;exact hf
    ·exact hno2 k (by omega)
  ·clear hb hr hlo hwf
   rintro tm2 st2 ⟨hno2,hlo,hwf,hb,hr⟩ hS
   have hl2:tm2.length=40:=lN hS hl1;have j1:tg tm2 1 = .ptr st.heap.length 0:=tQ hS (bw3 hl1 i1 i2);have j2:tg tm2 2 = .ptr (st.heap.length+1) 0:=tQ hS (bw3 hl1 i1 i2);clear hS
   have hgap:gapL c p=none:=range_none (fun k hk=>if_neg (hno2 k (by omega)))
   have lb:=hp_lt hb
   have lr:=hp_lt hr
   have hft:fault c p=disorder c p:=by simp [fault,hfull,hgap]
   rw [hft]
   have hflt:∃ a b e,fltO (disorder c p) = .agg [iv a,iv b,iv e]:=by
    cases disorder c p with
    | none=>exact ⟨0,0,0,rfl⟩
    | some f=>exact ⟨f.rule,f.one,f.other,rfl⟩
   obtain ⟨ra,rb,re,hflt⟩:=hflt
   have c1:=c105 c F P p hF hP (by omega) hpl hc.figs
   rw [hflt] at c1 ⊢
   refine go2 (bw8 hl2 j1 j2 hb hr hs (n4 lb) (n4 lr)) (bw c1 fnil) ?_
   refine fnq_tuple (results_two (v := .agg [iv ra,iv rb,iv re]) (u := .bool (disorder c p).isSome) ?_ ?_) (by simp only [lo_push,lo_setVar];omega) (by rfl)
   ·rw [rdRes_hp (l:=st.heap.length+1) (off:=0) (sG (bw hl2 j2))]
    simp only [↓reduceIte,go_sem,hl2,j1,j2,hb,hr,n4 lb,n4 lr]
   ·rw [rdRes_tmp];simp only [↓reduceIte,go_sem,hl2]
end Go.Den.Tp
end
section
namespace Go.Den.Tp
open Go.Den.Ch (Fig CL Flt inB figB listB packB layerL layersL key brk disB disA disorder fullL gapL fault)
theorem fltO_cells (o:Option Flt):∃ a b e,fltO o = .agg [iv a,iv b,iv e]:=by
 cases o with
 | none=>exact ⟨0,0,0,rfl⟩
 | some f=>exact ⟨f.rule,f.one,f.other,rfl⟩
theorem c103 (c:CL) (F P:PV) (p:List Int) (hF:SlOf 3 encF F c.figs) (hP:SlOf 1 encI P p) (hc:OkL c) (hp0:OkP c p) (st:St):Cl EE (.func 103 [] []) [paPV c F P] st (.ret (.bool (fault c p).isNone)) st:=by
 have hFc:=hF.cells
 have hPc:=hP.cells
 obtain ⟨a,b,e,he⟩:=fltO_cells (fault c p)
 have c1:=c108 c F P p hF hP hc hp0
 rw [he] at c1
 have e2:(fault c p).isNone=!(fault c p).isSome:=by cases fault c p <;> rfl
 rw [e2]
 refine cF1 pr103 fn103 (fun tm hl h0=>?_)
 refine go2 (bw hl h0) (bw c1 fnil) ?_
 exact fQ hl
theorem c54_ok (c:CL) (F P:PV) (p:List Int) (hF:SlOf 3 encF F c.figs) (hP:SlOf 1 encI P p) (hc:OkL c) (hp0:OkP c p) (h:fault c p=none) (st:St):Cl EE (.func 54 [paPV c F P] []) [] st (.ret (.tuple [])) st:=by
 have hFc:=hF.cells
 have hPc:=hP.cells
 have c1:=c108 c F P p hF hP hc hp0
 rw [h] at c1
 refine cF1 pr54 fn54 (fun tm hl h0=>?_)
 refine go2 (bw7 hl h0 fltO_none fltO_some zeroF_e @isS @isN) (bw c1 fnil) ?_
 exact fnq_tuple' results_nil (by simp only [lo_push,lo_setVar];omega) (by rfl)
theorem c54_no (c:CL) (F P:PV) (p:List Int) (hF:SlOf 3 encF F c.figs) (hP:SlOf 1 encI P p) (hc:OkL c) (hp0:OkP c p) (f:Flt) (h:fault c p=some f) (st:St):ClX EE (.func 54 [paPV c F P] []) [] st (.iface 153 (fltPV f)) (fun st'=>Fr st.heap.length st st'):=by
 have hFc:=hF.cells
 have hPc:=hP.cells
 have c1:=c108 c F P p hF hP hc hp0
 rw [h] at c1
 refine clx_fn (pr54 · _ _) fn54 1 rfl (by decide) (fun tm hl hg=>?_)
 have h0:tg tm 0=paPV c F P:=hg 0 (by decide)
 clear hg
 refine go2 (bw6 hl h0 fltO_none fltO_some @isS @isN) (bw c1 fnil) ?_
 refine fnx_panic ⟨by simp only [len_push,len_setVar];omega,by simp only [lo_push,lo_setVar,len_push];omega,fun l hl=>?_,by simp only [lo_push,lo_setVar,len_push];omega⟩
 have h1:(l=st.heap.length)=False:=by simp;omega
 have h2:∀ k,(l=st.heap.length+k)=False:=by simp;omega
 have:∀ st1:St,hp { heap:=st1.heap,lo:=min st.lo st1.lo } l=hp st1 l:=fun _=>rfl
 rw [this]
 simp only [↓reduceIte,go_sem,h1,h2]
 try rfl
def wrongR (c:CL) (p:List Int):Option Flt×Int:=if listB c&&packB c p then (match fault c p with|some f=>(some f,0)|none=>(none,5)) else (none,2)
theorem c104 (F:PV) (l:List Int) (hF:SlOf 1 encI F l) (hN:l.length<1000) (st:St):ClR EE (.func 104 [] []) [F] st (RetS st 1 l.length (l.flatMap encI)):=by
 have h:=hF.sl
 refine cG1 pr104 fn104 (fun tm hl h0=>?_)
 cases F with
 | nilslice =>
  simp only [PV.sl,Option.some.injEq,Prod.mk.injEq] at h
  have:l=[]:=by simpa using h.1.symm
  subst this
  refine go2 (bw hl h0) fnil ?_
  exact fnr_ret (results_one (v := .nilslice) (by rw [rdRes_tmp];simp only [↓reduceIte,go_sem,hl])) (OwnS.nil.finish (by simp) (fun m c hc=>by cases hc))
 | slice o n cs =>
  simp only [PV.sl,Option.some.injEq,Prod.mk.injEq] at h
  obtain ⟨rfl,rfl⟩:=h
  refine go2 (bw hl h0) fnil ?_
  have hO:OwnS st.heap.length ((⟨st.heap,st.heap.length⟩:St).push (.tag true)) 1 (.slice (.tag st.heap.length 1) 0 []) 0 []:=⟨by simp,.inr ⟨_,rfl,Nat.le_refl _,by rw [hp_push,if_pos rfl]⟩⟩
  refine wops_append rfl rfl (sR hl) (sR (bw hl h0)) hO rfl (by simp only [len_push];omega) (by rw [flatMap_len (sz:=1) (fun _ _=>rfl)]) (by simp [encI_map,PV.isCell]) (by simp only [maxList];omega) ?_
  intro v' st2 hO' hFr hk
  refine go2 hl fnil ?_
  refine fnr_ret (results_one (v:=v') (by rw [rdRes_tmp];simp only [↓reduceIte,go_sem,hl])) (OwnS.finish (n:=l.length) (cs:=l.flatMap encI) ?_ ?_ (fun m c hc=>encI_low l m c hc))
  ·have:List.map PV.share (List.flatMap encI l)=List.flatMap encI l:=by simp [encI_map,PV.share]
   simpa [this] using hO'
  ·have:=hFr.lo
   simp only [lo_push] at this
   omega
 | _=>simp [PV.sl] at h
end Go.Den.Tp
end
section
namespace Go.Den.Tp
open Go.Den.Ch (Fig CL Flt inB figB listB packB layerL layersL key brk disB disA disorder fullL gapL fault)
def searchL (c:CL):Nat→List Int→List (List Int)
 | 0,now=>if (fault c now).isNone then [now] else []
 | k+1,now=>(List.range c.depth.toNat).flatMap fun (n:Nat)=>if (disorder { c with figs:=c.figs.take (now.length+1) } (now++[(n:Int)])).isSome then [] else searchL c k (now++[(n:Int)])
def rightsL (c:CL):List (List Int):=searchL c c.figs.length []
def RepP (c:CL) (F:PV) (v:PV) (p:List Int):Prop:=∃ P,v=paPV c F P∧SlOf 1 encI P p
theorem prefix_drop {α:Type} {a b c l:List α} (h:a++(b++c) <+: l):b <+: l.drop a.length:=by
 obtain ⟨t,rfl⟩:=h
 exact ⟨c++t,by simp [List.append_assoc]⟩
theorem flatMap_range_split {α:Type} (g:Nat→List α) {n d:Nat} (h:n<d):∃ r,(List.range d).flatMap g=(List.range n).flatMap g++(g n++r):=by
 obtain ⟨e,rfl⟩:∃ e,d=n+1+e:=⟨d - (n+1),by omega⟩
 rw [List.range_add,List.flatMap_append,List.range_succ,List.flatMap_append,List.append_assoc]
 exact ⟨_,by rw [List.flatMap_singleton]⟩
theorem flatMap_range_succ {α:Type} (g:Nat→List α) (n:Nat):((List.range (n+1)).flatMap g).length=((List.range n).flatMap g).length+(g n).length:=by
 rw [List.range_succ,List.flatMap_append];simp
def Left (W:Nat→Prop) (e w:Nat) (I:Nat→List HObj→Prop) (S:List HObj→Prop) (i n:Nat) (st:St) (r:Bool) (st':St):Prop :=
 (r=true→I (i+n) st'.heap)∧(r=false→S st'.heap)∧KeepV W st.heap st'.heap∧e≤st'.lo∧st'.lo≤st'.heap.length∧((n=0∧r=true∧st'=st)∨st'.lo≤w)
theorem left_fin {W:Nat→Prop} {e w:Nat} {I:Nat→List HObj→Prop} {S:List HObj→Prop} {i n:Nat} {st st1:St} {r:Bool} (h0:I i st.heap) (he:e≤st.lo) (hwf:st.lo≤st.heap.length) (hw:w<st.heap.length) (hk:KeepV W st.heap st1.heap) (he1:e≤st1.lo)
  (h:(st.heap.length≤st1.lo∧n=0∧r=true)∨(st1.lo≤w∧(r=true→I (i+n) st1.heap)∧(r=false→S st1.heap))) :
  ∃ r',(finishCall st st1 (.bool r)).1 = .bool r'∧Left W e w I S i n st r' (finishCall st st1 (.bool r)).2:=by
 rcases h with ⟨h1,rfl,rfl⟩|⟨h1,h2,h3⟩
 ·rw [finish_flat h1 rfl]
  exact ⟨true,rfl,(fun _=>h0),(fun h=>by cases h),.refl _ _,he,hwf,.inl ⟨rfl,rfl,rfl⟩⟩
 ·unfold finishCall
  rw [if_neg (by omega)]
  exact ⟨r,rfl,h2,h3,hk,by show e≤min st.lo st1.lo;omega,by show min st.lo st1.lo≤st1.heap.length;have:=hk.1;omega,.inr (by show min st.lo st1.lo≤w;omega)⟩
section
variable {c:CL} {F y:PV} {b mY mS e w:Nat} {X:List (List Int)} {W:Nat→Prop} {I:Nat→List HObj→Prop} {S:List HObj→Prop}
set_option maxHeartbeats 4000000 in
theorem c102 (hF:SlOf 3 encF F c.figs) (hc:OkL c) (Y:Yld EE y X (RepP c F) W e w I S) (hWb:¬ W b) (hWy:¬ W mY) (hWs:¬ W mS) (hWw:∀ l,W l→l≤w) :
  ∀ (k:Nat) (now:List Int) (v:PV) (st:St) (i:Nat),SlOf 1 encI v now→now.length+k=c.figs.length→(∀ x∈now,0≤x∧x<c.depth)→searchL c k now <+: X.drop i→I i st.heap→e≤st.lo→st.lo≤st.heap.length→w<st.heap.length →
   hp st b=some (.var [iv c.room,iv c.depth,F])→hp st mY=some (.var [y])→hp st mS=some (.var [.func 102 [] [.ptr b 0,.ptr mY 0,.ptr mS 0]]) →
   ClR EE (.func 102 [] [.ptr b 0,.ptr mY 0,.ptr mS 0]) [v] st (fun u st'=>∃ r,u = .bool r∧Left W e w I S i (searchL c k now).length st r st')
 | 0,now,v,st,i,hv,hlen,hrng,hX,hI,helo,hwf,hw,hb,hy,hs=>by
  have hFc:=hF.cells
  have hFi:=hF.isCell
  have hvc:=hv.cells
  have hvi:=hv.isCell
  have hFs:=hF.slen
  have hvs:=hv.slen
  have hp0:OkP c now:=⟨by omega,hrng⟩
  have lb:=hp_lt hb
  have ly:=hp_lt hy
  have hb':hp { heap:=st.heap,lo:=st.heap.length } b=some (.var [iv c.room,iv c.depth,F]):=hb
  have hy':hp { heap:=st.heap,lo:=st.heap.length } mY=some (.var [y]):=hy
  have hbe:((now.length:Int)==(c.figs.length:Int))=true:=by simp;omega
  refine clr_fn (pr102 · _ _) fn102 4 rfl (by decide) (fun tm hl hg=>?_);have h0:tg tm 0=v:=(hg 0 (by decide));have h1:tg tm 1 = .ptr b 0:=(hg 1 (by decide));have h2:tg tm 2 = .ptr mY 0:=(hg 2 (by decide));have h3:tg tm 3 = .ptr mS 0:=(hg 3 (by decide));clear hg
  cases hf:(fault c now).isNone
  ·refine go2 (bw17 hl h0 h1 h2 h3 hb' hy' hFc hFi hvc hvi hFs hvs (n4 lb) (n4 ly) hbe hf) (bw (c103 c F v now hF hv hc hp0) fnil) ?_
   refine fnr_ret (v := .bool true) (results_one (by rw [rdRes_tmp];simp only [↓reduceIte,go_sem,hl])) ?_
   refine left_fin hI helo hwf hw (HExt.keep W ?_) (by simp only [lo_push,lo_setVar];omega) (.inl ⟨by simp only [lo_push,lo_setVar];omega,by simp [searchL,hf],rfl⟩)
   exact (show HExt ({ heap:=st.heap,lo:=st.heap.length }:St).heap _ from (((Fr.refl st.heap.length { heap:=st.heap,lo:=st.heap.length }).push (Nat.le_refl _)).setVar (Nat.le_refl _)).hext)
  ·refine go2 (bw17 hl h0 h1 h2 h3 hb' hy' hFc hFi hvc hvi hFs hvs (n4 lb) (n4 ly) hbe hf) (bw (c103 c F v now hF hv hc hp0) fnil) ?_
   have hx0:HExt st.heap (setVar (({ heap:=st.heap,lo:=st.heap.length }:St).push (.var [iv 0,iv 0,.nilslice,.nilslice])) st.heap.length (.var [iv c.room,iv c.depth,F,v])).heap :=
    (show HExt ({ heap:=st.heap,lo:=st.heap.length }:St).heap _ from (((Fr.refl st.heap.length { heap:=st.heap,lo:=st.heap.length }).push (Nat.le_refl _)).setVar (Nat.le_refl _)).hext)
   have hX1:searchL c 0 now=[now]:=by simp [searchL,hf]
   rw [hX1] at hX ⊢
   obtain ⟨t,ht⟩:=hX
   have hi:i<X.length:=by
    rcases Nat.lt_or_ge i X.length with h|h
    ·exact h
    ·rw [List.drop_eq_nil_of_le h] at ht;cases ht
   have hXi:X[i]=now:=by
    rw [List.drop_eq_getElem_cons hi] at ht
    simp only [List.singleton_append,List.cons.injEq] at ht
    exact ht.1.symm
   obtain ⟨r,st',hcl,hk,he',hw',hT,hS'⟩:=Y.step i hi (paPV c F v) (setVar (({ heap:=st.heap,lo:=st.heap.length }:St).push (.var [iv 0,iv 0,.nilslice,.nilslice])) st.heap.length (.var [iv c.room,iv c.depth,F,v])) (by rw [hXi];exact ⟨v,rfl,hv⟩) (Y.stab _ _ _ hI hx0) (by simp only [lo_setVar,lo_push];omega) (by simp only [lo_setVar,lo_push,len_setVar,len_push];omega) (by simp only [len_setVar,len_push];omega)
   refine go2 (bw17 hl h0 h1 h2 h3 hb' hy' hFc hFi hvc hvi hFs hvs (n4 lb) (n4 ly) hbe hf) (bw hcl fnil) ?_
   refine fnr_ret (v := .bool r) (results_one (by rw [rdRes_tmp];simp only [↓reduceIte,go_sem,hl])) ?_
   exact left_fin hI helo hwf hw ((HExt.keep W hx0).trans hk) he' (.inr ⟨hw',hT,hS'⟩)
 | k+1,now,v,st,i,hv,hlen,hrng,hX,hI,helo,hwf,hw,hb,hy,hs=>by
  have hFc:=hF.cells
  have hFi:=hF.isCell
  have hFs:=hF.slen
  have hvs:=hv.slen
  have hlen6:=hc.len
  have lb:=hp_lt hb
  have ls:=hp_lt hs
  have hb':hp { heap:=st.heap,lo:=st.heap.length } b=some (.var [iv c.room,iv c.depth,F]):=hb
  have hbe:((now.length:Int)==(c.figs.length:Int))=false:=by simp;omega
  have hwr:IntKind.wrap .i64 ((now.length:Int)+1)=((now.length+1:Nat):Int):=wrap_in (by unfold inI;omega)
  refine clr_fn (pr102 · _ _) fn102 4 rfl (by decide) (fun tm hl hg=>?_);have h0:tg tm 0=v:=(hg 0 (by decide));have h1:tg tm 1 = .ptr b 0:=(hg 1 (by decide));have h2:tg tm 2 = .ptr mY 0:=(hg 2 (by decide));have h3:tg tm 3 = .ptr mS 0:=(hg 3 (by decide));clear hg
  refine go2 (bw13 hl h0 h1 h2 h3 hb' hFc hFi hFs hvs (n4 lb) hbe hwr) fnil ?_
  refine wops_slice rfl rfl (sR hl) hF (m:=now.length+1) (n:=0) (by simp only [bound];simp only [↓reduceIte,go_sem,hl];simp;omega) (by rfl) (by omega) (by omega) ?_
  intro F2 hF2
  have e2:List.take (now.length+1 - 0) (List.drop 0 c.figs)=c.figs.take (now.length+1):=by simp
  rw [e2] at hF2
  have hF2c:=hF2.cells
  have hF2i:=hF2.isCell
  obtain ⟨d,hd⟩:∃ d:Nat,c.depth=d:=⟨c.depth.toNat,by have:=hc.d0;omega⟩
  have hd5:d≤5:=by have:=hc.d1;omega
  have hW7:¬ W st.heap.length:=fun h=>by have:=hWw _ h;omega
  refine go2 (bw13 hl h0 h1 h2 h3 hb' hFc hFi hFs hvs hF2c hF2i (n4 lb)) fnil ?_
  let g:Nat→List (List Int):=fun n=>if (disorder { c with figs:=c.figs.take (now.length+1) } (now++[(n:Int)])).isSome then [] else searchL c k (now++[(n:Int)])
  have hsg:searchL c (k+1) now=(List.range d).flatMap g:=by simp only [searchL,hd,Int.toNat_natCast];rfl
  have hx0:HExt st.heap (setVar (setVar (({ heap:=st.heap,lo:=st.heap.length }:St).push (.var [iv 0,iv 0,.nilslice])) st.heap.length (.var [iv c.room,iv c.depth,F])) st.heap.length (.var [iv c.room,iv c.depth,F2])).heap :=
   (show HExt ({ heap:=st.heap,lo:=st.heap.length }:St).heap _ from ((((Fr.refl st.heap.length { heap:=st.heap,lo:=st.heap.length }).push (Nat.le_refl _)).setVar (Nat.le_refl _)).setVar (Nat.le_refl _)).hext)
  refine wp_range d [] (fun n vs st1=>I (i+((List.range n).flatMap g).length) st1.heap∧KeepV W st.heap st1.heap∧e≤st1.lo∧st1.lo≤st1.heap.length∧hp st1 st.heap.length=some (.var [iv c.room,iv c.depth,F2])∧((st.heap.length≤st1.lo∧((List.range n).flatMap g).length=0)∨st1.lo≤w)) (by omega) (sG hl) (sG (bw hl hd)) (sG hl) (by decide) ⟨Y.stab _ _ _ hI hx0,hx0.keep W,by simp only [lo_push,lo_setVar];omega,by simp only [lo_push,lo_setVar,len_push,len_setVar];omega,(sG fnil),.inl ⟨by simp only [lo_push,lo_setVar];omega,rfl⟩⟩ ?_ ?_
  ·clear hx0
   rintro n hn tm1 st1 ⟨hI1,hk1,he1,hwf1,h7,hlo1⟩ hS hia
   have hl1:tm1.length=60:=lN hS hl;have i0:tg tm1 0=v:=tQ hS (bw3 hl h0 h3);have i3:tg tm1 3 = .ptr mS 0:=tQ hS (bw3 hl h0 h3);have i7:tg tm1 7 = .ptr st.heap.length 0:=tQ hS (bw3 hl h0 h3);clear hS
   have hs1:hp st1 mS=some (.var [.func 102 [] [.ptr b 0,.ptr mY 0,.ptr mS 0]]):=hk1.hp hs hWs
   have l7:=hp_lt h7
   refine go2 (bw3 hl1 i0 hia) fnil ?_
   refine cR (bw hl1 i0) (c104 v now hv (by omega) _) ?_
   intro v1 st2 hR
   have hlen2:=hR.len
   have hlo2:=hR.lo
   refine go2 (bw hl1 hia) fnil ?_
   refine aP hl1 ((hR.own (Nat.le_refl _)).push) ?_
   intro v' st3 hO' hFr hk3
   have hv':SlOf 1 encI v' (now++[(n:Int)]):=SlOf.of_sl hO'.sl (by simp) (by simp [encI_map,share_int]) (fun _=>rfl)
   have hv'c:=hv'.cells
   have hFr3:Fr st1.heap.length st1 st3:=(hR.fr.push (by omega)).trans (hFr.mono (Nat.le_refl _))
   have h73:hp st3 st.heap.length=some (.var [iv c.room,iv c.depth,F2]):=hFr3.hext.hp h7
   have hs3:hp st3 mS=some (.var [.func 102 [] [.ptr b 0,.ptr mY 0,.ptr mS 0]]):=hFr3.hext.hp hs1
   have l73:=hp_lt h73
   have ls3:=hp_lt hs3
   have hl13:=hFr3.len
   have hlo13:=hFr3.lo
   have hlen3:st1.heap.length<st3.heap.length:=by have:=hFr.len;simp only [len_push] at this;omega
   have hwf3:st3.lo≤st3.heap.length:=by have:=hFr3.up;omega
   obtain ⟨ra,rb,re,hflt⟩:=fltO_cells (disorder { c with figs:=c.figs.take (now.length+1) } (now++[(n:Int)]))
   have c1:=c105 { c with figs:=c.figs.take (now.length+1) } F2 v' (now++[(n:Int)]) hF2 hv' (by simp;omega) (by simp;omega) (fun f hf=>hc.figs f (List.mem_of_mem_take hf))
   rw [hflt] at c1
   cases hdis:(disorder { c with figs:=c.figs.take (now.length+1) } (now++[(n:Int)])).isSome
   ·have hgn:g n=searchL c k (now++[(n:Int)]):=by simp only [g,hdis,Bool.false_eq_true,if_false]
    refine go2 (bw9 hl1 i7 i3 h73 hs3 hv'c (n4 l73) (n4 ls3) hdis) (bw c1 fnil) ?_
    have hxA:Fr st3.heap.length st3 (setVar (st3.push (.var [iv 0,iv 0,iv 0])) st3.heap.length (.var [iv ra,iv rb,iv re])):=((Fr.refl _ _).push (Nat.le_refl _)).setVar (Nat.le_refl _)
    have hx4:HExt st1.heap (setVar (st3.push (.var [iv 0,iv 0,iv 0])) st3.heap.length (.var [iv ra,iv rb,iv re])).heap:=hFr3.hext.trans hxA.hext
    have hXn:searchL c k (now++[(n:Int)]) <+: X.drop (i+((List.range n).flatMap g).length):=by
     obtain ⟨r,hr⟩:=flatMap_range_split g hn
     rw [hsg,hr] at hX
     rw [← hgn,← List.drop_drop]
     exact prefix_drop hX
    have hk4:=hk1.trans (hx4.keep W)
    have hrec:=c102 hF hc Y hWb hWy hWs hWw k (now++[(n:Int)]) v' (setVar (st3.push (.var [iv 0,iv 0,iv 0])) st3.heap.length (.var [iv ra,iv rb,iv re])) (i+((List.range n).flatMap g).length) hv' (by simp;omega) (by
     intro x hx
     rcases List.mem_append.1 hx with h|h
     ·exact hrng x h
     ·simp only [List.mem_singleton] at h;subst h;omega) hXn (Y.stab _ _ _ hI1 hx4) (by simp only [lo_setVar,lo_push];omega) (by simp only [lo_setVar,lo_push,len_setVar,len_push];omega) (by simp only [len_setVar,len_push];omega)
     (hk4.hp hb hWb) (hk4.hp hy hWy) (hk4.hp hs hWs)
    refine cR hl1 (hrec) ?_
    rintro u st5 ⟨r,rfl,hT,hS',hk5,he5,hwf5,hlo5⟩
    have h75:hp st5 st.heap.length=some (.var [iv c.room,iv c.depth,F2]):=hk5.hp (hx4.hp h7) hW7
    have hcnt:=flatMap_range_succ g n
    rw [hgn] at hcnt
    cases r
    ·refine go2 hl1 fnil ?_
     refine fnr_ret (v := .bool false) (results_one (by rw [rdRes_tmp];simp only [↓reduceIte,go_sem,hl1])) ?_
     refine left_fin hI helo hwf hw (hk4.trans hk5) he5 (.inr ⟨?_,(fun h=>by cases h),hS'⟩)
     rcases hlo5 with ⟨_,h2,_⟩|h2
     ·cases h2
     ·exact h2
    ·refine go2 hl1 fnil ?_
     refine ⟨by rw [hcnt,← Nat.add_assoc];exact hT rfl,hk4.trans hk5,he5,hwf5,h75,?_⟩
     rcases hlo5 with ⟨h1,_,rfl⟩|h2
     ·rcases hlo1 with ⟨h3,h4⟩|h3
      ·exact .inl ⟨by simp only [lo_setVar,lo_push];omega,by omega⟩
      ·exact .inr (by have:=hFr3.up;simp only [lo_setVar,lo_push];omega)
     ·exact .inr h2
   ·have hgn:g n=[]:=by simp only [g,hdis,if_true]
    have hcnt:=flatMap_range_succ g n
    rw [hgn,List.length_nil,Nat.add_zero] at hcnt
    refine go2 (bw9 hl1 i7 i3 h73 hs3 hv'c (n4 l73) (n4 ls3) hdis) (bw c1 fnil) ?_
    have hxA:Fr st3.heap.length st3 (setVar (st3.push (.var [iv 0,iv 0,iv 0])) st3.heap.length (.var [iv ra,iv rb,iv re])):=((Fr.refl _ _).push (Nat.le_refl _)).setVar (Nat.le_refl _)
    have hx4:HExt st1.heap (setVar (st3.push (.var [iv 0,iv 0,iv 0])) st3.heap.length (.var [iv ra,iv rb,iv re])).heap:=hFr3.hext.trans hxA.hext
    rw [hcnt]
    refine ⟨Y.stab _ _ _ hI1 hx4,hk1.trans (hx4.keep W),by simp only [lo_setVar,lo_push];omega,by simp only [lo_setVar,lo_push,len_setVar,len_push];omega,hx4.hp h7,?_⟩
    rcases hlo1 with ⟨h1,h2⟩|h1
    ·exact .inl ⟨by simp only [lo_setVar,lo_push];omega,h2⟩
    ·exact .inr (by have:=hFr3.up;simp only [lo_setVar,lo_push];omega)
  ·rintro tm1 st1 ⟨hI1,hk1,he1,hwf1,h7,hlo1⟩ hS
   have hl1:tm1.length=60:=lN hS hl;clear hS
   refine go2 hl1 fnil ?_
   rw [hsg]
   refine fnr_ret (v := .bool true) (results_one (by rw [rdRes_tmp];simp only [↓reduceIte,go_sem,hl1])) ?_
   refine left_fin hI helo hwf hw hk1 he1 ?_
   rcases hlo1 with ⟨h1,h2⟩|h1
   ·exact .inl ⟨h1,h2,rfl⟩
   ·exact .inr ⟨h1,fun _=>hI1,fun h=>by cases h⟩
end
end Go.Den.Tp
end

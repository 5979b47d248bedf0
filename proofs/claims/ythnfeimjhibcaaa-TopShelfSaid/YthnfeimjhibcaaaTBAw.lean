/- Part of the proofs of laws of the package version. Texts: TqN. -/
import Derived.Test.YthnfeimjhibcaaaTBAu
import Derived.Test.YthnfeimjhibcaaaTBAr
import Derived.Test.YthnfeimjhibcaaaTBAv
set_option linter.unusedSimpArgs false
set_option linter.unusedVariables false
section
namespace Go.Den.Tz
open Go.Den.Tp (EE fn8 pr8 den8 fn27 pr27 den27 clPV encF easeR slI)
open Go.Den.Ve (Keep keepW)
open Go.Den.Ch (CL Fig)
abbrev iv (n:Int):PV := .int .i64 n
attribute [go_sem] iv
theorem encF_low (l:List Fig) (m:Nat) (c:PV) (hc:c∈l.flatMap encF):PV.low m c=true:=by
 simp only [List.mem_flatMap,List.mem_cons,List.not_mem_nil,or_false] at hc
 obtain ⟨a,_,rfl|rfl|rfl⟩:=hc <;> rfl
def clC:CL:=⟨10,3,[⟨4,3,0⟩,⟨3,2,0⟩,⟨5,2,1⟩,⟨2,3,1⟩,⟨6,1,2⟩]⟩
theorem c27 (st:St):ClR EE (.func 27 [] []) [] st (fun v st'=>∃ F,v=clPV clC F∧RetW st clC.figs.length (clC.figs.flatMap encF) F st'):=by
 refine cG0 pr27 fn27 (fun tm hl=>?_)
 refine go2 hl fnil ?_
 obtain ⟨F',e1,hW⟩:=finish_agg (st:=st) (st1:=setVar ((({ heap:=st.heap,lo:=st.heap.length }:St).push (.var [iv 0,iv 0,.nilslice])).push (.tag true)) st.heap.length (.var [iv 10,iv 3,.slice (.tag (st.heap.length+1) 3) 5 (clC.figs.flatMap encF)])) (a:=10) (b:=3) (v := .slice (.tag (st.heap.length+1) 3) 5 (clC.figs.flatMap encF)) rfl (by simp only [lo_setVar,lo_push];omega) (fun m=>lowL_of (encF_low _ m))
 refine fnr_ret (v := .agg [iv 10,iv 3,.slice (.tag (st.heap.length+1) 3) 5 (clC.figs.flatMap encF)]) (results_one ?_) ?_
 ·rw [rdRes_hp (l:=st.heap.length) (off:=0) (sG hl)]
  simp only [↓reduceIte,go_sem,hl]
  first|done|rfl
 ·refine ⟨F',e1,hW⟩
theorem e_ease:easeR clC=([0,1,1,1,2],5,0):=by decide +kernel
end Go.Den.Tz
end

/- Part of the proof that for every input the function VersionReads returns true and each argument reads as it did. Texts: VxO. -/
import Derived.Test.YtehdcjbdhkkipaaGreatDoorVLBd
set_option linter.unusedSimpArgs false
set_option linter.unusedVariables false
section
namespace Go.Den.Ve
theorem copy_rows:∀ (cs:List (List LN)) (c:List LN),c∈cs→c.length≤(cs.flatMap copyRows).length
 | [],_,h=>by cases h
 | d::cs,c,h=>by
  rw[List.flatMap_cons,List.length_append]
  rcases List.mem_cons.1 h with rfl|h
  ·simp only[copyRows,List.length_cons,List.length_map];omega
  ·have:=copy_rows cs c h;omega
theorem OkG.sm{b:BP}(h:OkG b):SmB b:=⟨by have:=h.cs;omega,fun c hc=>by
 have h3:=h.rows
 have h1:=copy_rows b.bk.copies c.c (List.mem_map.2 ⟨c,hc,rfl⟩)
 have h4:(rowsV b.bk).length=(b.bk.copies.flatMap copyRows).length+1:=rfl
 have h5:c.c.length=c.ls.length:=by simp
 omega⟩
theorem OkG.wl{b:BP}(h:OkG b)(ht:OkT b.bk):∀ c∈b.cs,∀ x∈c.ls,x.l.length<1000000:=fun c hc x hx=>by
 cases hl:x.lost
 ·have:=h.l c hc x hx hl;omega
 ·have h1:=(ht.all c.c (List.mem_map.2 ⟨c,hc,rfl⟩) x.ln (List.mem_map.2 ⟨x,hx,rfl⟩)).l hl
  have h2:x.ln.words=x.l:=rfl
  rw[← h2,h1];simp
theorem readV_ref(s:List UInt8):readV s=if s.length>400 then ((⟨0,[]⟩,3):BK×Int) else match refV s with
  | some b=>if bookB b then (b,0) else (⟨0,[]⟩,2)
  | none=>(⟨0,[]⟩,4):=by rw[refV_eq];rfl
theorem refV_text_eq{s:List UInt8}{b:BK}(h:refV s=some b):OkT b∧textV b=s:=parsedV_some (by rw[← refV_eq];exact h)
set_option maxHeartbeats 16000000 in
theorem c21(s:List UInt8)(st:St):Cl EE (.func 21 [] []) [.str (toB s)] st (.ret (.bool true)) st:=by
 have hrd:=readV_ref s
 refine cF1 pr21 fn21 (fun tm hl h0=>?_)
 by_cases h5:s.length>500
 ·have d1:decide ((s.length:Int)>500)=true:=by simp;omega
  refine go2 (bw3 hl h0 d1) (bw c25 fnil) ?_
  exact fQ hl
 have d1:decide ((s.length:Int)>500)=false:=by simp;omega
 have n3:((3:Int) != 0)=true:=rfl
 have n4':((4:Int) != 0)=true:=rfl
 have n2:((2:Int) != 0)=true:=rfl
 have n0:((0:Int) != 0)=false:=rfl
 refine go2 (bw3 hl h0 d1) fnil ?_
 refine cR (bw hl h0) (c75 s _) ?_
 rintro v S1 ⟨b2,rfl,hbk,hsm,hx,hlo⟩
 have hb2:=b2.h
 have hx1:=hx.1
 simp only at hlo hx1
 refine go2 (bw hl h0) fnil ?_
 refine cR (bw hl h0) (c78 s (by omega) _) ?_
 rintro v S2 hR
 have kill:∀ {e:Int},readV s=(⟨0,[]⟩,e)→∀ st,Cl EE (.func 77 [] []) [b2.pv,.agg [iv 0,.nilslice]] st (.ret (.bool true)) st:=fun {e} h st=>by
  rw[h] at hbk
  exact c77 b2 nilB hbk hsm (bk_small (b:=nilB) hbk (fun c hc=>by cases hc)) st
 by_cases h4:s.length>400
 ·have d2:decide ((s.length:Int)>400)=true:=by simp;omega
  rw[if_pos h4] at hrd
  have k77:=kill hrd
  have e2:(readV s).2=3:=by rw[hrd]
  rw[e2]
  rcases hR with ⟨rfl,hr,hK⟩|⟨n,hr,rfl,hK⟩|⟨b,t,hr,hP,rfl,hA,hK⟩
  all_goals
   have b1:hp S2 S1.heap.length=some (.var [iv b2.words,b2.v]):=hK.1.hp (sG fnil)
   have m1:=hp_lt b1
   have q1:=hK.2
   simp only[lo_push,lo_setVar] at q1
   refine go2 (bw7 hl h0 d2 n3 b1 (n4 m1) @beq_self_eq_true.{0}) (bw3 k77 c25 fnil) ?_
   exact fQ hl
 ·have d2:decide ((s.length:Int)>400)=false:=by simp;omega
  rw[if_neg h4] at hrd
  rcases hR with ⟨rfl,hr,hK⟩|⟨n,hr,rfl,hK⟩|⟨b,t,hr,hP,rfl,hA,hK⟩
  ·have b1:hp S2 S1.heap.length=some (.var [iv b2.words,b2.v]):=hK.1.hp (sG fnil)
   have m1:=hp_lt b1
   have q1:=hK.2
   simp only[lo_push,lo_setVar] at q1
   rw[hr] at hrd
   have k77:=kill hrd
   have e2:(readV s).2=4:=by rw[hrd]
   rw[e2]
   refine go2 (bw7 hl h0 d2 n4' b1 (n4 m1) @beq_self_eq_true.{0}) (bw3 k77 c25 fnil) ?_
   exact fQ hl
  ·have b1:hp S2 S1.heap.length=some (.var [iv b2.words,b2.v]):=hK.1.hp (sG fnil)
   have m1:=hp_lt b1
   have q1:=hK.2
   simp only[lo_push,lo_setVar] at q1
   have hbb:bookB ⟨n,[]⟩=false:=by simp[bookB,inN]
   rw[hr] at hrd
   simp only[hbb,Bool.false_eq_true,if_false] at hrd
   have k77:=kill hrd
   have e2:(readV s).2=2:=by rw[hrd]
   rw[e2]
   have k30:=fun st=>c30 ⟨n,.nilslice,[],.nil⟩ ⟨by simp,fun c hc=>by cases hc⟩ (fun c hc=>by cases hc) st
   have e0:(⟨n,.nilslice,[],.nil⟩:BP).bk=⟨n,[]⟩:=rfl
   rw[e0,hbb] at k30
   refine go2 (bw7 hl h0 d2 n2 b1 (n4 m1) @beq_self_eq_true.{0}) (bw4 k77 c25 k30 fnil) ?_
   exact fQ hl
  ·have b1:hp S2 S1.heap.length=some (.var [iv b2.words,b2.v]):=hK.1.hp (sG fnil)
   have m1:=hp_lt b1
   have mA:=hp_lt hA
   have q1:=hK.2
   simp only[lo_push,lo_setVar] at q1
   obtain⟨hOT,hts⟩:=refV_text_eq hr
   have hNb:=hP.sm
   have hMb:=hP.wl hOT
   rw[hr] at hrd
   simp only at hrd
   have k30:=fun st ha=>c30H b hNb hMb t st ha
   cases hB:bookB b.bk
   ·rw[hB] at k30
    simp only[hB,Bool.false_eq_true,if_false] at hrd
    have k77:=kill hrd
    have e2:(readV s).2=2:=by rw[hrd]
    rw[e2]
    refine go2 (bw7 hl h0 d2 n2 b1 (n4 m1) @beq_self_eq_true.{0}) fnil ?_
    refine wops_call' rfl rfl (by simp only[↓reduceIte,go_sem,hl];first|done|rfl) (by simp only[↓reduceIte,go_sem,hl];exact k30 _ (sG (bw hA (n4 mA)))) ?_
    refine go2 (bw7 hl h0 d2 n2 b1 (n4 m1) @beq_self_eq_true.{0}) (bw3 k77 c25 fnil) ?_
    exact fQ hl
   ·rw[hB] at k30
    simp only[hB,if_true] at hrd
    rw[hrd] at hbk
    simp only at hbk
    have e2:(readV s).2=0:=by rw[hrd]
    rw[e2]
    have k74:=fun st=>c74 b2 hsm st
    simp only[hbk,hB,if_true,hts] at k74
    have k77:=fun st ha=>c77H b2 b hbk hsm (bk_small hbk hMb) t st ha
    refine go2 (bw7 hl h0 d2 n0 b1 (n4 m1) @beq_self_eq_true.{0}) fnil ?_
    refine wops_call' rfl rfl (by simp only[↓reduceIte,go_sem,hl];first|done|rfl) (by simp only[↓reduceIte,go_sem,hl];exact k30 _ (sG (bw hA (n4 mA)))) ?_
    refine go2 (bw7 hl h0 d2 n0 b1 (n4 m1) @beq_self_eq_true.{0}) (bw k74 fnil) ?_
    refine wops_call' (sR hl) (by with_reducible rfl) (sR hl) (by simp only[↓reduceIte,go_sem,hl];exact k77 _ (sG (bw hA (n4 mA)))) ?_
    refine go2 (bw7 hl h0 d2 n0 b1 (n4 m1) @beq_self_eq_true.{0}) (bw c25 fnil) ?_
    exact fQ hl
end Go.Den.Ve
end

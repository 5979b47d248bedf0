/- Part of the proof that for every input the function VersionTotals returns true and each argument reads as it did. Texts: VxN. -/
import Derived.Test.YtehdcjbdhkkipaaGreatDoorVKBd
set_option linter.unusedSimpArgs false
set_option linter.unusedVariables false
section
namespace Go.Den.Ve
set_option maxHeartbeats 16000000 in
theorem c18(b:BP)(T P:PV)(t:List SI)(tr:List Int)(hT:SlOf 1 encSI T t)(hP:SlOf 1 encI P tr)(st:St):Cl EE (.func 18 [] []) [b.pv,T,P] st (.ret (.bool true)) st:=by
 have hb:=b.h
 have hTs:=hT.slen
 have hPs:=hP.slen
 have k28:=fun st=>c28 b st
 have k66:=fun st=>c66 T t hT st
 refine cF3 pr18 fn18 (fun tm hl h0 h1 h2=>?_)
 cases hA:smallB b
 ·rw[hA] at k28
  refine go2 (bw4 hl h0 h1 h2) (bw3 k28 c25 fnil) ?_
  exact fQ hl
 rw[hA] at k28
 obtain⟨hN,hM⟩:=smallB_yes hA
 have k30:=fun st=>c30 b hN (fun c hc x hx=>by have:=hM c hc x hx;omega) st
 cases hBr:briefS t
 ·rw[hBr] at k66
  refine go2 (bw4 hl h0 h1 h2) (bw4 k28 k66 c25 fnil) ?_
  exact fQ hl
 rw[hBr] at k66
 have htN:t.length≤6∧∀ x∈t,x.l.length≤6:=by
  simp only[briefS,Bool.and_eq_true,decide_eq_true_eq,List.all_eq_true] at hBr
  exact hBr
 cases d7:decide ((tr.length:Int)>7)
 case true =>
  refine go2 (bw6 hl h0 h1 h2 hPs d7) (bw4 k28 k66 c25 fnil) ?_
  exact fQ hl
 have hd7:=of_decide_eq_false d7
 have z0:((0:Nat):Int)=0:=rfl
 cases hK:bookB b.bk
 ·have k68:=fun st=>c68_no b hN T t hT (by omega) P tr hP st (by rw[totArg,hK];rfl)
  have k70:=fun st=>c70_no b hN T t hT (by omega) st (by rw[tvArg,hK];rfl)
  rw[hK] at k30
  refine go2 (bw9 hl h0 h1 h2 hPs d7 zs z0 nee) (bw7 k28 k66 k68 k70 k30 c25 fnil) ?_
  exact fQ hl
 have hB:=bookB_iff.1 hK
 have hc5:b.cs.length≤5:=by have:=hB.c5;simpa using this
 have k67:=fun st=>c67 b hB T t hT (by omega) (fun x hx=>by have:=htN.2 x hx;omega) st
 rw[hK] at k30
 cases ht:txtB b.bk (t.map SI.l)
 ·have k68:=fun st=>c68_no b hN T t hT (by omega) P tr hP st (by rw[totArg,hK,ht];rfl)
  have k70:=fun st=>c70_no b hN T t hT (by omega) st (by rw[tvArg,hK,ht];rfl)
  rw[ht] at k67
  refine go2 (bw9 hl h0 h1 h2 hPs d7 zs z0 nee) (bw8 k28 k66 k68 k70 k30 k67 c25 fnil) ?_
  exact fQ hl
 rw[ht] at k67
 have k72:=fun st=>c72 b hN.n P tr hP (by omega) st
 cases hTr:treeB b.cs.length tr
 ·have k68:=fun st=>c68_no b hN T t hT (by omega) P tr hP st (by rw[totArg,hK,ht,hTr];rfl)
  rw[hTr] at k72
  refine go2 (bw6 hl h0 h1 h2 hPs d7) (bw4 k28 k66 k68 fnil) ?_
  refine cR (bw3 hl h0 h1) (c70_yes b hN T t hT (by omega) _ (by rw[tvArg,hK,ht];rfl)) ?_
  rintro v S1 ⟨o,ho,rfl,rfl⟩
  have hE:=el_sl o.1
  have k27:=fun st=>c27 (elL o.1) (elL o.1) o.1 o.1 hE hE (by have:=(tree_in (best_tree ho).1).1;omega) st
  rw[beq_self_eq_true] at k27
  refine go2 (bw6 hl h0 h1 h2 zs nee) (bw3 k30 k67 fnil) ?_
  refine cR (bw3 hl h0 h1) (c71 b hB T t hT ht o ho _) ?_
  rintro v S2 ⟨rfl,rfl⟩
  refine go2 (bw7 hl h0 h1 h2 zs nee nne) (bw4 k27 k72 c25 fnil) ?_
  exact fQ hl
 rw[hTr] at k72
 obtain⟨htl',hti,_⟩:=tree_in hTr
 have k68:=fun st=>c68_yes b hN T t hT (by omega) P tr hP st (by rw[totArg,hK,ht,hTr];rfl)
 have k73:=fun st=>c73 b hB T t hT ht P tr hP htl' hti st
 refine go2 (bw6 hl h0 h1 h2 hPs d7) (bw4 k28 k66 k68 fnil) ?_
 refine cR (bw3 hl h0 h1) (c70_yes b hN T t hT (by omega) _ (by rw[tvArg,hK,ht];rfl)) ?_
 rintro v S1 ⟨o,ho,rfl,rfl⟩
 have hE:=el_sl o.1
 have k27:=fun st=>c27 (elL o.1) (elL o.1) o.1 o.1 hE hE (by have:=(tree_in (best_tree ho).1).1;omega) st
 rw[beq_self_eq_true] at k27
 refine go2 (bw6 hl h0 h1 h2 zs nee) (bw3 k30 k67 fnil) ?_
 refine cR (bw3 hl h0 h1) (c71 b hB T t hT ht o ho _) ?_
 rintro v S2 ⟨rfl,rfl⟩
 refine go2 (bw7 hl h0 h1 h2 zs nee nne) (bw5 k27 k72 k73 c25 fnil) ?_
 exact fQ hl
end Go.Den.Ve
end

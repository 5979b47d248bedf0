/- Part of the proofs of laws of the package version. Texts: TqO. -/
import Derived.Test.YthnfeimjhibcaaaTBAw
set_option linter.unusedSimpArgs false
set_option linter.unusedVariables false
section
namespace Go.Den.Tz
open Go.Den.Tp (EE fn8 pr8 den8 clPV encF easeR)
open Go.Den.Ve (Keep keepW)
open Go.Den.Ch (CL Fig)
theorem told:∃ tm s,runT=some (.normal,tm,s)∧tm.length=37∧(∃ o,tg tm 1 = .slice o 3 [iv 0,iv 1,iv 0])∧tg tm 2=iv 0∧s.lo≤s.heap.length:=by
 have h:=chkT_true
 unfold chkT at h
 generalize runT=r at h ⊢
 match r,h with
 | some (.normal,tm,s),h =>
  simp only [Bool.and_eq_true,decide_eq_true_eq] at h
  obtain ⟨h1,h2,h3,h4⟩:=h
  refine ⟨tm,s,rfl,h1,?_,?_,h4⟩
  ·unfold isT at h2
   split at h2
   ·rename_i o h;exact ⟨o,h⟩
   ·cases h2
  ·unfold is0 at h3
   split at h3
   ·rename_i h;exact h
   ·cases h3
theorem tmT_sh (k:Nat):tmT.map (PV.sh k)=tmT:=by
 unfold tmT
 rw [← put_sh]
 simp only [List.map_replicate,undef_sh,PV.sh]
theorem codeT_sh (k:Nat):codeT.sh k=codeT:=rfl
theorem wp_told {Q:Ex→List PV→St→Prop} {st:St} (hst:st.lo=st.heap.length) (h:∀ tm s,tm.length=37→(∃ o,tg tm 1 = .slice o 3 [iv 0,iv 1,iv 0])→tg tm 2=iv 0→HExt st.heap s.heap→st.heap.length≤s.lo→s.lo≤s.heap.length→Q .normal tm s):Wp EE codeT Q tmT st:=by
 obtain ⟨tmA,sA,hrun,hlA,⟨oA,hA1⟩,hA2,hsA⟩:=told
 have hr:(run EK 3000).code codeT tmT ⟨[],0⟩=some (.normal,tmA,sA):=hrun
 have:=wp_shift (Q:=Q) (st:=st) envK codeT_sh hr hst (h _ _ (by simpa using hlA) ⟨oA.sh st.heap.length,?_⟩ ?_ ?_ ?_ ?_)
 ·rw [tmT_sh] at this
  exact this
 ·unfold tg at hA1 ⊢
  rw [getD_sh,hA1]
  simp only [PV.sh,shL]
 ·unfold tg at hA2 ⊢
  rw [getD_sh,hA2]
  simp only [PV.sh]
 ·refine ⟨by rw [len_sh];omega,fun l hl=>?_⟩
  show (st.heap++sA.heap.map (HObj.sh st.heap.length))[l]? = _
  rw [List.getElem?_append_left hl]
 ·show st.heap.length≤sA.lo+st.heap.length
  omega
 ·show sA.lo+st.heap.length≤(st.heap++sA.heap.map (HObj.sh st.heap.length)).length
  rw [List.length_append,List.length_map]
  omega
theorem cl_fn0 {E:Env} {g n:Nat} {rs:List DRes} {b:DCode} {r:CR} {st st':St} (hp:∀ rec,E.prim g rec [] st=none) (hf:E.fn g=some ⟨n,rs,b⟩) (h:Wp E b (FnQ rs st r st') (List.replicate n undef) ⟨st.heap,st.heap.length⟩):Cl E (.func g [] []) [] st r st':=by
 refine cl_of_wp hp hf ?_
 unfold FnQ at h
 exact h
theorem c8 (st:St):Cl EE (.func 8 [] []) [] st (.ret (.bool true)) st:=by
 refine cl_fn0 (pr8 · _ _) fn8 ?_
 apply wp_seq
 apply wp_region_ops
 refine wops_one rfl (fun rec=>op_val) ?_
 apply wops_nil
 apply andThen_normal
 apply wp_seq
 refine wp_told (st:=⟨st.heap,st.heap.length⟩) rfl ?_
 rintro tm s hl ⟨o,t1⟩ t2 hx hlo hwf
 apply andThen_normal
 refine go2 (bw3 hl t1 t2) fnil ?_
 refine cR hl (c27 _) ?_
 rintro v1 s1 ⟨F,rfl,hW⟩
 have hF:SlOf 3 encF F clC.figs:=SlOf.of_sl hW.1 rfl rfl (fun _=>rfl)
 have hk1:=keepW hW
 refine go2 hl fnil ?_
 have h26:=Go.Den.Tp.c26 clC F hF s1
 rw [e_ease] at h26
 refine cR hl (h26) ?_
 rintro v2 s2 ⟨P,rfl,hW2⟩
 have hP:SlOf 1 Go.Den.Ve.encI P [0,1,1,1,2]:=SlOf.of_sl hW2.1 rfl rfl (fun _=>rfl)
 have hk2:=keepW hW2
 have hlo1:s1.lo=s.lo:=hk1.2
 have hlo2:s2.lo=s1.lo:=hk2.2
 have k1:=fun (o o':Own) st=>Go.Den.Tq.c20 (.slice o 3 [iv 0,iv 1,iv 0]) (.slice o' 3 [iv 0,iv 1,iv 0]) [0,1,0] [0,1,0] ⟨rfl,fun _ _=>rfl⟩ ⟨rfl,fun _ _=>rfl⟩ (by decide) st
 have k2:=fun (o':Own) st=>Go.Den.Tq.c20 P (.slice o' 5 [iv 0,iv 1,iv 1,iv 1,iv 2]) [0,1,1,1,2] [0,1,1,1,2] hP ⟨rfl,fun _ _=>rfl⟩ (by decide) st
 have q1:(([0,1,0]:List Int)==[0,1,0])=true:=by decide
 have q2:(([0,1,1,1,2]:List Int)==[0,1,1,1,2])=true:=by decide
 have z0:((0:Int)==0)=true:=rfl
 have z5:((5:Int)==5)=true:=rfl
 rw [q1] at k1
 rw [q2] at k2
 have hg1:=hk1.len
 have hg2:=hk2.len
 have hx1:=hx.1
 simp only at hlo hx1
 refine go2 (bw5 hl t1 t2 z0 z5) (bw3 k1 k2 fnil) ?_
 exact fQ hl
end Go.Den.Tz
end

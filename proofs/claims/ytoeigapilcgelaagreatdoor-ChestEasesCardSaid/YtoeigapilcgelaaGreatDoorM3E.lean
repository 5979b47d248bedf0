/- Part of the proofs of laws of the package chest: contracts of the document's functions. Texts: ChSe. -/
import Derived.Test.YtoeigapilcgelaaGreatDoorM3C
set_option linter.unusedSimpArgs false
set_option linter.unusedVariables false
section
namespace Go.Den.Ch
theorem r32n (c : CL) (F : PV) (hF : SlOf 3 encF F c.figs) (hA : listB c = false) (st : St) : Cl EE (.func 32 [] []) [clPV c F] st (.ret (.tuple [iv 0,iv 2])) st := by
 have hFc := hF.cells
 have hFi := hF.isCell
 have k77 := c77 c F hF
 refine cl_fn (pr32 · _ _) fn32 1 rfl (by decide) (fun tm hl hg => ?_);have h0 : tg tm 0 = clPV c F := (hg 0 (by decide));clear hg
 refine go (bw5 hl h0 hA hFc hFi) (bw k77 fnil) ?_
 exact fnq_tuple (by simp only [results,rdResL,rdRes_tmp];simp only [↓reduceIte,go_sem,hl]) (by first | omega | (simp only [lo_push];omega)) (by rfl)
set_option maxHeartbeats 16000000 in
theorem c4 (c : CL) (F : PV) (hF : SlOf 3 encF F c.figs) (st : St) : Cl EE (.func 4 [] []) [clPV c F] st (.ret (.bool true)) st := by
 have hFc := hF.cells
 have hFi := hF.isCell
 have hFs := hF.slen
 refine cl_fn (pr4 · _ _) fn4 1 rfl (by decide) (fun tm hl hg => ?_);have h0 : tg tm 0 = clPV c F := (hg 0 (by decide));clear hg
 have k30 := c30 c F hF
 cases d0 : decide (c.figs.length ≤ 8)
 ·refine go (bw3 hl h0 d0) (bw3 k30 c26 fnil) ?_
  refine fnq_flat (results_one (by rw [rdRes_tmp];simp only [↓reduceIte,go_sem,hl];first | done | rfl)) (by first | exact Nat.le_refl _ | omega | (simp only [lo_push,lo_setVar];omega)) (by rfl)
 have hn8 := of_decide_eq_true d0
 have k33 := c33 c F hF (by omega)
 refine go (bw3 hl h0 d0) (bw k30 fnil) ?_
 refine wops_callR rfl rfl (by simp only [↓reduceIte,go_sem,hl];first | done | rfl) (by simp only [↓reduceIte,go_sem,hl];exact r31 c F hF _) ?_
 rintro v S1 ⟨P,rfl,hP,hK⟩
 have q1 := hK.2
 have q2 := hK.len
 try simp only [lo_push,len_push] at q1 q2
 have b1 := hK.hp (l := st.heap.length) (o := .var [iv c.room,iv c.depth,F]) (by simp only [↓reduceIte,go_sem])
 have m1 := hp_lt b1
 have hPs := hP.slen
 have e22 : ((2 : Int) == 2) = true := rfl
 have n0 : ((0 : Nat) : Int) = 0 := rfl
 cases hA : listB c
 ·have k32 := r32n c F hF hA
  have e : bestR c = ([],0,2) := by simp [bestR,hA]
  rw [e] at hPs ⊢
  have hPs' : P.slen = some 0 := hPs
  refine go (bw12 hl b1 (neL m1) (neA m1) (ltL m1) (ltA m1) m1 hA hPs' zs e22 n0) (bw4 k32 k33 c26 fnil) ?_
  refine fnq_flat (results_one (by rw [rdRes_tmp];simp only [↓reduceIte,go_sem,hl];first | done | rfl)) (by first | exact Nat.le_refl _ | omega | (simp only [lo_push,lo_setVar];omega)) (by rfl)
 have hc := OkL.of hA
 have k32 := r32 c F hF hA
 have k35 := c35 c F hF hc
 have hXl := rightsL_len hc
 refine go (bw9 hl b1 (neL m1) (neA m1) (ltL m1) (ltA m1) m1 hA zs) (bw3 k32 k33 fnil) ?_
 refine wops_callR (by simp only [↓reduceIte,go_sem,hl,zs];first | done | rfl) (by with_reducible rfl) (by simp only [↓reduceIte,go_sem,hl,zs];first | done | rfl) (by simp only [↓reduceIte,go_sem,hl];exact r34 c F hF hc _) ?_
 rintro V S2 ⟨hV,hK2⟩
 have q3 := hK2.2
 have q4 := hK2.len
 have b2 := hK2.hp b1
 have m2 := hp_lt b2
 have hVs := hV.slen
 cases hb : bestF ltLay (rightsL c) with
 | none =>
  have e : bestR c = ([],0,5) := by simp [bestR,hA,hb]
  rw [hb] at k35
  rw [e] at hPs ⊢
  have hPs' : P.slen = some 0 := hPs
  refine go (bw12 hl b2 (neL m2) (neA m2) (ltL m2) (ltA m2) m2 hVs hPs' zs nne n0) (bw3 k35 c26 fnil) ?_
  refine fnq_flat (results_one (by rw [rdRes_tmp];simp only [↓reduceIte,go_sem,hl];first | done | rfl)) (by first | exact Nat.le_refl _ | omega | (simp only [lo_push,lo_setVar];omega)) (by rfl)
 | some o =>
  have e : bestR c = (o,layersL o,0) := by simp [bestR,hA,hb]
  rw [hb] at k35
  rw [e] at hP ⊢
  have ho := right_in hc (best_law (m := layersL) (rights_sorted c) hb).1
  have k36 := c36 P (elL o) o o hP (el_sl o) (by omega)
  have k29 := c29 (elL o) o (el_sl o) (by omega) (fun x hx => by have := ho.2 x hx;unfold inI;omega)
  have eo : (o == o) = true := by simp
  rw [eo] at k36
  refine go (bw11 hl b2 (neL m2) (neA m2) (ltL m2) (ltA m2) m2 hVs zs nne nee) (bw5 k35 k36 k29 c26 fnil) ?_
  refine fnq_flat (results_one (by rw [rdRes_tmp];simp only [↓reduceIte,go_sem,hl];first | done | rfl)) (by first | exact Nat.le_refl _ | omega | (simp only [lo_push,lo_setVar];omega)) (by rfl)
set_option maxHeartbeats 16000000 in
theorem c10 (c : CL) (F : PV) (hF : SlOf 3 encF F c.figs) (st : St) : Cl EE (.func 10 [] []) [clPV c F] st (.ret (.bool true)) st := by
 have hFc := hF.cells
 have hFi := hF.isCell
 have hFs := hF.slen
 refine cl_fn (pr10 · _ _) fn10 1 rfl (by decide) (fun tm hl hg => ?_);have h0 : tg tm 0 = clPV c F := (hg 0 (by decide));clear hg
 have k30 := c30 c F hF
 cases d0 : decide (c.figs.length ≤ 8)
 ·refine go (bw3 hl h0 d0) (bw3 k30 c26 fnil) ?_
  refine fnq_flat (results_one (by rw [rdRes_tmp];simp only [↓reduceIte,go_sem,hl];first | done | rfl)) (by first | exact Nat.le_refl _ | omega | (simp only [lo_push,lo_setVar];omega)) (by rfl)
 have hn8 := of_decide_eq_true d0
 have k33 := c33 c F hF (by omega)
 refine go (bw3 hl h0 d0) (bw k30 fnil) ?_
 refine wops_callR rfl rfl (by simp only [↓reduceIte,go_sem,hl];first | done | rfl) (by simp only [↓reduceIte,go_sem,hl];exact r49 c F hF _) ?_
 rintro v S1 ⟨P,rfl,hP,hK⟩
 have q1 := hK.2
 have q2 := hK.len
 try simp only [lo_push,len_push] at q1 q2
 have b1 := hK.hp (l := st.heap.length) (o := .var [iv c.room,iv c.depth,F]) (by simp only [↓reduceIte,go_sem])
 have m1 := hp_lt b1
 have hPs := hP.slen
 have e22 : ((2 : Int) == 2) = true := rfl
 have n0 : ((0 : Nat) : Int) = 0 := rfl
 cases hA : listB c
 ·have e : easeR c = ([],0,2) := by simp [easeR,hA]
  rw [e] at hPs ⊢
  have hPs' : P.slen = some 0 := hPs
  refine go (bw12 hl b1 (neL m1) (neA m1) (ltL m1) (ltA m1) m1 hA hPs' zs e22 n0) (bw3 k33 c26 fnil) ?_
  refine fnq_flat (results_one (by rw [rdRes_tmp];simp only [↓reduceIte,go_sem,hl];first | done | rfl)) (by first | exact Nat.le_refl _ | omega | (simp only [lo_push,lo_setVar];omega)) (by rfl)
 have hc := OkL.of hA
 have k50 := c50 c F hF hc
 cases hb : bestF (ltTr c) (rightsL c) with
 | none =>
  have e : easeR c = ([],0,5) := by simp [easeR,hA,hb]
  rw [hb] at k50
  rw [e] at hPs ⊢
  have hPs' : P.slen = some 0 := hPs
  refine go (bw11 hl b1 (neL m1) (neA m1) (ltL m1) (ltA m1) m1 hA hPs' zs n0) (bw4 k33 k50 c26 fnil) ?_
  refine fnq_flat (results_one (by rw [rdRes_tmp];simp only [↓reduceIte,go_sem,hl];first | done | rfl)) (by first | exact Nat.le_refl _ | omega | (simp only [lo_push,lo_setVar];omega)) (by rfl)
 | some o =>
  have e : easeR c = (o,troubleL c o,0) := by simp [easeR,hA,hb]
  rw [hb] at k50
  rw [e] at hP ⊢
  have ho := right_in hc (best_law (m := troubleL c) (rights_sorted c) hb).1
  have k36 := c36 P (elL o) o o hP (el_sl o) (by have := hc.len;omega)
  have k51 := c51 c F (elL o) o hF (el_sl o) hc ho.1
  have eo : (o == o) = true := by simp
  rw [eo] at k36
  refine go (bw12 hl b1 (neL m1) (neA m1) (ltL m1) (ltA m1) m1 hA zs nee hFc hFi) (bw6 k33 k50 k36 k51 c26 fnil) ?_
  refine fnq_flat (results_one (by rw [rdRes_tmp];simp only [↓reduceIte,go_sem,hl];first | done | rfl)) (by first | exact Nat.le_refl _ | omega | (simp only [lo_push,lo_setVar];omega)) (by rfl)
end Go.Den.Ch
end

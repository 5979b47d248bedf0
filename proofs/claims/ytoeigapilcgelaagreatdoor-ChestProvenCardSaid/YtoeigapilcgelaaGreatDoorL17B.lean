/- Part of the proof that for every input the function ChestProven returns true and each argument reads as it did. Texts: ChPn. -/
import Derived.Test.YtoeigapilcgelaaGreatDoorM2P
set_option linter.unusedSimpArgs false
set_option linter.unusedVariables false
section
namespace Go.Den.Ch
set_option maxHeartbeats 32000000 in
theorem c17 (c : CL) (F P : PV) (p : List Int) (hF : SlOf 3 encF F c.figs) (hP : SlOf 1 encI P p) (st : St) : Cl EE (.func 17 [] []) [clPV c F, P] st (.ret (.bool true)) st := by
 have hFc := hF.cells
 have hFi := hF.isCell
 have hFs := hF.slen
 have hPs := hP.slen
 refine cl_fn (pr17 · _ _) fn17 2 rfl (by decide) (fun tm hl hg => ?_); have h0 : tg tm 0 = clPV c F := (hg 0 (by decide)); have h1 : tg tm 1 = P := (hg 1 (by decide)); clear hg
 have k24 := c24 c F hF
 cases hA : listB c
 ·refine go (bw4 hl h0 h1 hA) (bw3 k24 c26 fnil) ?_
  refine fnq_flat (results_one (by rw [rdRes_tmp]; simp only [↓reduceIte, go_sem, hl]; first | done | rfl)) (by first | exact Nat.le_refl _ | omega | (simp only [lo_push, lo_setVar]; omega)) (by rfl)
 have hc := OkL.of hA
 have hlen := hc.len
 cases d1 : decide ((p.length : Int) > 8)
 case true =>
  refine go (bw6 hl h0 h1 hA hPs d1) (bw3 k24 c26 fnil) ?_
  refine fnq_flat (results_one (by rw [rdRes_tmp]; simp only [↓reduceIte, go_sem, hl]; first | done | rfl)) (by first | exact Nat.le_refl _ | omega | (simp only [lo_push, lo_setVar]; omega)) (by rfl)
 have hp8 : p.length ≤ 8 := by have := of_decide_eq_false d1; omega
 have k45 := c45 c F P p hF hP (by omega) (by omega)
 cases hR : risingB c.figs.length p
 ·refine go (bw7 hl h0 h1 hA hPs d1 hR) (bw4 k24 k45 c26 fnil) ?_
  refine fnq_flat (results_one (by rw [rdRes_tmp]; simp only [↓reduceIte, go_sem, hl]; first | done | rfl)) (by first | exact Nat.le_refl _ | omega | (simp only [lo_push, lo_setVar]; omega)) (by rfl)
 have hpo := okr_of hR
 have hpl := ris_len hpo
 have k61 := c61 c F P p hF hP hA hpo.rng (by omega)
 refine go (bw7 hl h0 h1 hA hPs d1 hR) (bw3 k24 k45 fnil) ?_
 refine wops_callR rfl rfl (by simp only [↓reduceIte, go_sem, hl]; first | done | rfl) (by simp only [↓reduceIte, go_sem, hl]; exact r62 c F hF _) ?_
 rintro v S1 ⟨L, rfl, hL, hK⟩
 have q1 := hK.2
 have q2 := hK.len
 try simp only [lo_push, len_push] at q1 q2
 have b1 := hK.hp (l := st.heap.length) (o := .var [iv c.room, iv c.depth, F]) (by simp only [↓reduceIte, go_sem])
 have m1 := hp_lt b1
 refine go (bw7 hl b1 (neL m1) (neA m1) (ltL m1) (ltA m1) m1) fnil ?_
 refine wops_callR rfl rfl (by simp only [↓reduceIte, go_sem, hl]; first | done | rfl) (by simp only [↓reduceIte, go_sem, hl]; exact r31 c F hF _) ?_
 rintro w S2 ⟨B, rfl, hBs, hK2⟩
 have q3 := hK2.2
 have q4 := hK2.len
 have b2 := hK2.hp b1
 have m2 := hp_lt b2
 rcases clash_law hA with ⟨hx, e, hall⟩ | ⟨hx, l, e, hl1, hne, hbad, hmin⟩
 ·have eb : (bestR c).2.2 = 0 := by
   rcases best_err hA with h | h
   ·exact h.1
   ·exact absurd h.2 hx
  rw [e] at hL ⊢
  rw [eb]
  have hcan := hall p hpo
  refine go (bw10 hl h1 b2 (neL m2) (neA m2) (ltL m2) (ltA m2) m2 zs hcan) (bw3 k61 c26 fnil) ?_
  refine fnq_flat (results_one (by rw [rdRes_tmp]; simp only [↓reduceIte, go_sem, hl]; first | done | rfl)) (by first | exact Nat.le_refl _ | omega | (simp only [lo_push, lo_setVar]; omega)) (by rfl)
 ·have eb : (bestR c).2.2 = 5 := by
   rcases best_err hA with h | h
   ·exact absurd hx h.2
   ·exact h.1
  rw [e] at hL ⊢
  rw [eb]
  have hLs := hL.slen
  have hll := ris_len hl1
  have hl0 : 0 < l.length := List.length_pos_iff.2 hne
  have k61b := c61 c F L l hF hL hA hl1.rng (by omega)
  have k45b := c45 c F L l hF hL (by omega) (by omega)
  rw [risingB_of hl1] at k45b
  have k38 := c38 P L p l hP hL (by omega)
  have y1 : decide ((l.length : Int) < 1) = false := by rw [decide_eq_false_iff_not]; omega
  have y2 : decide ((l.length : Int) > c.figs.length) = false := by rw [decide_eq_false_iff_not]; omega
  cases hcan : canB c p
  ·have hm := hmin p hpo hcan
   have y3 : decide ((p.length : Int) < l.length) = false := by rw [decide_eq_false_iff_not]; omega
   cases y4 : ((p.length : Int) == l.length)
   ·refine go (bw18 hl h1 b2 (neL m2) (neA m2) (ltL m2) (ltA m2) m2 zs hcan hbad hLs hPs hFs y1 y2 y3 y4) (bw5 k61 k61b k45b c26 fnil) ?_
    refine fnq_flat (results_one (by rw [rdRes_tmp]; simp only [↓reduceIte, go_sem, hl]; first | done | rfl)) (by first | exact Nat.le_refl _ | omega | (simp only [lo_push, lo_setVar]; omega)) (by rfl)
   ·have hbf := hm.2 (by have := beq_iff_eq.1 y4; omega)
    refine go (bw19 hl h1 b2 (neL m2) (neA m2) (ltL m2) (ltA m2) m2 zs hcan hbad hLs hPs hFs y1 y2 y3 y4 hbf) (bw6 k61 k61b k45b k38 c26 fnil) ?_
    refine fnq_flat (results_one (by rw [rdRes_tmp]; simp only [↓reduceIte, go_sem, hl]; first | done | rfl)) (by first | exact Nat.le_refl _ | omega | (simp only [lo_push, lo_setVar]; omega)) (by rfl)
  ·refine go (bw16 hl h1 b2 (neL m2) (neA m2) (ltL m2) (ltA m2) m2 zs hcan hbad hLs hPs hFs y1 y2) (bw5 k61 k61b k45b c26 fnil) ?_
   refine fnq_flat (results_one (by rw [rdRes_tmp]; simp only [↓reduceIte, go_sem, hl]; first | done | rfl)) (by first | exact Nat.le_refl _ | omega | (simp only [lo_push, lo_setVar]; omega)) (by rfl)
end Go.Den.Ch
end

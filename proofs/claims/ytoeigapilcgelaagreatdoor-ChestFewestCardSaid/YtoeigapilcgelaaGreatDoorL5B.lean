/- Part of the proof that for every input the function ChestFewest returns true and each argument reads as it did. Texts: ChMc. -/
import Derived.Test.YtoeigapilcgelaaGreatDoorK1Br
set_option linter.unusedSimpArgs false
set_option linter.unusedVariables false
section
namespace Go.Den.Ch
set_option maxHeartbeats 32000000 in
theorem c5 (c : CL) (F P : PV) (p : List Int) (hF : SlOf 3 encF F c.figs) (hP : SlOf 1 encI P p) (st : St) : Cl EE (.func 5 [] []) [clPV c F, P] st (.ret (.bool true)) st := by
 have hFc := hF.cells
 have hFi := hF.isCell
 have hFs := hF.slen
 have hPc := hP.cells
 have hPs := hP.slen
 refine cl_fn (pr5 · _ _) fn5 2 rfl (by decide) (fun tm hl hg => ?_); have h0 : tg tm 0 = clPV c F := (hg 0 (by decide)); have h1 : tg tm 1 = P := (hg 1 (by decide)); clear hg
 cases hA : listB c
 ·refine go (bw4 hl h0 h1 hA) (bw3 (c24 c F hF) c26 fnil) ?_
  refine fnq_flat (results_one (by rw [rdRes_tmp]; simp only [↓reduceIte, go_sem, hl]; first | done | rfl)) (by first | exact Nat.le_refl _ | omega | (simp only [lo_push, lo_setVar]; omega)) (by rfl)
 have hc := OkL.of hA
 have hlen := hc.len
 cases d1 : decide ((p.length : Int) > 8)
 case true =>
  refine go (bw6 hl h0 h1 hA hPs d1) (bw3 (c24 c F hF) c26 fnil) ?_
  refine fnq_flat (results_one (by rw [rdRes_tmp]; simp only [↓reduceIte, go_sem, hl]; first | done | rfl)) (by first | exact Nat.le_refl _ | omega | (simp only [lo_push, lo_setVar]; omega)) (by rfl)
 have hp8 : p.length ≤ 8 := by have := of_decide_eq_false d1; omega
 have k25 := c25 c F P p hF hP (by omega) ⟨hc.d0, hc.d1⟩
 cases hB : packB c p
 ·refine go (bw7 hl h0 h1 hA hPs d1 hB) (bw4 (c24 c F hF) k25 c26 fnil) ?_
  refine fnq_flat (results_one (by rw [rdRes_tmp]; simp only [↓reduceIte, go_sem, hl]; first | done | rfl)) (by first | exact Nat.le_refl _ | omega | (simp only [lo_push, lo_setVar]; omega)) (by rfl)
 have hp0 := OkP.of hB
 have k37 := c37 c F P p hF hP hA (by omega)
 have hX := rightsL_len hc
 have k32 := c32 c F hF (by omega)
 rw [hA] at k32
 simp only [if_true] at k32
 have k29 := c29 P p hP (by omega) (layersL_small hc hp0)
 refine go (bw7 hl h0 h1 hA hPs d1 hB) (bw3 (c24 c F hF) k25 fnil) ?_
 refine wops_callR rfl rfl (by simp only [↓reduceIte, go_sem, hl]; first | done | rfl) (by simp only [↓reduceIte, go_sem, hl]; exact r31 c F hF _) ?_
 rintro v S1 ⟨B, rfl, hBs, hK⟩
 have q1 := hK.2
 have q2 := hK.len
 try simp only [lo_push, len_push] at q1 q2
 have b1 := hK.hp (l := st.heap.length) (o := .var [iv c.room, iv c.depth, F]) (by simp only [↓reduceIte, go_sem])
 have m1 := hp_lt b1
 cases hb : bestF ltLay (rightsL c) with
 | none =>
  have hX0 := best_none hb
  have e : bestR c = ([], 0, 5) := by simp [bestR, hA, hb]
  have hi : fitsB c p = false := by
   cases h : fitsB c p with
   | false => rfl
   | true => rw [fits_mem, hX0] at h; cases h
  simp only [e] at hBs ⊢
  have k32 : ∀ st, Cl EE (.func 32 [] []) [clPV c F] st (.ret (.tuple [iv 0, iv 0])) st := fun st => by have := k32 st; rw [hX0] at this; exact this
  refine go (bw11 hl h0 h1 b1 (neL m1) (neA m1) (ltL m1) (ltA m1) m1 zs hi) (bw4 k32 k37 c26 fnil) ?_
  refine fnq_flat (results_one (by rw [rdRes_tmp]; simp only [↓reduceIte, go_sem, hl]; first | done | rfl)) (by first | exact Nat.le_refl _ | omega | (simp only [lo_push, lo_setVar]; omega)) (by rfl)
 | some b =>
  have hm := best_law (m := layersL) (rights_sorted c) hb
  have e : bestR c = (b, layersL b, 0) := by simp [bestR, hA, hb]
  have hbr := (mem_rights.1 hm.1).1
  have hbf : fitsB c b = true := fits_mem.2 hm.1
  have hl0 : 0 < (rightsL c).length := List.length_pos_of_mem hm.1
  have dn1 : decide (((rightsL c).length : Int) < 0) = false := by rw [decide_eq_false_iff_not]; omega
  have dn2 : decide (((rightsL c).length : Int) > 0) = true := by rw [decide_eq_true_eq]; omega
  have hbl := hbr.len
  simp only [e] at hBs ⊢
  have k37b := c37 c F B b hF hBs hA (by omega)
  have k29b := c29 B b hBs (by omega) (layersL_small hc hbr)
  have k38 := c38 P B p b hP hBs (by omega)
  cases hi : fitsB c p
  ·refine go (bw15 hl h0 h1 b1 (neL m1) (neA m1) (ltL m1) (ltA m1) m1 zs hi dn1 dn2 hbf nne) (bw7 k32 k37 k37b k29b k29 c26 fnil) ?_
   refine fnq_flat (results_one (by rw [rdRes_tmp]; simp only [↓reduceIte, go_sem, hl]; first | done | rfl)) (by first | exact Nat.le_refl _ | omega | (simp only [lo_push, lo_setVar]; omega)) (by rfl)
  ·have h2 := hm.2 p (fits_mem.1 hi)
   cases dk : decide (layersL p > layersL b)
   ·have := of_decide_eq_false dk
    have hk : layersL p = layersL b := by omega
    have hq := h2.2 hk
    have he2 : (layersL p == layersL b) = true := by rw [hk]; simp
    refine go (bw18 hl h0 h1 b1 (neL m1) (neA m1) (ltL m1) (ltA m1) m1 zs hi dn1 dn2 hbf nne dk he2 hq) (bw8 k32 k37 k37b k29b k29 k38 c26 fnil) ?_
    refine fnq_flat (results_one (by rw [rdRes_tmp]; simp only [↓reduceIte, go_sem, hl]; first | done | rfl)) (by first | exact Nat.le_refl _ | omega | (simp only [lo_push, lo_setVar]; omega)) (by rfl)
   ·refine go (bw16 hl h0 h1 b1 (neL m1) (neA m1) (ltL m1) (ltA m1) m1 zs hi dn1 dn2 hbf nne dk) (bw7 k32 k37 k37b k29b k29 c26 fnil) ?_
    refine fnq_flat (results_one (by rw [rdRes_tmp]; simp only [↓reduceIte, go_sem, hl]; first | done | rfl)) (by first | exact Nat.le_refl _ | omega | (simp only [lo_push, lo_setVar]; omega)) (by rfl)
end Go.Den.Ch
end

/- Part of the proof that for every input the function ChestOuts returns true and each argument reads as it did. Texts: ChOu. -/
import Derived.Test.YtoeigapilcgelaaGreatDoorM1D
set_option linter.unusedSimpArgs false
set_option linter.unusedVariables false
section
namespace Go.Den.Ch
set_option maxHeartbeats 32000000 in
theorem c8 (c : CL) (F P G : PV) (p fs : List Int) (hF : SlOf 3 encF F c.figs) (hP : SlOf 1 encI P p) (hG : SlOf 1 encI G fs) (st : St) : Cl EE (.func 8 [] []) [clPV c F, P, G] st (.ret (.bool true)) st := by
 have hFc := hF.cells
 have hFi := hF.isCell
 have hFs := hF.slen
 have hPc := hP.cells
 have hPs := hP.slen
 have hGs := hG.slen
 refine cl_fn (pr8 · _ _) fn8 3 rfl (by decide) (fun tm hl hg => ?_); have h0 : tg tm 0 = clPV c F := (hg 0 (by decide)); have h1 : tg tm 1 = P := (hg 1 (by decide)); have h2 : tg tm 2 = G := (hg 2 (by decide)); clear hg
 have k30 := c30 c F hF
 cases d0 : decide (c.figs.length ≤ 8)
 ·refine go (bw5 hl h0 h1 h2 d0) (bw3 k30 c26 fnil) ?_
  refine fnq_flat (results_one (by rw [rdRes_tmp]; simp only [↓reduceIte, go_sem, hl]; first | done | rfl)) (by first | exact Nat.le_refl _ | omega | (simp only [lo_push, lo_setVar]; omega)) (by rfl)
 have hlen := of_decide_eq_true d0
 cases d1 : decide ((p.length : Int) > 8)
 case true =>
  refine go (bw7 hl h0 h1 h2 d0 hPs d1) (bw3 k30 c26 fnil) ?_
  refine fnq_flat (results_one (by rw [rdRes_tmp]; simp only [↓reduceIte, go_sem, hl]; first | done | rfl)) (by first | exact Nat.le_refl _ | omega | (simp only [lo_push, lo_setVar]; omega)) (by rfl)
 have hp8 : p.length ≤ 8 := by have := of_decide_eq_false d1; omega
 cases d2 : decide ((fs.length : Int) > 8)
 case true =>
  refine go (bw9 hl h0 h1 h2 d0 hPs d1 hGs d2) (bw3 k30 c26 fnil) ?_
  refine fnq_flat (results_one (by rw [rdRes_tmp]; simp only [↓reduceIte, go_sem, hl]; first | done | rfl)) (by first | exact Nat.le_refl _ | omega | (simp only [lo_push, lo_setVar]; omega)) (by rfl)
 have hg8 : fs.length ≤ 8 := by have := of_decide_eq_false d2; omega
 refine go (bw9 hl h0 h1 h2 d0 hPs d1 hGs d2) (bw k30 fnil) ?_
 refine wops_callR rfl rfl (by simp only [↓reduceIte, go_sem, hl]; first | done | rfl) (by simp only [↓reduceIte, go_sem, hl]; exact r44 c F P G p fs hF hP hG (by omega) _) ?_
 rintro v S1 ⟨V, rfl, hV, hK⟩
 have q1 := hK.2
 have q2 := hK.len
 try simp only [lo_push, len_push] at q1 q2
 have b1 := hK.hp (l := st.heap.length) (o := .var [iv c.room, iv c.depth, F]) (by simp only [↓reduceIte, go_sem])
 have m1 := hp_lt b1
 have k33 := c33 c F hF (by omega)
 have z2 : ((2 : Int) == 2) = true := rfl
 have zl : (((0 : Nat) : Int) == 0) = true := rfl
 cases hA : listB c
 ·have e : outR c p fs = ([], 2) := by simp [outR, hA]
  rw [e] at hV ⊢
  have hVs : V.slen = some 0 := hV.slen
  refine go (bw15 hl h0 h1 h2 b1 (neL m1) (neA m1) (ltL m1) (ltA m1) m1 zs z2 zl hA hVs) (bw3 k33 c26 fnil) ?_
  refine fnq_flat (results_one (by rw [rdRes_tmp]; simp only [↓reduceIte, go_sem, hl]; first | done | rfl)) (by first | exact Nat.le_refl _ | omega | (simp only [lo_push, lo_setVar]; omega)) (by rfl)
 have hc := OkL.of hA
 have k25 := c25 c F P p hF hP (by omega) ⟨hc.d0, hc.d1⟩
 cases hB : packB c p
 ·have e : outR c p fs = ([], 2) := by simp [outR, hA, hB]
  rw [e] at hV ⊢
  have hVs : V.slen = some 0 := hV.slen
  refine go (bw16 hl h0 h1 h2 b1 (neL m1) (neA m1) (ltL m1) (ltA m1) m1 zs z2 zl hA hB hVs) (bw4 k33 k25 c26 fnil) ?_
  refine fnq_flat (results_one (by rw [rdRes_tmp]; simp only [↓reduceIte, go_sem, hl]; first | done | rfl)) (by first | exact Nat.le_refl _ | omega | (simp only [lo_push, lo_setVar]; omega)) (by rfl)
 have hp0 := OkP.of hB
 have k45 := c45 c F G fs hF hG (by omega) (by omega)
 cases hR : risingB c.figs.length fs
 ·have e : outR c p fs = ([], 2) := by simp [outR, hA, hB, hR]
  rw [e] at hV ⊢
  have hVs : V.slen = some 0 := hV.slen
  refine go (bw17 hl h0 h1 h2 b1 (neL m1) (neA m1) (ltL m1) (ltA m1) m1 zs z2 zl hA hB hR hVs) (bw5 k33 k25 k45 c26 fnil) ?_
  refine fnq_flat (results_one (by rw [rdRes_tmp]; simp only [↓reduceIte, go_sem, hl]; first | done | rfl)) (by first | exact Nat.le_refl _ | omega | (simp only [lo_push, lo_setVar]; omega)) (by rfl)
 have k46 := c46 c F P p hF hP hc hp0
 cases hf : (fault c p).isNone
 ·have e : outR c p fs = ([], 7) := by simp only [outR, hA, hB, hR, hf, Bool.and_self, if_true, Bool.false_eq_true, if_false]
  rw [e] at hV ⊢
  have hVs : V.slen = some 0 := hV.slen
  refine go (bw18 hl h0 h1 h2 b1 (neL m1) (neA m1) (ltL m1) (ltA m1) m1 zs z2 zl hA hB hR hf hVs) (bw6 k33 k25 k45 k46 c26 fnil) ?_
  refine fnq_flat (results_one (by rw [rdRes_tmp]; simp only [↓reduceIte, go_sem, hl]; first | done | rfl)) (by first | exact Nat.le_refl _ | omega | (simp only [lo_push, lo_setVar]; omega)) (by rfl)
 have e : outR c p fs = (outL p fs, 0) := by simp only [outR, hA, hB, hR, hf, Bool.and_self, if_true]
 rw [e] at hV ⊢
 have hVs := hV.slen
 have hfs : OkF p.length fs := by rw [hp0.len]; exact risingB_ok hR
 refine go (bw18 hl h0 h1 h2 b1 (neL m1) (neA m1) (ltL m1) (ltA m1) m1 zs z2 zl hA hB hR hf hVs) (bw5 k33 k25 k45 k46 fnil) ?_
 refine wops_callR (by simp only [↓reduceIte, go_sem, hl]; first | done | rfl) (by with_reducible rfl) (by simp only [↓reduceIte, go_sem, hl]; first | done | rfl) (by simp only [↓reduceIte, go_sem, hl]; exact c47 P G p fs hP hG (by omega) (by omega) hfs _) ?_
 intro v2 S2 hR2
 have q3 := hR2.lo
 have q4 := hR2.len
 try simp only [lo_push, len_push] at q3 q4
 have hlo2 : (outL p fs).length < 1000000 := by
  have := castL_len (outP p fs) p.length
  unfold outL; omega
 have k36 := c36 V v2 (outL p fs) (outL p fs) hV (slI hR2) hlo2
 rw [show ((outL p fs) == (outL p fs)) = true by simp] at k36
 refine go (bw hl zs) (bw3 k36 c26 fnil) ?_
 refine fnq_flat (results_one (by rw [rdRes_tmp]; simp only [↓reduceIte, go_sem, hl]; first | done | rfl)) (by first | exact Nat.le_refl _ | omega | (simp only [lo_push, lo_setVar]; omega)) (by rfl)
end Go.Den.Ch
end

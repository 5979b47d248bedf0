/- Part of the proof that for every input the function ChestWrongs returns true and each argument reads as it did. Texts: ChWr. -/
import Derived.Test.YtoeigapilcgelaaGreatDoorM1D
set_option linter.unusedSimpArgs false
set_option linter.unusedVariables false
section
namespace Go.Den.Ch
set_option maxHeartbeats 32000000 in
theorem c20 (c : CL) (F P : PV) (p : List Int) (hF : SlOf 3 encF F c.figs) (hP : SlOf 1 encI P p) (st : St) : Cl EE (.func 20 [] []) [clPV c F, P] st (.ret (.bool true)) st := by
 have hFc := hF.cells
 have hFi := hF.isCell
 have hFs := hF.slen
 have hPc := hP.cells
 have hPs := hP.slen
 refine cl_fn (pr20 · _ _) fn20 2 rfl (by decide) (fun tm hl hg => ?_); have h0 : tg tm 0 = clPV c F := (hg 0 (by decide)); have h1 : tg tm 1 = P := (hg 1 (by decide)); clear hg
 have k30 := c30 c F hF
 cases d0 : decide (c.figs.length ≤ 8)
 ·refine go (bw4 hl h0 h1 d0) (bw3 k30 c26 fnil) ?_
  refine fnq_flat (results_one (by rw [rdRes_tmp]; simp only [↓reduceIte, go_sem, hl]; first | done | rfl)) (by first | exact Nat.le_refl _ | omega | (simp only [lo_push, lo_setVar]; omega)) (by rfl)
 have hlen := of_decide_eq_true d0
 cases d1 : decide ((p.length : Int) > 8)
 case true =>
  refine go (bw6 hl h0 h1 d0 hPs d1) (bw3 k30 c26 fnil) ?_
  refine fnq_flat (results_one (by rw [rdRes_tmp]; simp only [↓reduceIte, go_sem, hl]; first | done | rfl)) (by first | exact Nat.le_refl _ | omega | (simp only [lo_push, lo_setVar]; omega)) (by rfl)
 have hp8 : p.length ≤ 8 := by have := of_decide_eq_false d1; omega
 have k67 := c67 c F hF
 have k33 := c33 c F hF (by omega)
 have z2 : ((2 : Int) == 2) = true := rfl
 have z3 : ([(0 : Int), 0, 0] == [0, 0, 0]) = true := rfl
 have h27 := c27 c F P p hF hP
 cases hA : listB c
 ·have k27 : ∀ st, Cl EE (.func 27 [] []) [clPV c F, P] st (.ret (.tuple [.agg [iv 0, iv 0, iv 0], iv 2])) st := fun st => by
   have := h27 st
   rw [show wrongR c p = (none, 2) by simp [wrongR, hA]] at this
   exact this
  rw [hA] at k67 k33
  simp only [Bool.false_eq_true, if_false] at k67
  refine go (bw9 hl h0 h1 d0 hPs d1 zs z2 z3) (bw6 k30 k67 k27 k33 c26 fnil) ?_
  refine fnq_flat (results_one (by rw [rdRes_tmp]; simp only [↓reduceIte, go_sem, hl]; first | done | rfl)) (by first | exact Nat.le_refl _ | omega | (simp only [lo_push, lo_setVar]; omega)) (by rfl)
 have hc := OkL.of hA
 have k25 := c25 c F P p hF hP (by omega) ⟨hc.d0, hc.d1⟩
 rw [hA] at k67 k33
 simp only [if_true] at k67
 cases hB : packB c p
 ·have k27 : ∀ st, Cl EE (.func 27 [] []) [clPV c F, P] st (.ret (.tuple [.agg [iv 0, iv 0, iv 0], iv 2])) st := fun st => by
   have := h27 st
   rw [show wrongR c p = (none, 2) by simp [wrongR, hA, hB]] at this
   exact this
  rw [hB] at k25
  refine go (bw9 hl h0 h1 d0 hPs d1 zs z2 z3) (bw7 k30 k67 k27 k33 k25 c26 fnil) ?_
  refine fnq_flat (results_one (by rw [rdRes_tmp]; simp only [↓reduceIte, go_sem, hl]; first | done | rfl)) (by first | exact Nat.le_refl _ | omega | (simp only [lo_push, lo_setVar]; omega)) (by rfl)
 have hp0 := OkP.of hB
 rw [hB] at k25
 have h68 := c68 c F P p hF hP hc hp0
 cases hf : fault c p with
 | none =>
  have k27 : ∀ st, Cl EE (.func 27 [] []) [clPV c F, P] st (.ret (.tuple [.agg [iv 0, iv 0, iv 0], iv 5])) st := fun st => by
   have := h27 st
   rw [show wrongR c p = (none, 5) by simp [wrongR, hA, hB, hf]] at this
   exact this
  have k68 : ∀ st, Cl EE (.func 68 [] []) [clPV c F, P] st (.ret (.tuple [.agg [iv 0, iv 0, iv 0], .bool false])) st := fun st => by
   have := h68 st
   rw [hf] at this
   exact this
  refine go (bw9 hl h0 h1 d0 hPs d1 zs z2 z3) (bw8 k30 k67 k27 k33 k25 k68 c26 fnil) ?_
  refine fnq_flat (results_one (by rw [rdRes_tmp]; simp only [↓reduceIte, go_sem, hl]; first | done | rfl)) (by first | exact Nat.le_refl _ | omega | (simp only [lo_push, lo_setVar]; omega)) (by rfl)
 | some f =>
  have k27 : ∀ st, Cl EE (.func 27 [] []) [clPV c F, P] st (.ret (.tuple [.agg [iv f.rule, iv f.one, iv f.other], iv 0])) st := fun st => by
   have := h27 st
   rw [show wrongR c p = (some f, 0) by simp [wrongR, hA, hB, hf]] at this
   exact this
  have k68 : ∀ st, Cl EE (.func 68 [] []) [clPV c F, P] st (.ret (.tuple [.agg [iv f.rule, iv f.one, iv f.other], .bool true])) st := fun st => by
   have := h68 st
   rw [hf] at this
   exact this
  have z4 : ([f.rule, f.one, f.other] == [f.rule, f.one, f.other]) = true := by simp
  refine go (bw9 hl h0 h1 d0 hPs d1 zs z2 z4) (bw8 k30 k67 k27 k33 k25 k68 c26 fnil) ?_
  refine fnq_flat (results_one (by rw [rdRes_tmp]; simp only [↓reduceIte, go_sem, hl]; first | done | rfl)) (by first | exact Nat.le_refl _ | omega | (simp only [lo_push, lo_setVar]; omega)) (by rfl)
end Go.Den.Ch
end

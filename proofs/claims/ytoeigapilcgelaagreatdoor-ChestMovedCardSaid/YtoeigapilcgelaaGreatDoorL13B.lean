/- Part of the proof that for every input the function ChestMoved returns true and each argument reads as it did. Texts: ChMo. -/
import Derived.Test.YtoeigapilcgelaaGreatDoorK1Br
set_option linter.unusedSimpArgs false
set_option linter.unusedVariables false
section
namespace Go.Den.Ch
theorem r57 (c : CL) (F : PV) (f : Fig) (hF : SlOf 3 encF F c.figs) (hN : c.figs.length < 1000) (st : St) : ClR EE (.func 57 [] []) [clPV c F, figPV f] st (fun v st' => ∃ F', v = clPV (withL c f) F' ∧ SlOf 3 encF F' (withL c f).figs ∧ Keep st st') := by
 obtain ⟨v, st', h1, P, e, hW⟩ := c57 c F f hF hN st
 exact ⟨v, st', h1, P, e, retF hW, keepW hW⟩
theorem with_ok {c : CL} {f : Fig} (hA : listB c = true) (hf : figB f = true) (hl : c.figs.length < 6) : listB (withL c f) = true := by
 simp only [listB, Bool.and_eq_true, decide_eq_true_eq] at hA ⊢
 exact ⟨hA.1, hA.2.1, by simp [withL]; omega, by simp only [withL, List.all_append, hA.2.2.2, List.all_cons, List.all_nil, hf, Bool.and_self]⟩
theorem movedM_le {p q : List Int} (h : q.length ≤ p.length) : movedM p q = movedL p q := by
 unfold movedM movedT movedL
 rw [Nat.min_eq_right h]
set_option maxHeartbeats 32000000 in
theorem c13 (c : CL) (F Q P : PV) (q p : List Int) (f : Fig) (hF : SlOf 3 encF F c.figs) (hQ : SlOf 1 encI Q q) (hP : SlOf 1 encI P p) (st : St) : Cl EE (.func 13 [] []) [clPV c F, Q, figPV f, P] st (.ret (.bool true)) st := by
 have hFc := hF.cells
 have hFi := hF.isCell
 have hFs := hF.slen
 have hQc := hQ.cells
 have hQs := hQ.slen
 have hPs := hP.slen
 refine cl_fn (pr13 · _ _) fn13 4 rfl (by decide) (fun tm hl hg => ?_); have h0 : tg tm 0 = clPV c F := (hg 0 (by decide)); have h1 : tg tm 1 = Q := (hg 1 (by decide)); have h2 : tg tm 2 = figPV f := (hg 2 (by decide)); have h3 : tg tm 3 = P := (hg 3 (by decide)); clear hg
 have k24 := c24 c F hF
 cases hA : listB c
 ·refine go (bw6 hl h0 h1 h2 h3 hA) (bw3 k24 c26 fnil) ?_
  refine fnq_flat (results_one (by rw [rdRes_tmp]; simp only [↓reduceIte, go_sem, hl]; first | done | rfl)) (by first | exact Nat.le_refl _ | omega | (simp only [lo_push, lo_setVar]; omega)) (by rfl)
 have hc := OkL.of hA
 have hlen := hc.len
 cases d1 : decide ((q.length : Int) > 8)
 case true =>
  refine go (bw8 hl h0 h1 h2 h3 hA hQs d1) (bw3 k24 c26 fnil) ?_
  refine fnq_flat (results_one (by rw [rdRes_tmp]; simp only [↓reduceIte, go_sem, hl]; first | done | rfl)) (by first | exact Nat.le_refl _ | omega | (simp only [lo_push, lo_setVar]; omega)) (by rfl)
 have hq8 : q.length ≤ 8 := by have := of_decide_eq_false d1; omega
 cases d2 : decide ((p.length : Int) > 8)
 case true =>
  refine go (bw10 hl h0 h1 h2 h3 hA hQs d1 hPs d2) (bw3 k24 c26 fnil) ?_
  refine fnq_flat (results_one (by rw [rdRes_tmp]; simp only [↓reduceIte, go_sem, hl]; first | done | rfl)) (by first | exact Nat.le_refl _ | omega | (simp only [lo_push, lo_setVar]; omega)) (by rfl)
 have hp8 : p.length ≤ 8 := by have := of_decide_eq_false d2; omega
 have k25 := c25 c F Q q hF hQ (by omega) ⟨hc.d0, hc.d1⟩
 cases hB : packB c q
 ·refine go (bw11 hl h0 h1 h2 h3 hA hQs d1 hPs d2 hB) (bw4 k24 k25 c26 fnil) ?_
  refine fnq_flat (results_one (by rw [rdRes_tmp]; simp only [↓reduceIte, go_sem, hl]; first | done | rfl)) (by first | exact Nat.le_refl _ | omega | (simp only [lo_push, lo_setVar]; omega)) (by rfl)
 have hq0 := OkP.of hB
 have hql := hq0.len
 have k54 := c54 f
 cases hf : figB f
 ·refine go (bw12 hl h0 h1 h2 h3 hA hQs d1 hPs d2 hB hf) (bw5 k24 k25 k54 c26 fnil) ?_
  refine fnq_flat (results_one (by rw [rdRes_tmp]; simp only [↓reduceIte, go_sem, hl]; first | done | rfl)) (by first | exact Nat.le_refl _ | omega | (simp only [lo_push, lo_setVar]; omega)) (by rfl)
 cases d3 : decide ((c.figs.length : Int) ≥ 6)
 case true =>
  refine go (bw14 hl h0 h1 h2 h3 hA hQs d1 hPs d2 hB hf hFs d3) (bw5 k24 k25 k54 c26 fnil) ?_
  refine fnq_flat (results_one (by rw [rdRes_tmp]; simp only [↓reduceIte, go_sem, hl]; first | done | rfl)) (by first | exact Nat.le_refl _ | omega | (simp only [lo_push, lo_setVar]; omega)) (by rfl)
 have hl6 : c.figs.length < 6 := by have := of_decide_eq_false d3; omega
 have k37q := c37 c F Q q hF hQ hA (by omega)
 cases hi0 : fitsB c q
 ·refine go (bw15 hl h0 h1 h2 h3 hA hQs d1 hPs d2 hB hf hFs d3 hi0) (bw6 k24 k25 k54 k37q c26 fnil) ?_
  refine fnq_flat (results_one (by rw [rdRes_tmp]; simp only [↓reduceIte, go_sem, hl]; first | done | rfl)) (by first | exact Nat.le_refl _ | omega | (simp only [lo_push, lo_setVar]; omega)) (by rfl)
 have hfn := (mem_rights.1 (fits_mem.1 hi0)).2
 have hX := with_ok hA hf hl6
 have hXl : (withL c f).figs.length = c.figs.length + 1 := by simp [withL]
 refine go (bw15 hl h0 h1 h2 h3 hA hQs d1 hPs d2 hB hf hFs d3 hi0) (bw5 k24 k25 k54 k37q fnil) ?_
 refine wops_callR rfl rfl (by simp only [↓reduceIte, go_sem, hl]; first | done | rfl) (by simp only [↓reduceIte, go_sem, hl]; exact r57 c F f hF (by omega) _) ?_
 rintro v S1 ⟨X, rfl, hXF, hK⟩
 have q1 := hK.2
 have q2 := hK.len
 try simp only [lo_push, len_push] at q1 q2
 have b1 := hK.hp (l := st.heap.length) (o := .var [iv c.room, iv c.depth, F]) (by simp only [↓reduceIte, go_sem])
 have b2 := hK.hp (l := st.heap.length + 1) (o := .var [iv f.size, iv f.rank, iv f.eve]) (by simp only [↓reduceIte, go_sem])
 have m1 := hp_lt b1
 have m2 := hp_lt b2
 have hXc := hXF.cells
 have hXi := hXF.isCell
 have ex : clPV (withL c f) X = .agg [iv c.room, iv c.depth, X] := rfl
 rw [ex]
 refine go (bw15 hl b1 b2 (neL m1) (neA m1) (ltL m1) (ltA m1) (neL m2) (neA m2) (ltL m2) (ltA m2) m1 m2 hXc hXi) fnil ?_
 refine wops_callR rfl rfl (by simp only [↓reduceIte, go_sem, hl, h1]; first | done | rfl) (by simp only [↓reduceIte, go_sem, hl, h1]; exact r53 c F Q q f hF hQ _) ?_
 rintro w S2 ⟨B, rfl, hBs, hK2⟩
 have q3 := hK2.2
 have q4 := hK2.len
 try simp only [lo_push, len_push, lo_setVar, len_setVar] at q3 q4
 have b3 := hK2.hp (l := S1.heap.length) (o := .var [iv c.room, iv c.depth, X]) (by simp only [↓reduceIte, go_sem])
 have m3 := hp_lt b3
 have k37 : ∀ st, Cl EE (.func 37 [] []) [.agg [iv c.room, iv c.depth, X], P] st (.ret (.bool (fitsB (withL c f) p))) st := c37 (withL c f) X P p hXF hP hX (by omega)
 have el : laterR c q f = match bestF (ltMv q) (rightsL (withL c f)) with | some p => (p, movedL p q, 0) | none => ([], 0, 5) := by
  unfold laterR
  rw [hA, hB, hf, hfn, if_neg (show ¬ 6 ≤ c.figs.length by omega)]
  rfl
 cases hb : bestF (ltMv q) (rightsL (withL c f)) with
 | none =>
  have hX0 := best_none hb
  have e : laterR c q f = ([], 0, 5) := by rw [el, hb]
  have hi : fitsB (withL c f) p = false := by
   cases h : fitsB (withL c f) p with
   | false => rfl
   | true => rw [fits_mem, hX0] at h; cases h
  simp only [e] at hBs ⊢
  refine go (bw10 hl h3 b3 (neL m3) (neA m3) (ltL m3) (ltA m3) m3 zs hi) (bw3 k37 c26 fnil) ?_
  refine fnq_flat (results_one (by rw [rdRes_tmp]; simp only [↓reduceIte, go_sem, hl]; first | done | rfl)) (by first | exact Nat.le_refl _ | omega | (simp only [lo_push, lo_setVar]; omega)) (by rfl)
 | some b =>
  have hm := best_law (m := fun p => movedL p q) (rights_sorted (withL c f)) hb
  have e : laterR c q f = (b, movedL b q, 0) := by rw [el, hb]
  have hbr := (mem_rights.1 hm.1).1
  have hbf : fitsB (withL c f) b = true := fits_mem.2 hm.1
  have hbl := hbr.len
  simp only [e] at hBs ⊢
  have k37b : ∀ st, Cl EE (.func 37 [] []) [.agg [iv c.room, iv c.depth, X], B] st (.ret (.bool (fitsB (withL c f) b))) st := c37 (withL c f) X B b hXF hBs hX (by omega)
  have k56b := c56 B Q b q hBs hQ (by omega)
  rw [movedM_le (show q.length ≤ b.length by omega)] at k56b
  have k56 := c56 P Q p q hP hQ (by omega)
  have k38 := c38 P B p b hP hBs (by omega)
  cases hi : fitsB (withL c f) p
  ·refine go (bw13 hl h1 h3 b3 (neL m3) (neA m3) (ltL m3) (ltA m3) m3 zs hi hbf nne) (bw6 k37 k37b k56b k56 c26 fnil) ?_
   refine fnq_flat (results_one (by rw [rdRes_tmp]; simp only [↓reduceIte, go_sem, hl]; first | done | rfl)) (by first | exact Nat.le_refl _ | omega | (simp only [lo_push, lo_setVar]; omega)) (by rfl)
  ·have h2 := hm.2 p (fits_mem.1 hi)
   have hpl := (mem_rights.1 (fits_mem.1 hi)).1.len
   rw [movedM_le (show q.length ≤ p.length by omega)] at k56
   cases dk : decide (movedL p q > movedL b q)
   ·have := of_decide_eq_false dk
    have hk : movedL p q = movedL b q := by omega
    have hq := h2.2 hk
    have he2 : (movedL p q == movedL b q) = true := by rw [hk]; simp
    refine go (bw16 hl h1 h3 b3 (neL m3) (neA m3) (ltL m3) (ltA m3) m3 zs hi hbf nne dk he2 hq) (bw7 k37 k37b k56b k56 k38 c26 fnil) ?_
    refine fnq_flat (results_one (by rw [rdRes_tmp]; simp only [↓reduceIte, go_sem, hl]; first | done | rfl)) (by first | exact Nat.le_refl _ | omega | (simp only [lo_push, lo_setVar]; omega)) (by rfl)
   ·refine go (bw14 hl h1 h3 b3 (neL m3) (neA m3) (ltL m3) (ltA m3) m3 zs hi hbf nne dk) (bw6 k37 k37b k56b k56 c26 fnil) ?_
    refine fnq_flat (results_one (by rw [rdRes_tmp]; simp only [↓reduceIte, go_sem, hl]; first | done | rfl)) (by first | exact Nat.le_refl _ | omega | (simp only [lo_push, lo_setVar]; omega)) (by rfl)
end Go.Den.Ch
end

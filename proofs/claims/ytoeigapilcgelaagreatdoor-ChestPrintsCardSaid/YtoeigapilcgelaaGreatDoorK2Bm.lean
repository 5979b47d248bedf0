/- Part of the proofs of laws of the package chest: the interpreter Den, its soundness, and contracts of the program's functions over it. Texts: ChZ. -/
import Derived.Test.YtoeigapilcgelaaGreatDoorK2Bl
set_option linter.unusedSimpArgs false
set_option linter.unusedVariables false
section
namespace Go.Den.Ch
theorem c74 (x lo hi : Int) (st : St) : Cl EE (.func 74 [] []) [iv x, iv lo, iv hi] st (.ret (.bool (inB x lo hi))) st := by
 refine cl_fn (pr74 · _ _) fn74 3 rfl (by decide) (fun tm hl hg => ?_); have h0 : tg tm 0 = iv x := (hg 0 (by decide)); have h1 : tg tm 1 = iv lo := (hg 1 (by decide)); have h2 : tg tm 2 = iv hi := (hg 2 (by decide)); clear hg
 have e : inB x lo hi = (decide (x ≥ lo) && decide (x ≤ hi)) := rfl
 rw [e]
 cases hd : decide (x ≥ lo)
 ·refine go (bw5 hl h0 h1 h2 hd) fnil ?_
  refine fnq_flat (results_one (by rw [rdRes_tmp]; simp only [go_sem, hl]; first | done | rfl)) (by first | exact Nat.le_refl _ | omega | (simp only [lo_push, lo_setVar]; omega)) (by rfl)
 ·refine go (bw5 hl h0 h1 h2 hd) fnil ?_
  refine fnq_flat (results_one (by rw [rdRes_tmp]; simp only [go_sem, hl]; first | done | rfl)) (by first | exact Nat.le_refl _ | omega | (simp only [lo_push, lo_setVar]; omega)) (by rfl)
theorem c54 (f : Fig) (st : St) : Cl EE (.func 54 [] []) [figPV f] st (.ret (.bool (figB f))) st := by
 refine cl_fn (pr54 · _ _) fn54 1 rfl (by decide) (fun tm hl hg => ?_); have h0 : tg tm 0 = figPV f := (hg 0 (by decide)); clear hg
 cases hA : inB f.size 1 9
 ·have e : figB f = false := by simp [figB, hA]
  rw [e]
  refine go (bw3 hl h0 hA) (bw c74 fnil) ?_
  refine fnq_flat (results_one (by rw [rdRes_tmp]; simp only [go_sem, hl]; first | done | rfl)) (by first | exact Nat.le_refl _ | omega | (simp only [lo_push, lo_setVar]; omega)) (by rfl)
 ·cases hB : inB f.rank 1 5
  ·have e : figB f = false := by simp [figB, hB]
   rw [e]
   refine go (bw4 hl h0 hA hB) (bw c74 fnil) ?_
   refine fnq_flat (results_one (by rw [rdRes_tmp]; simp only [go_sem, hl]; first | done | rfl)) (by first | exact Nat.le_refl _ | omega | (simp only [lo_push, lo_setVar]; omega)) (by rfl)
  ·have e : figB f = inB f.eve 0 5 := by simp [figB, hA, hB]
   rw [e]
   refine go (bw4 hl h0 hA hB) (bw c74 fnil) ?_
   refine fnq_flat (results_one (by rw [rdRes_tmp]; simp only [go_sem, hl]; first | done | rfl)) (by first | exact Nat.le_refl _ | omega | (simp only [lo_push, lo_setVar]; omega)) (by rfl)
theorem c30 (c : CL) (F : PV) (hF : SlOf 3 encF F c.figs) (st : St) : Cl EE (.func 30 [] []) [clPV c F] st (.ret (.bool (decide (c.figs.length ≤ 8)))) st := by
 have hFs := hF.slen
 have hFc := hF.cells
 refine cl_fn (pr30 · _ _) fn30 1 rfl (by decide) (fun tm hl hg => ?_); have h0 : tg tm 0 = clPV c F := (hg 0 (by decide)); clear hg
 have e : decide (c.figs.length ≤ 8) = decide ((c.figs.length : Int) ≤ 8) := by rw [decide_eq_decide]; omega
 rw [e]
 refine go (bw3 hl h0 hFs) fnil ?_
 refine fnq_flat (results_one (by rw [rdRes_tmp]; simp only [go_sem, hl]; first | done | rfl)) (by first | exact Nat.le_refl _ | omega | (simp only [lo_push, lo_setVar]; omega)) (by rfl)
theorem all_take {fs : List Fig} {i : Nat} (hi : i < fs.length) (h : ∀ f ∈ fs.take i, figB f = true) (hx : figB fs[i] = true) : ∀ f ∈ fs.take (i + 1), figB f = true := by
 intro f hf
 rw [List.take_succ_eq_append_getElem hi] at hf
 rcases List.mem_append.1 hf with h1 | h1
 ·exact h f h1
 ·rw [List.mem_singleton.1 h1]; exact hx
set_option maxHeartbeats 1000000 in
theorem c33 (c : CL) (F : PV) (hF : SlOf 3 encF F c.figs) (hN : c.figs.length < 1000000) (st : St) : Cl EE (.func 33 [] []) [clPV c F] st (.ret (.bool (listB c))) st := by
 have hFs := hF.slen
 have hFc := hF.cells
 refine cl_fn (pr33 · _ _) fn33 1 rfl (by decide) (fun tm hl hg => ?_); have h0 : tg tm 0 = clPV c F := (hg 0 (by decide)); clear hg
 refine go (bw hl h0) fnil ?_
 refine wp_for [3] (fun i vs st1 => vs = [iv i] ∧ i ≤ c.figs.length ∧ (∀ f ∈ c.figs.take i, figB f = true) ∧ st1 = ({ heap := st.heap, lo := st.heap.length } : St).push (.var [iv c.room, iv c.depth, F])) (fun i => c.figs.length - i) ⟨by simp only [go_sem, hl]; first | done | rfl, Nat.zero_le _, by simp, by first | done | rfl⟩ ?_
 rintro i tm1 st1 ⟨hv, hi, hall, rfl⟩ hS
 simp only [List.map_cons, List.map_nil, List.cons.injEq, and_true] at hv
 have hl1 : tm1.length = 32 := (by rw [hS.1]; simp only [put_len, hl]); have i1 : tg tm1 1 = .ptr st.heap.length 0 := (by rw [hS.2 1 (by decide)]; simp only [go_sem, hl]); clear hS
 refine go (bw4 hl1 hv i1 hFs) fnil ?_
 refine ⟨decide ((i : Int) < c.figs.length), by simp only [go_sem, hl1], fun hb => ?_, fun hb => ?_⟩
 ·have hlt := of_decide_eq_false hb
  have hin : i = c.figs.length := by omega
  rw [hin, List.take_length] at hall
  have e6 : decide (c.figs.length ≤ 6) = decide ((c.figs.length : Int) ≤ 6) := by rw [decide_eq_decide]; omega
  have e : listB c = (inB c.room 1 20 && (inB c.depth 1 5 && decide ((c.figs.length : Int) ≤ 6))) := by
   have : c.figs.all figB = true := List.all_eq_true.2 hall
   unfold listB
   rw [this, e6, Bool.and_true]
  rw [e]
  cases hA : inB c.room 1 20
  ·refine go (bw3 hl1 i1 hA) (bw c74 fnil) ?_
   refine fnq_flat (results_one (by rw [rdRes_tmp]; simp only [go_sem, hl1]; first | done | rfl)) (by first | exact Nat.le_refl _ | omega | (simp only [lo_push, lo_setVar]; omega)) (by rfl)
  ·cases hB : inB c.depth 1 5
   ·refine go (bw4 hl1 i1 hA hB) (bw c74 fnil) ?_
    refine fnq_flat (results_one (by rw [rdRes_tmp]; simp only [go_sem, hl1]; first | done | rfl)) (by first | exact Nat.le_refl _ | omega | (simp only [lo_push, lo_setVar]; omega)) (by rfl)
   ·refine go (bw5 hl1 i1 hA hB hFs) (bw c74 fnil) ?_
    refine fnq_flat (results_one (by rw [rdRes_tmp]; simp only [go_sem, hl1]; first | done | rfl)) (by first | exact Nat.le_refl _ | omega | (simp only [lo_push, lo_setVar]; omega)) (by rfl)
 ·have hlt : i < c.figs.length := by have := of_decide_eq_true hb; omega
  have hw : IntKind.wrap .i64 ((i : Int) + 1) = ((i + 1 : Nat) : Int) := wrap_nat (n := i + 1) (by omega)
  refine ⟨by omega, ?_⟩
  cases hx : figB c.figs[i]
  ·have e : listB c = false := by
    have : c.figs.all figB = false := List.all_eq_false.2 ⟨_, List.getElem_mem hlt, by rw [hx]; simp⟩
    simp [listB, this]
   rw [e]
   refine go (bw4 hl1 hv i1 hx) (bw c54 fnil) ?_
   refine fnq_flat (results_one (by rw [rdRes_tmp]; simp only [go_sem, hl1]; first | done | rfl)) (by first | exact Nat.le_refl _ | omega | (simp only [lo_push, lo_setVar]; omega)) (by rfl)
  ·refine go (bw5 hl1 hv i1 hx hw) (bw c54 fnil) ?_
   refine ⟨by simp only [go_sem, hl1], by omega, all_take hlt hall hx, rfl⟩
theorem c24 (c : CL) (F : PV) (hF : SlOf 3 encF F c.figs) (st : St) : Cl EE (.func 24 [] []) [clPV c F] st (.ret (.bool (listB c))) st := by
 have hFc := hF.cells
 have hFi := hF.isCell
 refine cl_fn (pr24 · _ _) fn24 1 rfl (by decide) (fun tm hl hg => ?_); have h0 : tg tm 0 = clPV c F := (hg 0 (by decide)); clear hg
 by_cases h8 : c.figs.length ≤ 8
 ·have d8 : decide (c.figs.length ≤ 8) = true := by simp [h8]
  refine go (bw3 hl h0 d8) (bw3 (c30 c F hF) (c33 c F hF (by omega)) fnil) ?_
  refine fnq_flat (results_one (by rw [rdRes_tmp]; simp only [go_sem, hl]; first | done | rfl)) (by first | exact Nat.le_refl _ | omega | (simp only [lo_push, lo_setVar]; omega)) (by rfl)
 ·have d8 : decide (c.figs.length ≤ 8) = false := by simp; omega
  have e : listB c = false := by
   cases h : listB c with
   | false => rfl
   | true => have := (OkL.of h).len; omega
  rw [e]
  refine go (bw3 hl h0 d8) (bw (c30 c F hF) fnil) ?_
  refine fnq_flat (results_one (by rw [rdRes_tmp]; simp only [go_sem, hl]; first | done | rfl)) (by first | exact Nat.le_refl _ | omega | (simp only [lo_push, lo_setVar]; omega)) (by rfl)
theorem c29 (F : PV) (p : List Int) (hF : SlOf 1 encI F p) (hN : p.length < 1000) (hb : ∀ x ∈ p, inI (x + 1)) (st : St) : Cl EE (.func 29 [] []) [F] st (.ret (iv (layersL p))) st := by
 have hs := hF.slen
 refine cl_fn (pr29 · _ _) fn29 1 rfl (by decide) (fun tm hl hg => ?_); have h0 : tg tm 0 = F := (hg 0 (by decide)); clear hg
 refine go (bw hl h0) fnil ?_
 refine wp_for [4, 3] (fun i vs st' => vs = [iv i, iv (layersL (p.take i))] ∧ i ≤ p.length ∧ st' = { heap := st.heap, lo := st.heap.length }) (fun i => p.length - i) ⟨by simp only [go_sem, hl]; first | done | rfl, Nat.zero_le _, rfl⟩ ?_
 rintro i tm1 st1 ⟨hv, hi, rfl⟩ hS
 simp only [List.map_cons, List.map_nil, List.cons.injEq, and_true] at hv
 obtain ⟨hv4, hv3⟩ := hv
 have hl1 : tm1.length = 19 := (by rw [hS.1]; simp only [put_len, hl]); have i0 : tg tm1 0 = F := (by rw [hS.2 0 (by decide)]; simp only [go_sem, hl, h0]); clear hS
 refine go (bw4 hl1 hv4 i0 hs) fnil ?_
 refine ⟨decide ((i : Int) < p.length), by simp only [go_sem, hl1], fun hb => ?_, fun hb1 => ?_⟩
 ·have hlt := of_decide_eq_false hb
  have hin : i = p.length := by omega
  rw [hin, List.take_length] at hv3
  refine go (bw hl1 hv3) fnil ?_
  refine fnq_flat (results_one (by rw [rdRes_tmp]; simp only [go_sem, hl1]; first | done | rfl)) (by first | exact Nat.le_refl _ | omega | (simp only [lo_push, lo_setVar]; omega)) (by rfl)
 ·have hlt : i < p.length := by have := of_decide_eq_true hb1; omega
  have hw1 : IntKind.wrap .i64 ((i : Int) + 1) = ((i + 1 : Nat) : Int) := wrap_nat (n := i + 1) (by omega)
  have hw : IntKind.wrap .i64 (p[i] + 1) = p[i] + 1 := wrap_in (hb _ (List.getElem_mem hlt))
  refine ⟨by omega, ?_⟩
  refine go (bw7 hl1 hv4 hv3 i0 hw hw1 @mm2) fnil ?_
  rw [layersL_take hlt]
  refine ⟨?_, by omega, rfl⟩
  simp only [go_sem, hl1]
set_option maxHeartbeats 1000000 in
theorem c25 (c : CL) (F P : PV) (p : List Int) (hF : SlOf 3 encF F c.figs) (hP : SlOf 1 encI P p) (hN : p.length < 1000000) (hd : 0 ≤ c.depth ∧ c.depth ≤ 5) (st : St) : Cl EE (.func 25 [] []) [clPV c F, P] st (.ret (.bool (packB c p))) st := by
 have hFs := hF.slen
 have hFc := hF.cells
 have hs := hP.slen
 have hwd : IntKind.wrap .i64 (c.depth - 1) = c.depth - 1 := wrap_in (by unfold inI; omega)
 refine cl_fn (pr25 · _ _) fn25 2 rfl (by decide) (fun tm hl hg => ?_); have h0 : tg tm 0 = clPV c F := (hg 0 (by decide)); have h1 : tg tm 1 = P := (hg 1 (by decide)); clear hg
 refine go (bw hl h0) fnil ?_
 refine wp_for [5] (fun i vs st' => vs = [iv i] ∧ i ≤ p.length ∧ (∀ x ∈ p.take i, inB x 0 (c.depth - 1) = true) ∧ st' = ({ heap := st.heap, lo := st.heap.length } : St).push (.var [iv c.room, iv c.depth, F])) (fun i => p.length - i) ⟨by simp only [go_sem, hl]; first | done | rfl, Nat.zero_le _, by simp, by first | done | rfl⟩ ?_
 rintro i tm1 st1 ⟨hv, hi, hall, rfl⟩ hS
 simp only [List.map_cons, List.map_nil, List.cons.injEq, and_true] at hv
 have hl1 : tm1.length = 27 := (by rw [hS.1]; simp only [put_len, hl]); have i1 : tg tm1 1 = P := (by rw [hS.2 1 (by decide)]; simp only [go_sem, hl, h1]); have i2 : tg tm1 2 = .ptr st.heap.length 0 := (by rw [hS.2 2 (by decide)]; simp only [go_sem, hl, h1]); clear hS
 refine go (bw4 hl1 hv i1 hs) fnil ?_
 refine ⟨decide ((i : Int) < p.length), by simp only [go_sem, hl1], fun hb => ?_, fun hb1 => ?_⟩
 ·have hlt := of_decide_eq_false hb
  have hin : i = p.length := by omega
  rw [hin, List.take_length] at hall
  have e : packB c p = ((p.length : Int) == (c.figs.length : Int)) := by
   have : p.all (fun n => inB n 0 (c.depth - 1)) = true := List.all_eq_true.2 hall
   unfold packB
   rw [this, Bool.and_true, Bool.eq_iff_iff, decide_eq_true_eq, beq_iff_eq]
   omega
  rw [e]
  refine go (bw5 hl1 i1 i2 hs hFs) fnil ?_
  refine fnq_flat (results_one (by rw [rdRes_tmp]; simp only [go_sem, hl1]; first | done | rfl)) (by first | exact Nat.le_refl _ | omega | (simp only [lo_push, lo_setVar]; omega)) (by rfl)
 ·have hlt : i < p.length := by have := of_decide_eq_true hb1; omega
  have hw1 : IntKind.wrap .i64 ((i : Int) + 1) = ((i + 1 : Nat) : Int) := wrap_nat (n := i + 1) (by omega)
  refine ⟨by omega, ?_⟩
  cases hx : inB p[i] 0 (c.depth - 1)
  ·have e : packB c p = false := by
    have : p.all (fun n => inB n 0 (c.depth - 1)) = false := List.all_eq_false.2 ⟨_, List.getElem_mem hlt, by rw [hx]; simp⟩
    simp [packB, this]
   rw [e]
   refine go (bw6 hl1 hv i1 i2 hx hwd) (bw c74 fnil) ?_
   refine fnq_flat (results_one (by rw [rdRes_tmp]; simp only [go_sem, hl1]; first | done | rfl)) (by first | exact Nat.le_refl _ | omega | (simp only [lo_push, lo_setVar]; omega)) (by rfl)
  ·refine go (bw7 hl1 hv i1 i2 hx hwd hw1) (bw c74 fnil) ?_
   refine ⟨by simp only [go_sem, hl1], by omega, ?_, rfl⟩
   intro x hx2
   rw [List.take_succ_eq_append_getElem hlt] at hx2
   rcases List.mem_append.1 hx2 with h1 | h1
   ·exact hall x h1
   ·rw [List.mem_singleton.1 h1]; exact hx
theorem eq_of_take {α : Type} {l m : List α} (hlm : l.length = m.length) (h : l.take l.length = m.take l.length) : l = m := by
 rw [List.take_length, hlm, List.take_length] at h
 exact h
theorem take_snoc_eq {α : Type} {l m : List α} {i : Nat} (hi : i < l.length) (hj : i < m.length) (h : l.take i = m.take i) (hx : l[i] = m[i]) : l.take (i + 1) = m.take (i + 1) := by
 rw [List.take_succ_eq_append_getElem hi, List.take_succ_eq_append_getElem hj, h, hx]
set_option maxHeartbeats 1000000 in
theorem c36 (F G : PV) (l m : List Int) (hF : SlOf 1 encI F l) (hG : SlOf 1 encI G m) (hN : l.length < 1000000) (st : St) : Cl EE (.func 36 [] []) [F, G] st (.ret (.bool (l == m))) st := by
 have hFs := hF.slen
 have hGs := hG.slen
 refine cl_fn (pr36 · _ _) fn36 2 rfl (by decide) (fun tm hl hg => ?_); have h0 : tg tm 0 = F := (hg 0 (by decide)); have h1 : tg tm 1 = G := (hg 1 (by decide)); clear hg
 cases hd : ((l.length : Int) != (m.length : Int))
 ·have hlm : l.length = m.length := by have := bne_eq_false_iff_eq.1 hd; omega
  refine go (bw6 hl h0 h1 hFs hGs hd) fnil ?_
  refine wp_for [5] (fun i vs st1 => vs = [iv i] ∧ i ≤ l.length ∧ l.take i = m.take i ∧ st1 = { heap := st.heap, lo := st.heap.length }) (fun i => l.length - i) ⟨by simp only [go_sem, hl]; first | done | rfl, Nat.zero_le _, rfl, rfl⟩ ?_
  rintro i tm1 st1 ⟨hv, hi, ht, rfl⟩ hS
  simp only [List.map_cons, List.map_nil, List.cons.injEq, and_true] at hv
  have hl1 : tm1.length = 26 := (by rw [hS.1]; simp only [put_len, hl]); have i0 : tg tm1 0 = F := (by rw [hS.2 0 (by decide)]; simp only [go_sem, hl, h0, h1]); have i1 : tg tm1 1 = G := (by rw [hS.2 1 (by decide)]; simp only [go_sem, hl, h0, h1]); clear hS
  refine go (bw4 hl1 hv i0 hFs) fnil ?_
  refine ⟨decide ((i : Int) < l.length), by simp only [go_sem, hl1], fun hb => ?_, fun hb => ?_⟩
  ·have hlt := of_decide_eq_false hb
   have hin : i = l.length := by omega
   have e : (l == m) = true := by rw [beq_iff_eq]; exact eq_of_take hlm (by rw [← hin]; exact ht)
   rw [e]
   refine go hl1 fnil ?_
   refine fnq_flat (results_one (by rw [rdRes_tmp]; simp only [go_sem, hl1]; first | done | rfl)) (by first | exact Nat.le_refl _ | omega | (simp only [lo_push, lo_setVar]; omega)) (by rfl)
  ·have hlt : i < l.length := by have := of_decide_eq_true hb; omega
   have hlt2 : i < m.length := by omega
   have hw1 : IntKind.wrap .i64 ((i : Int) + 1) = ((i + 1 : Nat) : Int) := wrap_nat (n := i + 1) (by omega)
   refine ⟨by omega, ?_⟩
   cases hx : (l[i] != m[i])
   ·refine go (bw6 hl1 hv i0 i1 hw1 hx) fnil ?_
    exact ⟨by simp only [go_sem, hl1], by omega, take_snoc_eq hlt hlt2 ht (bne_eq_false_iff_eq.1 hx), rfl⟩
   ·have e : (l == m) = false := by
     rw [beq_eq_false_iff_ne]
     intro e
     subst e
     simp at hx
    rw [e]
    refine go (bw5 hl1 hv i0 i1 hx) fnil ?_
    refine fnq_flat (results_one (by rw [rdRes_tmp]; simp only [go_sem, hl1]; first | done | rfl)) (by first | exact Nat.le_refl _ | omega | (simp only [lo_push, lo_setVar]; omega)) (by rfl)
 ·have e : (l == m) = false := by
   rw [beq_eq_false_iff_ne]
   intro e
   subst e
   simp at hd
  rw [e]
  refine go (bw6 hl h0 h1 hFs hGs hd) fnil ?_
  refine fnq_flat (results_one (by rw [rdRes_tmp]; simp only [go_sem, hl]; first | done | rfl)) (by first | exact Nat.le_refl _ | omega | (simp only [lo_push, lo_setVar]; omega)) (by rfl)
set_option maxHeartbeats 1000000 in
theorem c88 (F G : PV) (l m : List (Int × Int)) (hF : SlOf 2 enc2 F l) (hG : SlOf 2 enc2 G m) (hN : l.length < 1000000) (st : St) : Cl EE (.func 88 [] []) [F, G] st (.ret (.bool (l == m))) st := by
 have hFs := hF.slen
 have hGs := hG.slen
 refine cl_fn (pr88 · _ _) fn88 2 rfl (by decide) (fun tm hl hg => ?_); have h0 : tg tm 0 = F := (hg 0 (by decide)); have h1 : tg tm 1 = G := (hg 1 (by decide)); clear hg
 cases hd : ((l.length : Int) != (m.length : Int))
 ·have hlm : l.length = m.length := by have := bne_eq_false_iff_eq.1 hd; omega
  refine go (bw6 hl h0 h1 hFs hGs hd) fnil ?_
  refine wp_for [5] (fun i vs st1 => vs = [iv i] ∧ i ≤ l.length ∧ l.take i = m.take i ∧ st1 = { heap := st.heap, lo := st.heap.length }) (fun i => l.length - i) ⟨by simp only [go_sem, hl]; first | done | rfl, Nat.zero_le _, rfl, rfl⟩ ?_
  rintro i tm1 st1 ⟨hv, hi, ht, rfl⟩ hS
  simp only [List.map_cons, List.map_nil, List.cons.injEq, and_true] at hv
  have hl1 : tm1.length = 26 := (by rw [hS.1]; simp only [put_len, hl]); have i0 : tg tm1 0 = F := (by rw [hS.2 0 (by decide)]; simp only [go_sem, hl, h0, h1]); have i1 : tg tm1 1 = G := (by rw [hS.2 1 (by decide)]; simp only [go_sem, hl, h0, h1]); clear hS
  refine go (bw4 hl1 hv i0 hFs) fnil ?_
  refine ⟨decide ((i : Int) < l.length), by simp only [go_sem, hl1], fun hb => ?_, fun hb => ?_⟩
  ·have hlt := of_decide_eq_false hb
   have hin : i = l.length := by omega
   have e : (l == m) = true := by rw [beq_iff_eq]; exact eq_of_take hlm (by rw [← hin]; exact ht)
   rw [e]
   refine go hl1 fnil ?_
   refine fnq_flat (results_one (by rw [rdRes_tmp]; simp only [go_sem, hl1]; first | done | rfl)) (by first | exact Nat.le_refl _ | omega | (simp only [lo_push, lo_setVar]; omega)) (by rfl)
  ·have hlt : i < l.length := by have := of_decide_eq_true hb; omega
   have hlt2 : i < m.length := by omega
   have hw1 : IntKind.wrap .i64 ((i : Int) + 1) = ((i + 1 : Nat) : Int) := wrap_nat (n := i + 1) (by omega)
   refine ⟨by omega, ?_⟩
   cases hx : ([l[i].1, l[i].2] == [m[i].1, m[i].2])
   ·have e : (l == m) = false := by
     rw [beq_eq_false_iff_ne]
     intro e
     subst e
     simp at hx
    rw [e]
    refine go (bw5 hl1 hv i0 i1 hx) fnil ?_
    refine fnq_flat (results_one (by rw [rdRes_tmp]; simp only [go_sem, hl1]; first | done | rfl)) (by first | exact Nat.le_refl _ | omega | (simp only [lo_push, lo_setVar]; omega)) (by rfl)
   ·have hpe : l[i] = m[i] := by
     have := eq_of_beq hx
     simp only [List.cons.injEq, and_true] at this
     exact Prod.ext this.1 this.2
    refine go (bw6 hl1 hv i0 i1 hw1 hx) fnil ?_
    exact ⟨by simp only [go_sem, hl1], by omega, take_snoc_eq hlt hlt2 ht hpe, rfl⟩
 ·have e : (l == m) = false := by
   rw [beq_eq_false_iff_ne]
   intro e
   subst e
   simp at hd
  rw [e]
  refine go (bw6 hl h0 h1 hFs hGs hd) fnil ?_
  refine fnq_flat (results_one (by rw [rdRes_tmp]; simp only [go_sem, hl]; first | done | rfl)) (by first | exact Nat.le_refl _ | omega | (simp only [lo_push, lo_setVar]; omega)) (by rfl)
theorem c41 (F G : PV) (l m : List (Int × Int)) (hF : SlOf 2 enc2 F l) (hG : SlOf 2 enc2 G m) (hN : l.length < 1000000) (st : St) : Cl EE (.func 41 [] []) [F, G] st (.ret (.bool (l == m))) st := by
 refine cl_fn (pr41 · _ _) fn41 2 rfl (by decide) (fun tm hl hg => ?_); have h0 : tg tm 0 = F := (hg 0 (by decide)); have h1 : tg tm 1 = G := (hg 1 (by decide)); clear hg
 refine go (bw3 hl h0 h1) (bw (c88 F G l m hF hG hN) fnil) ?_
 refine fnq_flat (results_one (by rw [rdRes_tmp]; simp only [go_sem, hl]; first | done | rfl)) (by first | exact Nat.le_refl _ | omega | (simp only [lo_push, lo_setVar]; omega)) (by rfl)
end Go.Den.Ch
end

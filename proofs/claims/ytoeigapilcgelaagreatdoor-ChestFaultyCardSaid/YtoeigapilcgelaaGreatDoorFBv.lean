/- Part of the proof that for every input the function ChestFaulty returns true and each argument reads as it did. Texts: ChLb. -/
import Derived.Test.YtoeigapilcgelaaGreatDoorFBu
set_option linter.unusedSimpArgs false
set_option linter.unusedVariables false
section
namespace Go.Den.Ch
def LJ (st : St) (c : CL) (F P : PV) (a b : Nat) (ly e : Int) (w : List PV) (L W : Nat) (tm : List PV) (S : St) : Prop :=
  tm.length = 324 ∧ tg tm 1 = P ∧ tg tm 2 = iv a ∧ tg tm 3 = iv b ∧ tg tm 4 = iv ly ∧ tg tm 5 = .ptr L 0 ∧ tg tm 11 = .ptr W 0 ∧ tg tm 12 = iv e ∧ hp S L = some (.var [iv c.room, iv c.depth, F]) ∧ hp S W = some (.var w) ∧ st.heap.length ≤ S.lo ∧ S.lo ≤ S.heap.length
theorem says_full {c : CL} {p : List Int} {f : Flt} (h : FaultSays c p f) {n : Int} (h0 : 0 ≤ n) (h1 : n < c.depth) (h2 : sumL c p n > c.room) : f.rule = 1 := by
  cases h with
  | full => rfl
  | gap m _ _ _ nf => exact absurd h2 (nf n h0 h1)
  | rank a b x y f g _ _ _ _ _ _ nf => exact absurd h2 (nf n h0 h1)
  | eve a b x y f g _ _ _ _ _ _ nf => exact absurd h2 (nf n h0 h1)
theorem says_gap {c : CL} {p : List Int} {f : Flt} (h : FaultSays c p f) {n : Int} (h0 : 0 ≤ n) (h1 : n < layersL p) (h2 : sumL c p n = 0) : f.rule ≤ 2 := by
  cases h with
  | full => simp
  | gap => simp
  | rank a b x y f g _ _ _ _ _ _ _ ng => exact absurd h2 (ng n h0 h1)
  | eve a b x y f g _ _ _ _ _ _ _ ng => exact absurd h2 (ng n h0 h1)
theorem says_rank {c : CL} {p : List Int} {f : Flt} (h : FaultSays c p f) {a b : Nat} {x y : Int} {u v : Fig} (ha : p[a]? = some x) (hb : p[b]? = some y) (hu : c.figs[a]? = some u) (hv : c.figs[b]? = some v) (h1 : x < y) (h2 : u.rank < v.rank) : f.rule ≤ 3 := by
  cases h with
  | full => simp
  | gap => simp
  | rank => simp
  | eve a' b' x' y' f g _ _ _ _ _ _ _ _ nr => exact absurd (by simp [key]; omega) (nr a b x y u v ha hb hu hv h1)
theorem says_le {c : CL} {p : List Int} {f : Flt} (h : FaultSays c p f) : f.rule ≤ 4 := by cases h <;> simp
set_option maxHeartbeats 32000000 in
theorem c3 (c : CL) (F P : PV) (p : List Int) (one other ly : Int) (hF : SlOf 3 encF F c.figs) (hP : SlOf 1 encI P p) (st : St) : Cl EE (.func 3 [] []) [clPV c F, P, iv one, iv other, iv ly] st (.ret (.bool true)) st := by
  have hFc := hF.cells
  have hFi := hF.isCell
  have hFs := hF.slen
  have hPc := hP.cells
  have hPs := hP.slen
  refine cl_fn (pr3 · _ _) fn3 5 rfl (by decide) (fun tm hl hg => ?_); have h0 : tg tm 0 = clPV c F := (hg 0 (by decide)); have h1 : tg tm 1 = P := (hg 1 (by decide)); have h2 : tg tm 2 = iv one := (hg 2 (by decide)); have h3 : tg tm 3 = iv other := (hg 3 (by decide)); have h4 : tg tm 4 = iv ly := (hg 4 (by decide)); clear hg
  cases hA : listB c
  · refine go (bw7 hl h0 h1 h2 h3 h4 hA) (bw3 (c24 c F hF) c26 fnil) ?_
    refine fnq_flat (results_one (by rw [rdRes_tmp]; simp only [↓reduceIte, go_sem, hl]; first | done | rfl)) (by first | exact Nat.le_refl _ | omega | (simp only [lo_push, lo_setVar]; omega)) (by rfl)
  have hc := OkL.of hA
  have hlen := hc.len
  cases d1 : decide ((p.length : Int) > 8)
  case true =>
    refine go (bw9 hl h0 h1 h2 h3 h4 hA hPs d1) (bw3 (c24 c F hF) c26 fnil) ?_
    refine fnq_flat (results_one (by rw [rdRes_tmp]; simp only [↓reduceIte, go_sem, hl]; first | done | rfl)) (by first | exact Nat.le_refl _ | omega | (simp only [lo_push, lo_setVar]; omega)) (by rfl)
  have hp8 : p.length ≤ 8 := by have := of_decide_eq_false d1; omega
  have k25 := c25 c F P p hF hP (by omega) ⟨hc.d0, hc.d1⟩
  cases hB : packB c p
  · refine go (bw10 hl h0 h1 h2 h3 h4 hA hPs d1 hB) (bw4 (c24 c F hF) k25 c26 fnil) ?_
    refine fnq_flat (results_one (by rw [rdRes_tmp]; simp only [↓reduceIte, go_sem, hl]; first | done | rfl)) (by first | exact Nat.le_refl _ | omega | (simp only [lo_push, lo_setVar]; omega)) (by rfl)
  have hp0 := OkP.of hB
  cases d2 : decide (one < 0)
  case true =>
    refine go (bw11 hl h0 h1 h2 h3 h4 hA hPs d1 hB d2) (bw4 (c24 c F hF) k25 c26 fnil) ?_
    refine fnq_flat (results_one (by rw [rdRes_tmp]; simp only [↓reduceIte, go_sem, hl]; first | done | rfl)) (by first | exact Nat.le_refl _ | omega | (simp only [lo_push, lo_setVar]; omega)) (by rfl)
  cases d3 : decide (one ≥ (p.length : Int))
  case true =>
    refine go (bw12 hl h0 h1 h2 h3 h4 hA hPs d1 hB d2 d3) (bw4 (c24 c F hF) k25 c26 fnil) ?_
    refine fnq_flat (results_one (by rw [rdRes_tmp]; simp only [↓reduceIte, go_sem, hl]; first | done | rfl)) (by first | exact Nat.le_refl _ | omega | (simp only [lo_push, lo_setVar]; omega)) (by rfl)
  cases d4 : decide (other < 0)
  case true =>
    refine go (bw13 hl h0 h1 h2 h3 h4 hA hPs d1 hB d2 d3 d4) (bw4 (c24 c F hF) k25 c26 fnil) ?_
    refine fnq_flat (results_one (by rw [rdRes_tmp]; simp only [↓reduceIte, go_sem, hl]; first | done | rfl)) (by first | exact Nat.le_refl _ | omega | (simp only [lo_push, lo_setVar]; omega)) (by rfl)
  cases d5 : decide (other ≥ (p.length : Int))
  case true =>
    refine go (bw14 hl h0 h1 h2 h3 h4 hA hPs d1 hB d2 d3 d4 d5) (bw4 (c24 c F hF) k25 c26 fnil) ?_
    refine fnq_flat (results_one (by rw [rdRes_tmp]; simp only [↓reduceIte, go_sem, hl]; first | done | rfl)) (by first | exact Nat.le_refl _ | omega | (simp only [lo_push, lo_setVar]; omega)) (by rfl)
  cases d6 : decide (ly < 0)
  case true =>
    refine go (bw15 hl h0 h1 h2 h3 h4 hA hPs d1 hB d2 d3 d4 d5 d6) (bw4 (c24 c F hF) k25 c26 fnil) ?_
    refine fnq_flat (results_one (by rw [rdRes_tmp]; simp only [↓reduceIte, go_sem, hl]; first | done | rfl)) (by first | exact Nat.le_refl _ | omega | (simp only [lo_push, lo_setVar]; omega)) (by rfl)
  cases d7 : decide (ly ≥ c.depth)
  case true =>
    refine go (bw16 hl h0 h1 h2 h3 h4 hA hPs d1 hB d2 d3 d4 d5 d6 d7) (bw4 (c24 c F hF) k25 c26 fnil) ?_
    refine fnq_flat (results_one (by rw [rdRes_tmp]; simp only [↓reduceIte, go_sem, hl]; first | done | rfl)) (by first | exact Nat.le_refl _ | omega | (simp only [lo_push, lo_setVar]; omega)) (by rfl)
  have k27 : ∃ r o1 o2 e : Int, (∀ st, Cl EE (.func 27 [] []) [clPV c F, P] st (.ret (.tuple [.agg [iv r, iv o1, iv o2], iv e])) st) ∧ ((fault c p = none ∧ e = 5) ∨ (fault c p = some ⟨r, o1, o2⟩ ∧ e = 0)) := by
    have h27 := c27 c F P p hF hP
    have ew : wrongR c p = match fault c p with | some f => (some f, 0) | none => (none, 5) := by unfold wrongR; rw [hA, hB]; rfl
    rw [ew] at h27
    cases hf : fault c p with
    | none => rw [hf] at h27; exact ⟨0, 0, 0, 5, h27, .inl ⟨rfl, rfl⟩⟩
    | some f => rw [hf] at h27; exact ⟨f.rule, f.one, f.other, 0, h27, .inr ⟨rfl, rfl⟩⟩
  obtain ⟨r, o1, o2, e, k27, hcase⟩ := k27
  refine go (bw16 hl h0 h1 h2 h3 h4 hA hPs d1 hB d2 d3 d4 d5 d6 d7) (bw4 (c24 c F hF) k25 k27 fnil) ?_
  have b2 := of_decide_eq_false d2
  have b3 := of_decide_eq_false d3
  have b4 := of_decide_eq_false d4
  have b5 := of_decide_eq_false d5
  have b6 := of_decide_eq_false d6
  have b7 := of_decide_eq_false d7
  obtain ⟨a, rfl⟩ : ∃ a : Nat, one = a := ⟨one.toNat, by omega⟩
  obtain ⟨b, rfl⟩ : ∃ b : Nat, other = b := ⟨other.toNat, by omega⟩
  have ha : a < p.length := by omega
  have hb : b < p.length := by omega
  have hpl := hp0.len
  have haf : a < c.figs.length := by omega
  have hbf : b < c.figs.length := by omega
  have hE : (e != 0) = false ∨ ((e != 0) = true ∧ (e != 5) = false) := by
    rcases hcase with ⟨_, rfl⟩ | ⟨_, rfl⟩
    · exact .inr ⟨by decide, by decide⟩
    · exact .inl (by decide)
  refine wops_merge (fun tm S => ∃ L W, LJ st c F P a b ly e [iv r, iv o1, iv o2] L W tm S ∧ tg tm 77 = .bool false) ?_ ?_
  · rcases hE with hE | ⟨hE, hE2⟩
    · refine go (bw hl hE) fnil ?_
      exact ⟨st.heap.length, st.heap.length + 1, ⟨by simp only [↓reduceIte, go_sem, hl], by simp only [↓reduceIte, go_sem, hl, h1], by simp only [↓reduceIte, go_sem, hl, h2], by simp only [↓reduceIte, go_sem, hl, h3], by simp only [↓reduceIte, go_sem, hl, h4], by simp only [↓reduceIte, go_sem, hl], by simp only [↓reduceIte, go_sem, hl], by simp only [↓reduceIte, go_sem, hl], by simp only [↓reduceIte, go_sem], by simp only [↓reduceIte, go_sem], by simp only [lo_push, lo_setVar]; omega, by simp only [lo_push, lo_setVar, len_push, len_setVar]; omega⟩, by simp only [↓reduceIte, go_sem, hl]⟩
    · refine go (bw3 hl hE hE2) fnil ?_
      exact ⟨st.heap.length, st.heap.length + 1, ⟨by simp only [↓reduceIte, go_sem, hl], by simp only [↓reduceIte, go_sem, hl, h1], by simp only [↓reduceIte, go_sem, hl, h2], by simp only [↓reduceIte, go_sem, hl, h3], by simp only [↓reduceIte, go_sem, hl, h4], by simp only [↓reduceIte, go_sem, hl], by simp only [↓reduceIte, go_sem, hl], by simp only [↓reduceIte, go_sem, hl], by simp only [↓reduceIte, go_sem], by simp only [↓reduceIte, go_sem], by simp only [lo_push, lo_setVar]; omega, by simp only [lo_push, lo_setVar, len_push, len_setVar]; omega⟩, by simp only [↓reduceIte, go_sem, hl]⟩
  clear hl h0 h1 h2 h3 h4 tm
  rintro tm S ⟨L, W, ⟨hl, t1, t2, t3, t4, t5, t11, t12, hL, hW, hlo, hwf⟩, t77⟩
  have mL := hp_lt hL
  have mW := hp_lt hW
  refine go (bw7 hl t1 t4 t5 t77 hL hFc) fnil ?_
  have k28 := c28 c F P p ly hF hP hc hpl
  have k29 := c29 P p hP (by omega) (layersL_small hc hp0)
  refine wopsD_merge (fun tm S' => LJ st c F P a b ly e [iv r, iv o1, iv o2] L W tm S' ∧ tg tm 13 = .bool (decide ((layerL c.figs p ly).sum > c.room)) ∧ tg tm 14 = .bool (decide (ly < layersL p) && ((layerL c.figs p ly).sum == 0))) ?_ ?_
  · cases hly : decide (ly < layersL p)
    · refine go (bw7 hl t1 t4 t5 hL hFc hly) (bw3 k28 k29 fnil) ?_
      exact ⟨⟨by simp only [↓reduceIte, go_sem, hl], by simp only [↓reduceIte, go_sem, hl, t1], by simp only [↓reduceIte, go_sem, hl, t2], by simp only [↓reduceIte, go_sem, hl, t3], by simp only [↓reduceIte, go_sem, hl, t4], by simp only [↓reduceIte, go_sem, hl, t5], by simp only [↓reduceIte, go_sem, hl, t11], by simp only [↓reduceIte, go_sem, hl, t12], hL, hW, hlo, hwf⟩, by simp only [↓reduceIte, go_sem, hl], by simp only [↓reduceIte, go_sem, hl, Bool.false_and]⟩
    · refine go (bw7 hl t1 t4 t5 hL hFc hly) (bw3 k28 k29 fnil) ?_
      exact ⟨⟨by simp only [↓reduceIte, go_sem, hl], by simp only [↓reduceIte, go_sem, hl, t1], by simp only [↓reduceIte, go_sem, hl, t2], by simp only [↓reduceIte, go_sem, hl, t3], by simp only [↓reduceIte, go_sem, hl, t4], by simp only [↓reduceIte, go_sem, hl, t5], by simp only [↓reduceIte, go_sem, hl, t11], by simp only [↓reduceIte, go_sem, hl, t12], hL, hW, hlo, hwf⟩, by simp only [↓reduceIte, go_sem, hl], by simp only [↓reduceIte, go_sem, hl, Bool.true_and]⟩
  clear hl t1 t2 t3 t4 t5 t11 t12 t77 hL hW hlo hwf mL mW tm S
  rintro tm S ⟨⟨hl, t1, t2, t3, t4, t5, t11, t12, hL, hW, hlo, hwf⟩, t13, t14⟩
  have mL := hp_lt hL
  have mW := hp_lt hW
  refine go (bw4 hl t1 t2 t3) fnil ?_
  refine wopsD_merge (fun tm S' => LJ st c F P a b ly e [iv r, iv o1, iv o2] L W tm S' ∧ tg tm 13 = .bool (decide ((layerL c.figs p ly).sum > c.room)) ∧ tg tm 14 = .bool (decide (ly < layersL p) && ((layerL c.figs p ly).sum == 0)) ∧ tg tm 16 = .bool (decide (p[a] < p[b]) && decide (c.figs[a].rank < c.figs[b].rank)) ∧ tg tm 17 = .bool (decide (p[a] < p[b]) && decide (c.figs[a].eve > c.figs[b].eve))) ?_ ?_
  · cases hab : decide (p[a] < p[b])
    · refine go (bw hl hab) fnil ?_
      exact ⟨⟨by simp only [↓reduceIte, go_sem, hl], by simp only [↓reduceIte, go_sem, hl, t1], by simp only [↓reduceIte, go_sem, hl, t2], by simp only [↓reduceIte, go_sem, hl, t3], by simp only [↓reduceIte, go_sem, hl, t4], by simp only [↓reduceIte, go_sem, hl, t5], by simp only [↓reduceIte, go_sem, hl, t11], by simp only [↓reduceIte, go_sem, hl, t12], hL, hW, hlo, hwf⟩, by simp only [↓reduceIte, go_sem, hl, t13], by simp only [↓reduceIte, go_sem, hl, t14], by simp only [↓reduceIte, go_sem, hl, Bool.false_and], by simp only [↓reduceIte, go_sem, hl, Bool.false_and]⟩
    · refine go (bw6 hl t2 t3 t5 hL hab) fnil ?_
      exact ⟨⟨by simp only [↓reduceIte, go_sem, hl], by simp only [↓reduceIte, go_sem, hl, t1], by simp only [↓reduceIte, go_sem, hl, t2], by simp only [↓reduceIte, go_sem, hl, t3], by simp only [↓reduceIte, go_sem, hl, t4], by simp only [↓reduceIte, go_sem, hl, t5], by simp only [↓reduceIte, go_sem, hl, t11], by simp only [↓reduceIte, go_sem, hl, t12], hL, hW, hlo, hwf⟩, by simp only [↓reduceIte, go_sem, hl, t13], by simp only [↓reduceIte, go_sem, hl, t14], by simp only [↓reduceIte, go_sem, hl, Bool.true_and], by simp only [↓reduceIte, go_sem, hl, Bool.true_and]⟩
  clear hl t1 t2 t3 t4 t5 t11 t12 t13 t14 hL hW hlo hwf mL mW tm S
  rintro tm S ⟨⟨hl, t1, t2, t3, t4, t5, t11, t12, hL, hW, hlo, hwf⟩, t13, t14, t16, t17⟩
  have mL := hp_lt hL
  have mW := hp_lt hW
  have pa : p[a]? = some p[a] := List.getElem?_eq_getElem ha
  have pb : p[b]? = some p[b] := List.getElem?_eq_getElem hb
  have fa : c.figs[a]? = some c.figs[a] := List.getElem?_eq_getElem haf
  have fb : c.figs[b]? = some c.figs[b] := List.getElem?_eq_getElem hbf
  rcases hcase with ⟨hf, rfl⟩ | ⟨hf, rfl⟩
  · have e50 : ((5 : Int) != 0) = true := by decide
    obtain ⟨nf, ng, nr, nv⟩ := fault_none hc hf
    have q1 : decide ((layerL c.figs p ly).sum > c.room) = false := decide_eq_false (nf ly (by omega) (by omega))
    have q2 : (decide (ly < layersL p) && ((layerL c.figs p ly).sum == 0)) = false := by
      rw [Bool.and_eq_false_iff]
      by_cases h : ly < layersL p
      · right; rw [beq_eq_false_iff_ne]; exact ng ly (by omega) h
      · left; exact decide_eq_false h
    have q3 : (decide (p[a] < p[b]) && decide (c.figs[a].rank < c.figs[b].rank)) = false := by
      rw [Bool.and_eq_false_iff]
      by_cases h : p[a] < p[b]
      · right; apply decide_eq_false; intro h2; exact nr a b _ _ _ _ pa pb fa fb h (by simp [key]; omega)
      · left; exact decide_eq_false h
    have q4 : (decide (p[a] < p[b]) && decide (c.figs[a].eve > c.figs[b].eve)) = false := by
      rw [Bool.and_eq_false_iff]
      by_cases h : p[a] < p[b]
      · right; apply decide_eq_false; intro h2; exact nv a b _ _ _ _ pa pb fa fb h (by simp [key]; omega)
      · left; exact decide_eq_false h
    rw [q1] at t13
    rw [q2] at t14
    rw [q3] at t16
    rw [q4] at t17
    refine go (bw7 hl t12 t13 t14 t16 t17 e50) (bw c26 fnil) ?_
    refine fnq_flat (results_one (by rw [rdRes_tmp]; simp only [↓reduceIte, go_sem, hl]; first | done | rfl)) hlo (by rfl)
  · have e00 : ((0 : Int) != 0) = false := by decide
    have hsay := fault_some hc hp0 hf
    have z1 : (decide ((layerL c.figs p ly).sum > c.room) = false ∧ decide ((layerL c.figs p ly).sum > c.room) = false) ∨ (decide ((layerL c.figs p ly).sum > c.room) = true ∧ decide (r > 1) = false) := by
      by_cases h : (layerL c.figs p ly).sum > c.room
      · right; exact ⟨decide_eq_true h, decide_eq_false (by have : r = 1 := says_full hsay (by omega) (by omega) h; omega)⟩
      · left; exact ⟨decide_eq_false h, decide_eq_false h⟩
    have z2 : ((decide (ly < layersL p) && ((layerL c.figs p ly).sum == 0)) = false ∧ (decide (ly < layersL p) && ((layerL c.figs p ly).sum == 0)) = false) ∨ ((decide (ly < layersL p) && ((layerL c.figs p ly).sum == 0)) = true ∧ decide (r > 2) = false) := by
      cases h : (decide (ly < layersL p) && ((layerL c.figs p ly).sum == 0))
      · left; exact ⟨rfl, rfl⟩
      · right
        rw [Bool.and_eq_true, decide_eq_true_eq, beq_iff_eq] at h
        exact ⟨rfl, decide_eq_false (by have : r ≤ 2 := says_gap hsay (by omega) h.1 h.2; omega)⟩
    have z3 : ((decide (p[a] < p[b]) && decide (c.figs[a].rank < c.figs[b].rank)) = false ∧ (decide (p[a] < p[b]) && decide (c.figs[a].rank < c.figs[b].rank)) = false) ∨ ((decide (p[a] < p[b]) && decide (c.figs[a].rank < c.figs[b].rank)) = true ∧ decide (r > 3) = false) := by
      cases h : (decide (p[a] < p[b]) && decide (c.figs[a].rank < c.figs[b].rank))
      · left; exact ⟨rfl, rfl⟩
      · right
        rw [Bool.and_eq_true, decide_eq_true_eq, decide_eq_true_eq] at h
        exact ⟨rfl, decide_eq_false (by have : r ≤ 3 := says_rank hsay pa pb fa fb h.1 h.2; omega)⟩
    have z4 : decide (r > 4) = false := decide_eq_false (by have : r ≤ 4 := says_le hsay; omega)
    generalize (decide (p[a] < p[b]) && decide (c.figs[a].eve > c.figs[b].eve)) = v4 at t17
    generalize (decide (p[a] < p[b]) && decide (c.figs[a].rank < c.figs[b].rank)) = v3 at t16 z3
    generalize (decide (ly < layersL p) && ((layerL c.figs p ly).sum == 0)) = v2 at t14 z2
    generalize decide ((layerL c.figs p ly).sum > c.room) = v1 at t13 z1
    refine go (bw4 hl t12 e00 t13) fnil ?_
    refine wops_merge (fun tm S' => LJ st c F P a b ly 0 [iv r, iv o1, iv o2] L W tm S' ∧ tg tm 185 = .bool false) ?_ ?_
    · rcases z1 with ⟨rfl, j1⟩ | ⟨rfl, j1⟩ <;> rcases z2 with ⟨rfl, j2⟩ | ⟨rfl, j2⟩ <;> rcases z3 with ⟨rfl, j3⟩ | ⟨rfl, j3⟩ <;> cases v4
      all_goals
        refine go (bw12 hl t13 t14 t16 t17 t11 hW j1 j2 j3 z4 undef_e) fnil ?_
        exact ⟨⟨by simp only [↓reduceIte, go_sem, hl], by simp only [↓reduceIte, go_sem, hl, t1], by simp only [↓reduceIte, go_sem, hl, t2], by simp only [↓reduceIte, go_sem, hl, t3], by simp only [↓reduceIte, go_sem, hl, t4], by simp only [↓reduceIte, go_sem, hl, t5], by simp only [↓reduceIte, go_sem, hl, t11], by simp only [↓reduceIte, go_sem, hl, t12], hL, hW, hlo, hwf⟩, by simp only [↓reduceIte, go_sem, hl]⟩
    clear hl t1 t2 t3 t4 t5 t11 t12 t13 t14 t16 t17 hL hW hlo hwf mL mW tm S z1 z2 z3
    rintro tm S ⟨⟨hl, t1, t2, t3, t4, t5, t11, t12, hL, hW, hlo, hwf⟩, t185⟩
    have mL := hp_lt hL
    have mW := hp_lt hW
    have i11 : ((1 : Int) == 1) = true := by decide
    have i21 : ((2 : Int) == 1) = false := by decide
    have i31 : ((3 : Int) == 1) = false := by decide
    have i41 : ((4 : Int) == 1) = false := by decide
    have i22 : ((2 : Int) == 2) = true := by decide
    have i32 : ((3 : Int) == 2) = false := by decide
    have i42 : ((4 : Int) == 2) = false := by decide
    have n33 : ((3 : Int) != 3) = false := by decide
    have n43 : ((4 : Int) != 3) = true := by decide
    have n44 : ((4 : Int) != 4) = false := by decide
    have i33 : ((3 : Int) == 3) = true := by decide
    have i43 : ((4 : Int) == 3) = false := by decide
    have i44 : ((4 : Int) == 4) = true := by decide
    cases hsay with
    | full n g1 g2 =>
      have y1 : decide ((n : Int) < 0) = false := decide_eq_false (by omega)
      have y2 : decide ((n : Int) ≥ c.depth) = false := decide_eq_false (by omega)
      have y3 : decide ((layerL c.figs p n).sum > c.room) = true := decide_eq_true g2
      refine go (bw14 hl t1 t5 t11 t185 hL hW hFc i11 y1 y2 y3 e00 undef_e) (bw3 (c28 c F P p n hF hP hc hpl) c26 fnil) ?_
      refine fnq_flat (results_one (by rw [rdRes_tmp]; simp only [↓reduceIte, go_sem, hl]; first | done | rfl)) hlo (by rfl)
    | gap n g1 g2 g3 nf =>
      have y1 : decide ((n : Int) < 0) = false := decide_eq_false (by omega)
      have y2 : decide ((n : Int) ≥ c.depth) = false := decide_eq_false (by omega)
      have y3 : ((layerL c.figs p n).sum == 0) = true := by rw [beq_iff_eq]; exact g3
      have y4 : decide ((n : Int) < layersL p) = true := decide_eq_true g2
      refine go (bw16 hl t1 t5 t11 t185 hL hW hFc i21 i22 y1 y2 y3 y4 e00 undef_e) (bw4 (c28 c F P p n hF hP hc hpl) k29 c26 fnil) ?_
      refine fnq_flat (results_one (by rw [rdRes_tmp]; simp only [↓reduceIte, go_sem, hl]; first | done | rfl)) hlo (by rfl)
    | rank u v x y f g hu hv hfu hfv g1 g2 nf ng =>
      obtain ⟨hu', rfl⟩ := List.getElem?_eq_some_iff.1 hu
      obtain ⟨hv', rfl⟩ := List.getElem?_eq_some_iff.1 hv
      obtain ⟨hfu', rfl⟩ := List.getElem?_eq_some_iff.1 hfu
      obtain ⟨hfv', rfl⟩ := List.getElem?_eq_some_iff.1 hfv
      have y1 : decide ((u : Int) < 0) = false := decide_eq_false (by omega)
      have y2 : decide ((u : Int) ≥ (p.length : Int)) = false := decide_eq_false (by omega)
      have y3 : decide ((v : Int) < 0) = false := decide_eq_false (by omega)
      have y4 : decide ((v : Int) ≥ (p.length : Int)) = false := decide_eq_false (by omega)
      have y5 : decide (p[u] ≥ p[v]) = false := decide_eq_false (by omega)
      have y6 : decide (c.figs[u].rank < c.figs[v].rank) = true := decide_eq_true g2
      refine go (bw17 hl t1 t5 t11 t185 hL hW hPs i31 i32 n33 y1 y2 y3 y4 y5 undef_e) fnil ?_
      refine wopsD_set (v := undef) (l := S.heap.length) (ob := .var [iv c.figs[u].size, iv c.figs[u].rank, iv c.figs[u].eve]) (by simp only [lo_push, len_push]; omega) (by simp only [len_push]; omega) rfl rfl (fun rec st3 he hh => by simp only [↓reduceIte, go_sem, hl, hh, he]) ?_
      refine wopsD_set (v := undef) (l := S.heap.length + 1) (ob := .var [iv c.figs[v].size, iv c.figs[v].rank, iv c.figs[v].eve]) (by simp only [lo_push, lo_setVar, len_push, len_setVar]; omega) (by simp only [len_push, len_setVar]; omega) rfl rfl (fun rec st3 he hh => by simp only [↓reduceIte, go_sem, hl, hh, he]) ?_
      apply wopsD_nil
      refine ⟨?_, ?_⟩
      · simp only [footOk, List.all_cons, List.all_nil, List.getElem?_cons_zero, List.getElem?_cons_succ, Bool.and_true]
        simp only [footOf]
        simp only [↓reduceIte, go_sem, hl, t5, t11]
        have hq : ∀ l, clash l Foot.quiet = false := fun _ => rfl
        have hq1 : clash L (.st S.heap.length) = false := by simp [clash]; omega
        have hq2 : clash W (.st S.heap.length) = false := by simp [clash]; omega
        simp only [List.all_cons, List.all_nil, List.getElem?_cons_zero, List.getElem?_cons_succ, hq, hq1, hq2, Bool.not_false, Bool.and_self]
      · refine go (bw10 hl t11 hW (neL mW) (neA mW) (ltL mW) (ltA mW) i33 y6 undef_e) (bw c26 fnil) ?_
        refine fnq_flat (results_one (by rw [rdRes_tmp]; simp only [↓reduceIte, go_sem, hl]; first | done | rfl)) (by first | exact hlo | (simp only [lo_push, lo_setVar]; omega)) (by rfl)
    | eve u v x y f g hu hv hfu hfv g1 g2 nf ng nr =>
      obtain ⟨hu', rfl⟩ := List.getElem?_eq_some_iff.1 hu
      obtain ⟨hv', rfl⟩ := List.getElem?_eq_some_iff.1 hv
      obtain ⟨hfu', rfl⟩ := List.getElem?_eq_some_iff.1 hfu
      obtain ⟨hfv', rfl⟩ := List.getElem?_eq_some_iff.1 hfv
      have y1 : decide ((u : Int) < 0) = false := decide_eq_false (by omega)
      have y2 : decide ((u : Int) ≥ (p.length : Int)) = false := decide_eq_false (by omega)
      have y3 : decide ((v : Int) < 0) = false := decide_eq_false (by omega)
      have y4 : decide ((v : Int) ≥ (p.length : Int)) = false := decide_eq_false (by omega)
      have y5 : decide (p[u] ≥ p[v]) = false := decide_eq_false (by omega)
      have y6 : decide (c.figs[u].eve > c.figs[v].eve) = true := decide_eq_true g2
      refine go (bw18 hl t1 t5 t11 t185 hL hW hPs i41 i42 n43 n44 y1 y2 y3 y4 y5 undef_e) fnil ?_
      refine wopsD_set (v := undef) (l := S.heap.length) (ob := .var [iv c.figs[u].size, iv c.figs[u].rank, iv c.figs[u].eve]) (by simp only [lo_push, len_push]; omega) (by simp only [len_push]; omega) rfl rfl (fun rec st3 he hh => by simp only [↓reduceIte, go_sem, hl, hh, he]) ?_
      refine wopsD_set (v := undef) (l := S.heap.length + 1) (ob := .var [iv c.figs[v].size, iv c.figs[v].rank, iv c.figs[v].eve]) (by simp only [lo_push, lo_setVar, len_push, len_setVar]; omega) (by simp only [len_push, len_setVar]; omega) rfl rfl (fun rec st3 he hh => by simp only [↓reduceIte, go_sem, hl, hh, he]) ?_
      apply wopsD_nil
      refine ⟨?_, ?_⟩
      · simp only [footOk, List.all_cons, List.all_nil, List.getElem?_cons_zero, List.getElem?_cons_succ, Bool.and_true]
        simp only [footOf]
        simp only [↓reduceIte, go_sem, hl, t5, t11]
        have hq : ∀ l, clash l Foot.quiet = false := fun _ => rfl
        have hq1 : clash L (.st S.heap.length) = false := by simp [clash]; omega
        have hq2 : clash W (.st S.heap.length) = false := by simp [clash]; omega
        simp only [List.all_cons, List.all_nil, List.getElem?_cons_zero, List.getElem?_cons_succ, hq, hq1, hq2, Bool.not_false, Bool.and_self]
      · refine go (bw11 hl t11 hW (neL mW) (neA mW) (ltL mW) (ltA mW) i43 i44 y6 undef_e) (bw c26 fnil) ?_
        refine fnq_flat (results_one (by rw [rdRes_tmp]; simp only [↓reduceIte, go_sem, hl]; first | done | rfl)) (by first | exact hlo | (simp only [lo_push, lo_setVar]; omega)) (by rfl)
end Go.Den.Ch
end

/- Part of the proof that for every input the function ChestFaulty returns true and each argument reads as it did. Texts: ChT, ChU, ChV. -/
import Derived.Lib.Strings
import Derived.Test.YtoeigapilcgelaaGreatDoorFBl
set_option linter.unusedSimpArgs false
set_option linter.unusedVariables false
section
namespace Go.Den.Ch
def combL (n : Nat) : Nat → List Int → Nat → List (List Int)
  | 0, now, _ => [now]
  | k + 1, now, from' => (List.range (n - k - from')).flatMap fun (j : Nat) => combL n k (now ++ [((from' + j : Nat) : Int)]) (from' + j + 1)
def badB (c : CL) (l : List Int) : Bool := !canB c l
def clashF (c : CL) (k : Nat) (now : List Int) (from' : Nat) : Option (List Int) := (combL c.figs.length k now from').find? (badB c)
theorem clashF_succ (c : CL) (k : Nat) (now : List Int) (f : Nat) : clashF c (k + 1) now f = (List.range (c.figs.length - k - f)).findSome? fun (j : Nat) => clashF c k (now ++ [((f + j : Nat) : Int)]) (f + j + 1) := by
  rw [clashF, combL, List.find?_flatMap]; rfl
structure Below (f : Nat) (now : List Int) : Prop where
  rng : ∀ x ∈ now, 0 ≤ x ∧ x < f
  ris : now.Pairwise (· < ·)
theorem Below.snoc {f : Nat} {now : List Int} (h : Below f now) {i : Nat} (hi : f ≤ i) : Below (i + 1) (now ++ [(i : Int)]) := ⟨fun x hx => by
  rcases List.mem_append.1 hx with h1 | h1
  · have := h.rng x h1; omega
  · simp only [List.mem_singleton] at h1; subst h1; omega, by
  rw [List.pairwise_append]
  refine ⟨h.ris, by simp, fun a ha b hb => ?_⟩
  simp only [List.mem_singleton] at hb
  subst hb
  have := h.rng a ha; omega⟩
def ClQ (c : CL) (oc mm : Nat) (st : St) (fd : Option (List Int)) (u : PV) (st' : St) : Prop :=
  u = .bool fd.isSome ∧ KeepV (fun l => l = oc ∨ l = mm) st.heap st'.heap ∧ (∃ P, hp st' oc = some (.var [P]) ∧ P.isCell = true ∧ ∀ l, fd = some l → SlOf 1 encI P l) ∧ (∃ es, hp st' mm = some (.map es) ∧ MapOk c es) ∧ min st.lo (min oc mm) ≤ st'.lo ∧ st'.lo ≤ st'.heap.length ∧ (fd.isSome = true → st'.lo ≤ oc)
section
variable {c : CL} {F : PV} {oc rc cc sc mm : Nat}
theorem clq_fin {st st1 : St} {fd : Option (List Int)} (hoc : oc < st.heap.length) (h0 : ∃ P, hp st oc = some (.var [P]) ∧ P.isCell = true) (hm0 : ∃ es, hp st mm = some (.map es) ∧ MapOk c es) (hwf : st.lo ≤ st.heap.length) (hk : KeepV (fun l => l = oc ∨ l = mm) st.heap st1.heap) (h1 : ∃ P, hp st1 oc = some (.var [P]) ∧ P.isCell = true ∧ ∀ l, fd = some l → SlOf 1 encI P l) (hm1 : ∃ es, hp st1 mm = some (.map es) ∧ MapOk c es) (hlo : min oc mm ≤ st1.lo) (hup : fd.isSome = true → st1.lo ≤ oc) :
    ClQ c oc mm st fd (finishCall st st1 (.bool fd.isSome)).1 (finishCall st st1 (.bool fd.isSome)).2 := by
  by_cases h : st.heap.length ≤ st1.lo
  · rw [finish_flat h rfl]
    have hn : fd = none := by
      cases fd with
      | none => rfl
      | some l => have := hup rfl; omega
    subst hn
    obtain ⟨P, hP, hPc⟩ := h0
    exact ⟨rfl, .refl _ _, ⟨P, hP, hPc, fun l h => by cases h⟩, hm0, Nat.min_le_left _ _, hwf, fun h => by cases h⟩
  · unfold finishCall
    rw [if_neg h]
    have := hk.1
    exact ⟨rfl, hk, h1, hm1, by show min st.lo (min oc mm) ≤ min st.lo st1.lo; omega, by show min st.lo st1.lo ≤ st1.heap.length; omega, fun h => by have := hup h; show min st.lo st1.lo ≤ oc; omega⟩
set_option maxHeartbeats 8000000 in
theorem c107 (hF : SlOf 3 encF F c.figs) (hc : OkL c) (hor : oc ≠ rc) (hoc : oc ≠ cc) (hos : oc ≠ sc) : ∀ (k : Nat) (now : List Int) (f : Nat) (v : PV) (st : St), SlOf 1 encI v now → Below f now → f ≤ c.figs.length → now.length + k ≤ c.figs.length → st.lo ≤ st.heap.length →
    (∃ P, hp st oc = some (.var [P]) ∧ P.isCell = true) → hp st rc = some (.var [iv c.room, iv c.depth, F, .map mm]) → hp st cc = some (.var [iv c.room, iv c.depth, F]) → hp st sc = some (.var [.func 107 [] [.ptr oc 0, .ptr rc 0, .ptr cc 0, .ptr sc 0]]) → (∃ es, hp st mm = some (.map es) ∧ MapOk c es) →
    ClR EE (.func 107 [] [.ptr oc 0, .ptr rc 0, .ptr cc 0, .ptr sc 0]) [v, iv f, iv k] st (ClQ c oc mm st (clashF c k now f))
  | 0, now, f, v, st, hv, hB, hf, hnl, hwf, ⟨P0, ho, hP0⟩, hr, hcc, hs, ⟨es, hm, hmo⟩ => by
    have hvc := hv.cells
    have hvi := hv.isCell
    have hlen := hc.len
    have loc := hp_lt ho
    have lr := hp_lt hr
    have lm := hp_lt hm
    refine clr_fn (pr107 · _ _) fn107 7 rfl (by decide) (fun tm hl hg => ?_); have h0 : tg tm 0 = v := (hg 0 (by decide)); have h1 : tg tm 1 = iv f := (hg 1 (by decide)); have h2 : tg tm 2 = iv (0 : Nat) := (hg 2 (by decide)); have h3 : tg tm 3 = .ptr oc 0 := (hg 3 (by decide)); have h4 : tg tm 4 = .ptr rc 0 := (hg 4 (by decide)); have h5 : tg tm 5 = .ptr cc 0 := (hg 5 (by decide)); have h6 : tg tm 6 = .ptr sc 0 := (hg 6 (by decide)); clear hg
    have ho' : hp { heap := st.heap, lo := st.heap.length } oc = some (.var [P0]) := ho
    have hd0 : (((0 : Nat) : Int) == 0) = true := rfl
    have hr' : hp (setVar { heap := st.heap, lo := st.heap.length } oc (.var [v])) rc = some (.var [iv c.room, iv c.depth, F, .map mm]) := hp_set_other hr (fun h => hor h.symm)
    have hmne : mm ≠ oc := by rintro rfl; rw [ho] at hm; cases hm
    have hm' : hp (setVar { heap := st.heap, lo := st.heap.length } oc (.var [v])) mm = some (.map es) := hp_set_other hm hmne
    have hcan := c108 c F v now mm es hF hc hv ⟨fun x hx => by have := hB.rng x hx; omega, hB.ris⟩ (by omega) (setVar { heap := st.heap, lo := st.heap.length } oc (.var [v])) (by simp only [lo_setVar, len_setVar]; omega) hm' hmo
    refine go (bw21 hl h0 h1 h2 h3 h4 h5 h6 hd0 ho' hvc hvi hr' (neL loc) (neA loc) (ltL loc) (ltA loc) (neL lr) (neA lr) (ltL lr) (ltA lr)) fnil ?_
    refine wops_callR rfl rfl (by simp only [go_sem, hl, h0]; first | done | rfl) (by simp only [go_sem, hl, h0]; exact hcan) ?_
    rintro z st5 ⟨rfl, es5, hm5, hmo5, hx5, hlo5, hup5, hor5⟩
    have hfd : clashF c 0 now f = if badB c now then some now else none := by simp [clashF, combL, List.find?_cons]; cases badB c now <;> rfl
    have hb : (!canB c now) = (clashF c 0 now f).isSome := by rw [hfd, badB]; cases canB c now <;> rfl
    refine go hl fnil ?_
    refine fnr_ret (v := .bool (clashF c 0 now f).isSome) (results_one (by rw [rdRes_tmp, ← hb]; simp only [go_sem, hl])) ?_
    simp only [lo_setVar, len_setVar] at hlo5 hup5
    have hox : hp st5 oc = some (.var [v]) := by
      refine hx5.var ?_
      rw [List.getElem?_set_ne hmne]
      have := hp_setVar { heap := st.heap, lo := st.heap.length } oc oc (.var [v])
      rw [if_pos rfl, if_pos loc] at this
      exact this
    refine clq_fin loc ⟨P0, ho, hP0⟩ ⟨es, hm, hmo⟩ hwf ?_ ⟨v, hox, hvi, fun l h => ?_⟩ ⟨es5, hm5, hmo5⟩ (by omega) (fun _ => by omega)
    · refine ⟨by have := hx5.1; simpa [setVar] using this, fun l o h1 h2 h3 => ?_⟩
      refine hx5.var ?_
      rw [List.getElem?_set_ne (fun h => h3 (.inr h.symm))]
      exact hp_set_other (st := { heap := st.heap, lo := st.heap.length }) h1 (fun h => h3 (.inl h))
    · rw [hfd] at h
      split at h
      · cases h; exact hv
      · cases h
  | k + 1, now, f, v, st, hv, hB, hf, hnl, hwf, ⟨P0, ho, hP0⟩, hr, hcc, hs, ⟨es, hm, hmo⟩ => by
    have hFs := hF.slen
    have hlen := hc.len
    have loc := hp_lt ho
    have lc := hp_lt hcc
    refine clr_fn (pr107 · _ _) fn107 7 rfl (by decide) (fun tm hl hg => ?_); have h0 : tg tm 0 = v := (hg 0 (by decide)); have h1 : tg tm 1 = iv f := (hg 1 (by decide)); have h2 : tg tm 2 = iv (k + 1 : Nat) := (hg 2 (by decide)); have h3 : tg tm 3 = .ptr oc 0 := (hg 3 (by decide)); have h4 : tg tm 4 = .ptr rc 0 := (hg 4 (by decide)); have h5 : tg tm 5 = .ptr cc 0 := (hg 5 (by decide)); have h6 : tg tm 6 = .ptr sc 0 := (hg 6 (by decide)); clear hg
    have hd0 : (((k + 1 : Nat) : Int) == 0) = false := by rw [beq_eq_false_iff_ne]; omega
    refine go (bw9 hl h0 h1 h2 h3 h4 h5 h6 hd0) fnil ?_
    refine wp_for [11] (fun i vs st1 => vs = [iv ((f + i : Nat) : Int)] ∧ f + i ≤ c.figs.length ∧ KeepV (fun l => l = oc ∨ l = mm) st.heap st1.heap ∧ (∃ P, hp st1 oc = some (.var [P]) ∧ P.isCell = true) ∧ (∃ es, hp st1 mm = some (.map es) ∧ MapOk c es) ∧ min oc mm ≤ st1.lo ∧ st1.lo ≤ st1.heap.length ∧ ∀ j, j < i → clashF c k (now ++ [((f + j : Nat) : Int)]) (f + j + 1) = none) (fun i => c.figs.length + 1 - (f + i)) ?_ ?_
    · refine ⟨by simp only [go_sem, hl], by omega, .refl _ _, ⟨P0, ho, hP0⟩, ⟨es, hm, hmo⟩, ?_, Nat.le_refl _, fun j hj => absurd hj (by omega)⟩
      show min oc mm ≤ st.heap.length; omega
    · rintro i tm1 st1 ⟨hv1, hfi, hk1, ⟨P1, ho1, hP1⟩, ⟨es1, hm1, hmo1⟩, hlo1, hwf1, hno⟩ hS
      simp only [List.map_cons, List.map_nil, List.cons.injEq, and_true] at hv1
      have hl1 : tm1.length = 40 := (by rw [hS.1]; simp only [put_len, hl]); have i0 : tg tm1 0 = v := (by rw [hS.2 0 (by decide)]; simp only [go_sem, hl, h0, h2, h5, h6]); have i2 : tg tm1 2 = iv (k + 1 : Nat) := (by rw [hS.2 2 (by decide)]; simp only [go_sem, hl, h0, h2, h5, h6]); have i5 : tg tm1 5 = .ptr cc 0 := (by rw [hS.2 5 (by decide)]; simp only [go_sem, hl, h0, h2, h5, h6]); have i6 : tg tm1 6 = .ptr sc 0 := (by rw [hS.2 6 (by decide)]; simp only [go_sem, hl, h0, h2, h5, h6]); clear hS
      have hmc : mm ≠ cc := by rintro rfl; rw [hcc] at hm; cases hm
      have hmr : mm ≠ rc := by rintro rfl; rw [hr] at hm; cases hm
      have hms : mm ≠ sc := by rintro rfl; rw [hs] at hm; cases hm
      have hcc1 := hk1.hp hcc (by rintro (h | h); exact hoc h.symm; exact hmc h.symm)
      have hr1 := hk1.hp hr (by rintro (h | h); exact hor h.symm; exact hmr h.symm)
      have hs1 := hk1.hp hs (by rintro (h | h); exact hos h.symm; exact hms h.symm)
      have m1c := hp_lt hcc1
      have m1s := hp_lt hs1
      have hkl := hk1.1
      have hw0 : IntKind.wrap .i64 (((f + i : Nat) : Int) + ((k + 1 : Nat) : Int)) = ((f + i + (k + 1) : Nat) : Int) := wrap_in (by unfold inI; omega)
      refine go (bw11 hl1 hv1 i2 i5 hcc1 hFs (neL m1c) (neA m1c) (ltL m1c) (ltA m1c) hw0) fnil ?_
      refine ⟨decide (((f + i + (k + 1) : Nat) : Int) ≤ (c.figs.length : Int)), by simp only [go_sem, hl1], fun hb => ?_, fun hb => ?_⟩
      · have hN : ∀ j, j < c.figs.length - k - f → clashF c k (now ++ [((f + j : Nat) : Int)]) (f + j + 1) = none := fun j hj => hno j (by
          have := of_decide_eq_false hb
          omega)
        have hfd : clashF c (k + 1) now f = none := by rw [clashF_succ]; exact range_none hN
        rw [hfd]
        refine go hl1 fnil ?_
        refine fnr_ret (v := .bool (none : Option (List Int)).isSome) (results_one (by rw [rdRes_tmp]; simp only [go_sem, hl1]; rfl)) ?_
        exact clq_fin loc ⟨P0, ho, hP0⟩ ⟨es, hm, hmo⟩ hwf hk1 ⟨P1, ho1, hP1, fun l h => by cases h⟩ ⟨es1, hm1, hmo1⟩ hlo1 (fun h => by cases h)
      · have hle := of_decide_eq_true hb
        refine ⟨by omega, ?_⟩
        refine go (bw9 hl1 hv1 i6 i0 hs1 (neL m1s) (neA m1s) (ltL m1s) (ltA m1s)) fnil ?_
        refine wopsD_callS (by first | omega | (simp only [lo_push, lo_setVar, len_push, len_setVar]; omega)) rfl rfl (by simp only [go_sem, hl1, i0]; first | done | rfl) (fun st1 he => by simp only [go_sem, hl1, i0]; exact c109 v now hv (by omega) _) ?_
        intro v1 st2 hR
        have r1 := hR.lo
        have r2 := hR.len
        refine go (bw hl1 hv1) fnil ?_
        refine wopsD_append' (m := st1.heap.length) (by omega) rfl rfl (by simp only [go_sem, hl1]; first | done | rfl) (by simp only [go_sem, hl1]; first | done | rfl) (hR.own (Nat.le_refl _)) rfl (by omega) (by rfl) (by rfl) (by simp only [maxList]; omega) ?_
        intro v' st3 ft hft hO' hFr hk3
        have hv' : SlOf 1 encI v' (now ++ [((f + i : Nat) : Int)]) := SlOf.of_sl hO'.sl (by simp) (by simp [encI_map, share_int]) (fun _ => rfl)
        have hFr3 : Fr st1.heap.length st1 st3 := hR.fr.trans hFr
        have hx3 := hFr3.hext
        have f1 := hFr3.lo
        have f2 := hFr3.up
        have f3 := hFr3.len
        have hw1 : IntKind.wrap .i64 (((f + i : Nat) : Int) + 1) = ((f + i + 1 : Nat) : Int) := wrap_in (by unfold inI; omega)
        have hw2 : IntKind.wrap .i64 (((k + 1 : Nat) : Int) - 1) = (k : Int) := by rw [wrap_in (by unfold inI; omega)]; omega
        refine go (bw5 hl1 hv1 i2 hw1 hw2) fnil ?_
        have hrec := c107 hF hc hor hoc hos k (now ++ [((f + i : Nat) : Int)]) (f + i + 1) v' { st3 with lo := st3.heap.length } hv' (hB.snoc (by omega)) (by omega) (by simp; omega) (Nat.le_refl _) ⟨P1, hx3.hp ho1, hP1⟩ (hx3.hp hr1) (hx3.hp hcc1) (hx3.hp hs1) ⟨es1, hx3.hp hm1, hmo1⟩
        refine wopsD_callR rfl rfl (by simp only [go_sem, hl1]; first | done | rfl) (by simp only [go_sem, hl1]; exact hrec) ?_
        rintro u st4 ⟨rfl, hk4, ⟨P4, ho4, hP4, hPl⟩, hm4, hlo4, hwf4, hup4⟩ ft2
        apply wopsD_nil
        refine ⟨?_, ?_⟩
        · have hc2 : (match some ft with
              | some f => !clash sc f
              | none => true) = true := by simp only [hft sc m1s, Bool.not_false]
          simp only [footOk, List.all_cons, List.all_nil, List.getElem?_cons_zero, List.getElem?_cons_succ, Bool.and_true]
          simp only [footOf]
          simp only [go_sem, hl1, i6]
          have hq : clash sc Foot.quiet = false := rfl
          simp only [List.all_cons, List.all_nil, List.getElem?_cons_zero, List.getElem?_cons_succ, hq, hft sc m1s, Bool.not_false, Bool.and_self]
        have hgen : ∃ S : St, S = { st4 with lo := min st3.lo st4.lo } := ⟨_, rfl⟩
        obtain ⟨S, hSd⟩ := hgen
        rw [← hSd]
        have hSh : S.heap = st4.heap := by rw [hSd]
        have hSl : S.lo = min st3.lo st4.lo := by rw [hSd]
        have hSo : hp S oc = some (.var [P4]) := by show S.heap[oc]? = _; rw [hSh]; exact ho4
        have hSm : ∃ es, hp S mm = some (.map es) ∧ MapOk c es := by
          obtain ⟨es4, g1, g2⟩ := hm4
          exact ⟨es4, by show S.heap[mm]? = _; rw [hSh]; exact g1, g2⟩
        have hSk : KeepV (fun l => l = oc ∨ l = mm) st.heap S.heap := by rw [hSh]; exact (hk1.trans (hx3.keep _)).trans hk4
        have hkl4 := hk4.1
        simp only at hlo4 hkl4
        cases hfd : clashF c k (now ++ [((f + i : Nat) : Int)]) (f + i + 1) with
        | some l =>
          rw [hfd] at hup4
          have h4 := hup4 rfl
          have hfd2 : clashF c (k + 1) now f = some l := by rw [clashF_succ]; exact range_some (by omega) hno hfd
          rw [hfd2]
          refine go (bw3 hl1 @isS @isN) fnil ?_
          refine fnr_ret (v := .bool (some l).isSome) (results_one (by rw [rdRes_tmp]; simp only [go_sem, hl1]; rfl)) ?_
          exact clq_fin loc ⟨P0, ho, hP0⟩ ⟨es, hm, hmo⟩ hwf hSk ⟨P4, hSo, hP4, fun l' h => hPl l' (by rw [hfd]; exact h)⟩ hSm (by omega) (fun _ => by omega)
        | none =>
          have hw3 : IntKind.wrap .i64 (((f + i : Nat) : Int) + 1) = ((f + (i + 1) : Nat) : Int) := wrap_in (by unfold inI; omega)
          refine go (bw5 hl1 hv1 @isS @isN hw3) fnil ?_
          refine ⟨by simp only [go_sem, hl1], by omega, hSk, ⟨P4, hSo, hP4⟩, hSm, by omega, by rw [hSh]; omega, fun j hj => ?_⟩
          by_cases hji : j = i
          · subst hji; exact hfd
          · exact hno j (by omega)
end
end Go.Den.Ch
end
section
namespace Go.Den.Ch
def clashR (c : CL) : List Int × Int := if listB c then (match (List.range (c.figs.length + 1)).findSome? (fun many => clashF c many [] 0) with | some l => (l, 0) | none => ([], 5)) else ([], 2)
set_option maxHeartbeats 8000000 in
theorem c62 (c : CL) (F : PV) (hF : SlOf 3 encF F c.figs) (st : St) : ClR EE (.func 62 [] []) [clPV c F] st (fun v st' => ∃ P, v = .tuple [P, iv (clashR c).2] ∧ RetW st (clashR c).1.length ((clashR c).1.flatMap encI) P st') := by
  have hFc := hF.cells
  have hFi := hF.isCell
  have hFs := hF.slen
  refine clr_fn (pr62 · _ _) fn62 1 rfl (by decide) (fun tm hl hg => ?_); have h0 : tg tm 0 = clPV c F := (hg 0 (by decide)); clear hg
  cases hA : listB c
  · have e : clashR c = ([], 2) := by simp [clashR, hA]
    rw [e]
    refine go (bw3 hl h0 hA) (bw (c77 c F hF) fnil) ?_
    refine fnr_ret (v := .tuple [.nilslice, iv 2]) (by simp only [results, rdResL, rdRes_tmp]; simp only [go_sem, hl]) ?_
    exact finish_slT rfl (by rfl) (by simp only [lo_push]; omega) (fun m => rfl)
  · have hc := OkL.of hA
    have hlen := hc.len
    have hw0 : IntKind.wrap .i64 ((c.figs.length : Int) + 1) = ((c.figs.length + 1 : Nat) : Int) := wrap_in (by unfold inI; omega)
    refine go (bw7 hl h0 hA hFi hFs hw0 @isCell_map) (bw (c77 c F hF) fnil) ?_
    refine wp_gen (fun tm1 s1 => tm1.length = 31 ∧ tg tm1 5 = .ptr (st.heap.length + 3) 0 ∧ tg tm1 6 = .ptr (st.heap.length + 4) 0 ∧ tg tm1 7 = .bool false ∧ tg tm1 19 = iv (c.figs.length + 1 : Nat) ∧ tg tm1 20 = iv 0 ∧ s1.heap.length = st.heap.length + 5 ∧ st.heap.length ≤ s1.lo ∧ s1.lo ≤ s1.heap.length ∧ hp s1 st.heap.length = some (.var [iv c.room, iv c.depth, F]) ∧ hp s1 (st.heap.length + 1) = some (.map []) ∧ hp s1 (st.heap.length + 2) = some (.var [iv c.room, iv c.depth, F, .map (st.heap.length + 1)]) ∧ hp s1 (st.heap.length + 3) = some (.var [.nilslice]) ∧ hp s1 (st.heap.length + 4) = some (.var [.func 107 [] [.ptr (st.heap.length + 3) 0, .ptr (st.heap.length + 2) 0, .ptr st.heap.length 0, .ptr (st.heap.length + 4) 0]]))
      ⟨by simp only [go_sem, hl], by simp only [go_sem, hl], by simp only [go_sem, hl], by simp only [go_sem, hl], by simp only [go_sem, hl], by simp only [go_sem, hl], by simp only [go_sem], by simp only [lo_push, lo_setVar]; omega, by simp only [lo_push, lo_setVar, len_push, len_setVar]; omega, by simp only [go_sem], by simp only [go_sem], by simp only [go_sem], by simp only [go_sem], by simp only [go_sem]⟩ ?_
    rintro tm1 s1 ⟨hl1, q5, q6, q7, q19, q20, hsl, hlo, hwf, z0, z1, z2, z3, z4⟩
    refine wp_range (c.figs.length + 1) [7] (fun i vs st' => vs = [.bool false] ∧ KeepV (fun l => l = st.heap.length + 3 ∨ l = st.heap.length + 1) s1.heap st'.heap ∧ (∃ P, hp st' (st.heap.length + 3) = some (.var [P]) ∧ P.isCell = true) ∧ (∃ es, hp st' (st.heap.length + 1) = some (.map es) ∧ MapOk c es) ∧ st.heap.length ≤ st'.lo ∧ st'.lo ≤ st'.heap.length ∧ ∀ j, j < i → clashF c j [] 0 = none) (by omega) q20 (by simp only [go_sem, q19]) (by omega) (by decide) ⟨by simp only [List.map_cons, List.map_nil, q7], .refl _ _, ⟨_, z3, rfl⟩, ⟨_, z1, fun e he => by cases he⟩, hlo, hwf, fun j hj => absurd hj (by omega)⟩ ?_ ?_
    · rintro i hi tm2 st2 ⟨hv, hk, hP, hm, hlo2, hwf2, hno⟩ hS hia
      simp only [List.map_cons, List.map_nil, List.cons.injEq, and_true] at hv
      have hl2 : tm2.length = 31 := (by rw [hS.1]; simp only [put_len, hl1]); have j5 : tg tm2 5 = .ptr (st.heap.length + 3) 0 := (by rw [hS.2 5 (by decide)]; simp only [go_sem, hl1, q5, q6]); have j6 : tg tm2 6 = .ptr (st.heap.length + 4) 0 := (by rw [hS.2 6 (by decide)]; simp only [go_sem, hl1, q5, q6]); clear hS
      have y0 := hk.hp z0 (by omega)
      have y2 := hk.hp z2 (by omega)
      have y4 := hk.hp z4 (by omega)
      have n4 := hp_lt y4
      refine go (bw8 hl2 j6 hia y4 (neL n4) (neA n4) (ltL n4) (ltA n4)) fnil ?_
      have hrec := c107 (c := c) (F := F) (oc := st.heap.length + 3) (rc := st.heap.length + 2) (cc := st.heap.length) (sc := st.heap.length + 4) (mm := st.heap.length + 1) hF hc (by omega) (by omega) (by omega) i [] 0 .nilslice st2 .nil ⟨by simp, .nil⟩ (by omega) (by simp; omega) hwf2 hP y2 y0 y4 hm
      refine wops_callR rfl rfl (by simp only [go_sem, hl2]; first | done | rfl) (by simp only [go_sem, hl2]; exact hrec) ?_
      rintro u st3 ⟨rfl, hk3, ⟨P3, hP3, hP3i, hPl⟩, hm3, hlo3, hwf3, hup3⟩
      cases hfd : clashF c i [] 0 with
      | some l =>
        have e : clashR c = (l, 0) := by
          simp only [clashR, hA, if_true]
          rw [range_some hi hno hfd]
        have hL : SlOf 1 encI P3 l := hPl l hfd
        rw [e]
        have n3 := hp_lt hP3
        refine go (bw9 hl2 j5 hP3 @isS @isN (neL n3) (neA n3) (ltL n3) (ltA n3)) fnil ?_
        refine fnr_ret (v := .tuple [P3, iv 0]) (by simp only [results, rdResL, rdRes_tmp]; simp only [go_sem, hl2]) ?_
        exact finish_slT hL.sl (by rfl) (by omega) (fun m => ints_low l m)
      | none =>
        refine go (bw3 hl2 @isS @isN) fnil ?_
        refine ⟨by simp only [go_sem, hl2], hk.trans hk3, ⟨P3, hP3, hP3i⟩, hm3, by omega, hwf3, fun j hj => ?_⟩
        by_cases hji : j = i
        · subst hji; exact hfd
        · exact hno j (by omega)
    · rintro tm2 st2 ⟨hv, hk, hP, hm, hlo2, hwf2, hno⟩ hS
      simp only [List.map_cons, List.map_nil, List.cons.injEq, and_true] at hv
      have hl2 : tm2.length = 31 := (by rw [hS.1]; simp only [put_len, hl1]); clear hS
      have e : clashR c = ([], 5) := by
        simp only [clashR, hA, if_true]
        rw [range_none hno]
      rw [e]
      refine go (bw hl2 hv) fnil ?_
      refine fnr_ret (v := .tuple [.nilslice, iv 5]) (by simp only [results, rdResL, rdRes_tmp]; simp only [go_sem, hl2]) ?_
      exact finish_slT rfl (by rfl) hlo2 (fun m => rfl)
end Go.Den.Ch
end
section
namespace Go.Den.Ch
theorem unB_toB (l : List UInt8) : unB (toB l) = l := rfl
theorem toB_unB (b : ByteArray) : toB (unB b) = b := rfl
theorem size_toB (l : List UInt8) : (toB l).size = l.length := rfl
theorem toList_toB (l : List UInt8) : (toB l).toList = l := by rw [ByteArray.toList_eq]; rfl
theorem toB_append (a b : List UInt8) : toB a ++ toB b = toB (a ++ b) := by
  apply ByteArray.ext
  simp [toB]
theorem toB_lit (l : List UInt8) : (ByteArray.mk l.toArray) = toB l := rfl
theorem binS_add (a b : List UInt8) : binS .add (toB a) (toB b) = if a.length + b.length ≤ 1000000 then some (.str (toB (a ++ b))) else none := by
  simp only [binS, size_toB, toB_append]
theorem binS_eql (a b : List UInt8) : binS .eql (toB a) (toB b) = some (.bool (a == b)) := by
  simp only [binS, toList_toB]
theorem binS_neq (a b : List UInt8) : binS .neq (toB a) (toB b) = some (.bool (!(a == b))) := by
  simp only [binS, toList_toB]
attribute [go_sem] toB_lit binS_add binS_eql binS_neq size_toB
def chestW : List UInt8 := [99, 104, 101, 115, 116]
def figW : List UInt8 := [102, 105, 103, 117, 114, 101]
theorem c149 (st : St) : Cl EE (.func 149 [] []) [] st (.ret (.agg [.str (toB chestW), .str (toB figW)])) st := by
  refine cl_fn (pr149 · _ _) fn149 0 rfl (by decide) (fun tm hl hg => ?_); clear hg
  refine go hl fnil ?_
  refine fnq_flat (results_one ?_) (by simp only [lo_push, lo_setVar]; omega) (by rfl)
  rw [rdRes_hp (l := st.heap.length) (off := 0) (by simp only [go_sem, hl])]
  simp only [go_sem, hl]
  rfl
theorem c200 (v : PV) (cs : List PV) (hv : v = .agg cs) (st : St) : Cl EE (.func 200 [] []) [v] st (.ret (iv 0)) st := by
  subst hv
  refine cl_fn (pr200 · _ _) fn200 1 rfl (by decide) (fun tm hl hg => ?_); have h0 : tg tm 0 = .agg cs := (hg 0 (by decide)); clear hg
  refine go (bw hl h0) fnil ?_
  refine fnq_flat (results_one (by rw [rdRes_tmp]; simp only [go_sem, hl]; first | done | rfl)) (by first | exact Nat.le_refl _ | omega | (simp only [lo_push, lo_setVar]; omega)) (by rfl)
theorem c202 (v : PV) (cs : List PV) (hv : v = .agg cs) (st : St) : Cl EE (.func 202 [] []) [v] st (.ret (iv 1)) st := by
  subst hv
  refine cl_fn (pr202 · _ _) fn202 1 rfl (by decide) (fun tm hl hg => ?_); have h0 : tg tm 0 = .agg cs := (hg 0 (by decide)); clear hg
  refine go (bw hl h0) fnil ?_
  refine fnq_flat (results_one (by rw [rdRes_tmp]; simp only [go_sem, hl]; first | done | rfl)) (by first | exact Nat.le_refl _ | omega | (simp only [lo_push, lo_setVar]; omega)) (by rfl)
theorem c201 (c : CL) (F : PV) (st : St) : ClR EE (.func 201 [] []) [clPV c F] st (RetS st 1 2 ([c.room, c.depth].flatMap encI)) := by
  refine clr_fn (pr201 · _ _) fn201 1 rfl (by decide) (fun tm hl hg => ?_); have h0 : tg tm 0 = clPV c F := (hg 0 (by decide)); clear hg
  refine go (bw hl h0) fnil ?_
  refine fnr_ret (v := .slice (.tag (st.heap.length + 1) 1) 2 [iv c.room, iv c.depth]) (results_one (by rw [rdRes_tmp]; simp only [go_sem, hl])) (OwnS.finish (n := 2) (cs := [iv c.room, iv c.depth]) ⟨rfl, .inr ⟨_, rfl, by omega, by simp only [go_sem]⟩⟩ (by simp only [lo_push]; omega) (fun m c hc => by
    simp only [List.mem_cons, List.not_mem_nil, or_false] at hc
    rcases hc with rfl | rfl <;> rfl))
theorem c203 (f : Fig) (st : St) : ClR EE (.func 203 [] []) [figPV f] st (RetS st 1 3 ([f.size, f.rank, f.eve].flatMap encI)) := by
  refine clr_fn (pr203 · _ _) fn203 1 rfl (by decide) (fun tm hl hg => ?_); have h0 : tg tm 0 = figPV f := (hg 0 (by decide)); clear hg
  refine go (bw hl h0) fnil ?_
  refine fnr_ret (v := .slice (.tag (st.heap.length + 1) 1) 3 [iv f.size, iv f.rank, iv f.eve]) (results_one (by rw [rdRes_tmp]; simp only [go_sem, hl])) (OwnS.finish (n := 3) (cs := [iv f.size, iv f.rank, iv f.eve]) ⟨rfl, .inr ⟨_, rfl, by omega, by simp only [go_sem]⟩⟩ (by simp only [lo_push]; omega) (fun m c hc => by
    simp only [List.mem_cons, List.not_mem_nil, or_false] at hc
    rcases hc with rfl | rfl | rfl <;> rfl))
theorem c137 (n : Int) (h0 : 0 ≤ n) (h1 : n < 100) (st : St) : Cl EE (.func 137 [] []) [iv n] st (.ret (.str (toB (itoaL n.toNat)))) st := by
  refine ⟨1, fun k hk => ?_⟩
  obtain ⟨m, rfl⟩ : ∃ m, k = m + 1 := ⟨k - 1, by omega⟩
  show stepCall EE (run EE m) (.func 137 [] []) [iv n] st = _
  have h2 : EE.prim 137 (run EE m) ([] ++ [iv n] ++ []) st = itoaR st [iv n] := rfl
  simp only [stepCall, enter, h2, itoaR, h0, h1, and_self, if_true]
def rowL (w : List UInt8) (ns : List Int) : List UInt8 := ns.foldl (fun s n => s ++ (32 :: itoaL n.toNat)) w
theorem rowL_take (w : List UInt8) {ns : List Int} {i : Nat} (h : i < ns.length) : rowL w (ns.take (i + 1)) = rowL w (ns.take i) ++ (32 :: itoaL ns[i].toNat) := by
  rw [List.take_succ_eq_append_getElem h, rowL, List.foldl_append]; rfl
theorem itoaL_len (n : Nat) : (itoaL n).length ≤ 2 := by unfold itoaL; split <;> simp
theorem rowL_len (w : List UInt8) (ns : List Int) : (rowL w ns).length ≤ w.length + 3 * ns.length := by
  unfold rowL
  induction ns generalizing w with
  | nil => simp
  | cons n ns ih =>
    have := ih (w ++ (32 :: itoaL n.toNat))
    have h2 := itoaL_len n.toNat
    simp only [List.foldl_cons, List.length_append, List.length_cons] at this ⊢
    omega
theorem wops_invoke {E : Env} {Q : Ex → List PV → St → Prop} {tm : List PV} {st : St} {x : Opd} {m : String} {args : List Opd} {dst : Option Nat} {g : Option (Nat × Bool)} {os : List DOper} {b : Bool} {t f : Nat} {v u : PV} {st1 : St} (hw : wants tm g = b) (hb : b = true) (hx : x.ev tm = .iface t v) (hm : E.meth t m = some f) (hc : Cl E (.func f [] []) (v :: evs tm args) st (.ret u) st1) (h : WOps E os Q (put tm dst u) st1) : WOps E (⟨.invoke x m args, dst, g⟩ :: os) Q tm st := by
  obtain ⟨N, hN⟩ := hc
  refine wops_cons (hw.trans hb) N (fun n hn => ?_) h
  simp only [stepOp, hx, hm, hN n hn]
theorem wops_invokeR {E : Env} {Q : Ex → List PV → St → Prop} {tm : List PV} {st : St} {x : Opd} {m : String} {args : List Opd} {dst : Option Nat} {g : Option (Nat × Bool)} {os : List DOper} {b : Bool} {t f : Nat} {v : PV} {P : PV → St → Prop} (hw : wants tm g = b) (hb : b = true) (hx : x.ev tm = .iface t v) (hm : E.meth t m = some f) (hc : ClR E (.func f [] []) (v :: evs tm args) st P) (h : ∀ u st1, P u st1 → WOps E os Q (put tm dst u) st1) : WOps E (⟨.invoke x m args, dst, g⟩ :: os) Q tm st := by
  obtain ⟨u, st1, h1, h2⟩ := hc
  exact wops_invoke hw hb hx hm h1 (h u st1 h2)
set_option maxHeartbeats 1000000 in
theorem c136 (t fk fn k : Nat) (v : PV) (w : List UInt8) (ns : List Int) (hk : EE.meth t "kelir/chest.kind" = some fk) (hn : EE.meth t "kelir/chest.numbers" = some fn) (hck : ∀ st, Cl EE (.func fk [] []) [v] st (.ret (iv k)) st) (hcn : ∀ st, ClR EE (.func fn [] []) [v] st (RetS st 1 ns.length (ns.flatMap encI)))
    (hw : (k = 0 ∧ w = chestW) ∨ (k = 1 ∧ w = figW)) (hns : ∀ n ∈ ns, 0 ≤ n ∧ n < 100) (hl3 : ns.length ≤ 3) (st : St) : Cl EE (.func 136 [] []) [.iface t v] st (.ret (.str (toB (rowL w ns)))) st := by
  refine cl_fn (pr136 · _ _) fn136 1 rfl (by decide) (fun tm hl hg => ?_); have h0 : tg tm 0 = .iface t v := (hg 0 (by decide)); clear hg
  refine go (bw hl h0) (bw c149 fnil) ?_
  refine wops_invoke rfl rfl (by simp only [go_sem, hl]; first | done | rfl) hk (by simp only [go_sem, hl]; exact hck _) ?_
  have hix : ∀ (tm : List PV) (st : St), tg tm 6 = .agg [.str (toB chestW), .str (toB figW)] → tg tm 8 = iv k → ∀ rec, stepOp EE rec tm st (.indexArr false 2 1 (.t 6) (.t 8)) = some (.val (.str (toB w)) st) := by
    intro tm st h6 h8 rec
    rcases hw with ⟨rfl, rfl⟩ | ⟨rfl, rfl⟩
    · simp only [go_sem, op_indexArr, h6, h8]; rfl
    · simp only [go_sem, op_indexArr, h6, h8]; rfl
  refine wops_one (v := .str (toB w)) rfl (hix _ _ (by simp only [go_sem, hl]) (by simp only [go_sem, hl])) ?_
  refine go (bw hl h0) fnil ?_
  refine wops_invokeR rfl rfl (by simp only [go_sem, hl, h0]; first | done | rfl) hn (by simp only [go_sem, hl, h0]; exact hcn _) ?_
  intro u st1 hR
  have hU := slI hR
  have hUs := hU.slen
  have r1 := hR.lo
  have hwl : w.length ≤ 6 := by rcases hw with ⟨_, rfl⟩ | ⟨_, rfl⟩ <;> decide
  simp only at r1
  refine go (bw hl hUs) fnil ?_
  refine wp_range ns.length [3] (fun i vs st' => vs = [.str (toB (rowL w (ns.take i)))] ∧ st' = st1) (by omega) (by simp only [go_sem, hl]) (by simp only [go_sem, hl]) (by simp only [go_sem, hl]) (by decide) ⟨by simp only [go_sem, hl]; rfl, rfl⟩ ?_ ?_
  · rintro i hi tm1 st2 ⟨hv, rfl⟩ hS hia
    simp only [List.map_cons, List.map_nil, List.cons.injEq, and_true] at hv
    have hl1 : tm1.length = 24 := (by rw [hS.1]; simp only [put_len, hl]); have i11 : tg tm1 11 = u := (by rw [hS.2 11 (by decide)]; simp only [go_sem, hl]); clear hS
    have hr := hns _ (List.getElem_mem hi)
    have hi2 := itoaL_len ns[i].toNat
    have hrl := rowL_len w (ns.take i)
    have htl : (ns.take i).length ≤ 3 := by simp; omega
    have o1 : (1 + (itoaL ns[i].toNat).length ≤ 1000000) = True := by simp only [eq_iff_iff, iff_true]; omega
    have o2 : ((rowL w (ns.take i)).length + ((itoaL ns[i].toNat).length + 1) ≤ 1000000) = True := by simp only [eq_iff_iff, iff_true]; omega
    refine go (bw6 hl1 i11 hia hv o1 o2) (bw c137 fnil) ?_
    rw [rowL_take w hi]
    exact ⟨by simp only [go_sem, hl1], rfl⟩
  · rintro tm1 st2 ⟨hv, rfl⟩ hS
    simp only [List.map_cons, List.map_nil, List.cons.injEq, and_true, List.take_length] at hv
    have hl1 : tm1.length = 24 := (by rw [hS.1]; simp only [put_len, hl]); clear hS
    refine go (bw hl1 hv) fnil ?_
    exact fnq_flat (results_one (by rw [rdRes_tmp]; simp only [go_sem, hl1])) (by rw [r1]; exact Nat.le_refl _) (by rfl)
end Go.Den.Ch
end

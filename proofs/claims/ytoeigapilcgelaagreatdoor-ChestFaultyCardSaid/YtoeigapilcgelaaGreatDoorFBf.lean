/- Part of the proof that for every input the function ChestFaulty returns true and each argument reads as it did. Texts: ChM. -/
import Derived.Test.YtoeigapilcgelaaGreatDoorFBe
set_option linter.unusedSimpArgs false
set_option linter.unusedVariables false
section
namespace Go.Den.Ch
def withL (c : CL) (f : Fig) : CL := { c with figs := c.figs ++ [f] }
def laterR (c : CL) (q : List Int) (f : Fig) : List Int × Int × Int :=
  if listB c && (packB c q && figB f) then (if 6 ≤ c.figs.length then ([], 0, 3) else if (fault c q).isNone then (match bestF (ltMv q) (rightsL (withL c f)) with | some p => (p, movedL p q, 0) | none => ([], 0, 5)) else ([], 0, 7)) else ([], 0, 2)
set_option maxHeartbeats 8000000 in
theorem c53 (c : CL) (F Q : PV) (q : List Int) (f : Fig) (hF : SlOf 3 encF F c.figs) (hQ : SlOf 1 encI Q q) (st : St) : ClR EE (.func 53 [] []) [clPV c F, Q, figPV f] st (fun v st' => ∃ V, v = .tuple [V, iv (laterR c q f).2.1, iv (laterR c q f).2.2] ∧ RetW st (laterR c q f).1.length ((laterR c q f).1.flatMap encI) V st') := by
  have hFc := hF.cells
  have hFi := hF.isCell
  have hFs := hF.slen
  have hQc := hQ.cells
  have hQi := hQ.isCell
  refine clr_fn (pr53 · _ _) fn53 3 rfl (by decide) (fun tm hl hg => ?_); have h0 : tg tm 0 = clPV c F := (hg 0 (by decide)); have h1 : tg tm 1 = Q := (hg 1 (by decide)); have h2 : tg tm 2 = figPV f := (hg 2 (by decide)); clear hg
  cases hA : listB c
  · have e : laterR c q f = ([], 0, 2) := by simp [laterR, hA]
    rw [e]
    refine go (bw6 hl h0 h1 h2 hQc hA) (bw (c77 c F hF) fnil) ?_
    refine fnr_ret (v := .tuple [.nilslice, iv 0, iv 2]) (by simp only [results, rdResL, rdRes_tmp]; simp only [go_sem, hl]) ?_
    exact finish_slT rfl (by rfl) (by simp only [lo_push]; omega) (fun m => rfl)
  · have hc := OkL.of hA
    have hlen := hc.len
    cases hB : packB c q
    · have e : laterR c q f = ([], 0, 2) := by simp [laterR, hA, hB]
      rw [e]
      refine go (bw7 hl h0 h1 h2 hQc hA hB) (bw3 (c77 c F hF) (c78 c F Q q hF hQ hA) fnil) ?_
      refine fnr_ret (v := .tuple [.nilslice, iv 0, iv 2]) (by simp only [results, rdResL, rdRes_tmp]; simp only [go_sem, hl]) ?_
      exact finish_slT rfl (by rfl) (by simp only [lo_push]; omega) (fun m => rfl)
    · have hq := OkP.of hB
      have hql := hq.len
      cases hC : figB f
      · have e : laterR c q f = ([], 0, 2) := by simp [laterR, hC]
        rw [e]
        refine go (bw8 hl h0 h1 h2 hQc hA hB hC) (bw4 (c77 c F hF) (c78 c F Q q hF hQ hA) (c95 f) fnil) ?_
        refine fnr_ret (v := .tuple [.nilslice, iv 0, iv 2]) (by simp only [results, rdResL, rdRes_tmp]; simp only [go_sem, hl]) ?_
        exact finish_slT rfl (by rfl) (by simp only [lo_push]; omega) (fun m => rfl)
      · by_cases h6 : 6 ≤ c.figs.length
        · have hd6 : decide ((c.figs.length : Int) ≥ 6) = true := by simp; omega
          have e : laterR c q f = ([], 0, 3) := by simp [laterR, hA, hB, hC, h6]
          rw [e]
          refine go (bw10 hl h0 h1 h2 hQc hA hB hC hFs hd6) (bw4 (c77 c F hF) (c78 c F Q q hF hQ hA) (c95 f) fnil) ?_
          refine fnr_ret (v := .tuple [.nilslice, iv 0, iv 3]) (by simp only [results, rdResL, rdRes_tmp]; simp only [go_sem, hl]) ?_
          exact finish_slT rfl (by rfl) (by simp only [lo_push]; omega) (fun m => rfl)
        · have hd6 : decide ((c.figs.length : Int) ≥ 6) = false := by simp; omega
          cases hD : (fault c q).isNone
          · have e : laterR c q f = ([], 0, 7) := by simp [laterR, hA, hB, hC, h6, hD]
            rw [e]
            refine go (bw11 hl h0 h1 h2 hQc hA hB hC hFs hd6 hD) (bw5 (c77 c F hF) (c78 c F Q q hF hQ hA) (c95 f) (c90 c F Q q hF hQ hc hq) fnil) ?_
            refine fnr_ret (v := .tuple [.nilslice, iv 0, iv 7]) (by simp only [results, rdResL, rdRes_tmp]; simp only [go_sem, hl]) ?_
            exact finish_slT rfl (by rfl) (by simp only [lo_push]; omega) (fun m => rfl)
          · refine go (bw11 hl h0 h1 h2 hQc hA hB hC hFs hd6 hD) (bw5 (c77 c F hF) (c78 c F Q q hF hQ hA) (c95 f) (c90 c F Q q hF hQ hc hq) fnil) ?_
            refine wopsD_callS (by first | omega | (simp only [lo_push, lo_setVar, len_push, len_setVar]; omega)) rfl rfl (by simp only [go_sem, hl]; first | done | rfl) (fun st1 he => by simp only [go_sem, hl]; exact c96 F c.figs hF (by omega) _) ?_
            intro v1 st1 hR
            have r1 := hR.lo
            have r2 := hR.len
            have b0 : hp st1 st.heap.length = some (.var [iv c.room, iv c.depth, F]) := hR.hp (by simp only [go_sem])
            have b1 : hp st1 (st.heap.length + 1) = some (.var [Q]) := hR.hp (by simp only [go_sem])
            have b2 : hp st1 (st.heap.length + 2) = some (.var [iv f.size, iv f.rank, iv f.eve]) := hR.hp (by simp only [go_sem])
            simp only [lo_push, len_push] at r1 r2
            have m0 := hp_lt b0
            have m1 := hp_lt b1
            have m2 := hp_lt b2
            refine go (bw6 hl b2 (neL m2) (neA m2) (ltL m2) (ltA m2)) fnil ?_
            refine wopsD_append (m := st.heap.length) (by omega) rfl rfl (by simp only [go_sem, hl]; first | done | rfl) (by simp only [go_sem, hl]; first | done | rfl) (hR.own (by simp only [len_push]; omega)) rfl (by omega) (by rfl) (by rfl) (by simp only [maxList]; omega) ?_
            intro v' st2 ft hO hFr hk
            have s1 := hFr.lo
            have s2 := hFr.len
            have s3 := hFr.up
            have hF' : SlOf 3 encF v' (withL c f).figs := SlOf.of_sl hO.sl (by simp [withL]) (by simp [withL, share_int]) (fun _ => rfl)
            have hFc' := hF'.cells
            have hFi' := hF'.isCell
            have d0 := hk _ _ b0 (by simp)
            have d1 := hk _ _ b1 (by simp)
            have n0 := hp_lt d0
            have n1 := hp_lt d1
            refine go (bw13 hl d0 d1 (neL n0) (neA n0) (ltL n0) (ltA n0) (neL n1) (neA n1) (ltL n1) (ltA n1) hFc' hFi') fnil ?_
            refine wopsD_set (v := undef) (l := st.heap.length) (ob := .var [iv c.room, iv c.depth, v']) (by omega) (by omega) rfl rfl (fun rec st3 he hh => by simp only [go_sem, hl, hh, he, d0, neL n0, neA n0, ltL n0, ltA n0, hFc', hFi']) ?_
            apply wopsD_nil
            refine ⟨footOk_quiet (by rfl), ?_⟩
            have hc' : OkL (withL c f) := ⟨by simp [withL]; omega, fun g hg => by
              rcases List.mem_append.1 hg with h | h
              · exact hc.figs g h
              · simp only [List.mem_singleton] at h; subst h; exact hC, hc.d0, hc.d1⟩
            have hcl : ∀ st, Cl EE (.func 82 [] []) [.agg [iv c.room, iv c.depth, v']] st (.ret (.func 129 [] [.ptr st.heap.length 0])) (st.push (.var [iv c.room, iv c.depth, v'])) := fun st => c82 (withL c f) v' st
            refine go (bw9 hl (neL n0) (neA n0) (ltL n0) (ltA n0) (neL n1) (neA n1) (ltL n1) (ltA n1)) (bw hcl fnil) ?_
            have hb1 : hp ((setVar st2 st.heap.length (.var [iv c.room, iv c.depth, v'])).push (.var [iv c.room, iv c.depth, v'])) st2.heap.length = some (.var [iv c.room, iv c.depth, v']) := by simp only [go_sem]
            have hb2 : hp ((setVar st2 st.heap.length (.var [iv c.room, iv c.depth, v'])).push (.var [iv c.room, iv c.depth, v'])) (st.heap.length + 1) = some (.var [Q]) := by simp only [go_sem, d1, neL n1, neA n1, ltL n1, ltA n1]
            have hq5 : q.length < 1000 := by omega
            have hpl : ∀ p, p ∈ rightsL (withL c f) → q.length ≤ p.length := fun p hp => by
              have := (rightsL_mem hp).1.len
              simp [withL] at this
              omega
            refine wops_callR rfl rfl (by simp only [go_sem, hl]; first | done | rfl) (by simp only [go_sem, hl]; exact c81 (withL c f) v' hFc' hFi' 129 [] [.ptr st2.heap.length 0] (.func 97 [] [.ptr (st.heap.length + 1) 0]) rfl (rightsL (withL c f)) (ltMv q) (fun l => l = st2.heap.length) _ (fun l h => by subst h; simp only [len_push, len_setVar]; omega) (fun st' hx => iter129 hF' hc' (hx.hp hb1)) (fun st' hka x hx o ho vx vo ⟨P, e1, hP⟩ ⟨P2, e2, hP2⟩ => by subst e1; subst e2; exact c97 (withL c f) v' P P2 Q x o q hFc' hP hP2 hQ hq5 (hpl x hx) (hpl o ho) st' _ (hka.hp hb2 (fun h => h)))) ?_
            rintro v st4 ⟨cs, rfl, hOut, hka, hlo⟩
            have k1 := hka.1
            simp only [lo_push, lo_setVar, len_push, len_setVar] at hlo k1
            have d4 : hp st4 (st.heap.length + 1) = some (.var [Q]) := hka.hp hb2 (fun h => h)
            have m4 := hp_lt d4
            cases hb : bestF (ltMv q) (rightsL (withL c f)) with
            | none =>
              have e : laterR c q f = ([], 0, 5) := by simp [laterR, hA, hB, hC, h6, hD, hb]
              rw [e]
              rw [hb] at hOut
              simp only [OutP] at hOut
              subst hOut
              refine go (bw4 hl @isS @isN hb) fnil ?_
              refine fnr_ret (v := .tuple [.nilslice, iv 0, iv 5]) (by simp only [results, rdResL, rdRes_tmp]; simp only [go_sem, hl]) ?_
              exact finish_slT rfl (by rfl) (by simp only [lo_push, lo_setVar]; omega) (fun m => rfl)
            | some p =>
              have e : laterR c q f = (p, movedL p q, 0) := by simp [laterR, hA, hB, hC, h6, hD, hb]
              rw [e]
              rw [hb] at hOut
              obtain ⟨P, rfl, hP⟩ := hOut
              have hPc := hP.cells
              have hPi := hP.isCell
              have hpm := hpl p (bestF_mem (ltMv q) (rightsL (withL c f)) (Nat.le_refl _) (by rw [List.take_length]; exact hb))
              have hmv : ∀ st, Cl EE (.func 98 [] []) [.agg [iv c.room, iv c.depth, v', P], Q] st (.ret (iv (movedL p q))) st := fun st => c98 (withL c f) v' P Q p q hFc' hP hQ hq5 hpm st
              have hcs : [PV.int .i64 (withL c f).room, .int .i64 (withL c f).depth, v', P] = [iv c.room, iv c.depth, v', P] := rfl
              rw [hcs]
              refine go (bw11 hl @isS @isN hb hFi' hPi d4 (neL m4) (neA m4) (ltL m4) (ltA m4)) (bw hmv fnil) ?_
              refine fnr_ret (v := .tuple [P, iv (movedL p q), iv 0]) (by simp only [results, rdResL, rdRes_tmp]; simp only [go_sem, hl]) ?_
              exact finish_slT hP.sl (by rfl) (by simp only [lo_push, lo_setVar]; omega) (fun m => ints_low p m)
end Go.Den.Ch
end

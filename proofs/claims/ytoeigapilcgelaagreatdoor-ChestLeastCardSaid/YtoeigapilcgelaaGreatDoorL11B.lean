/- Part of the proof that for every input the function ChestLeast returns true and each argument reads as it did. Texts: ChMe, ChLe. -/
import Derived.Test.YtoeigapilcgelaaGreatDoorK1Br
set_option linter.unusedSimpArgs false
set_option linter.unusedVariables false
section
namespace Go.Den.Ch
set_option maxHeartbeats 4000000 in
theorem c94 (c : CL) (F : PV) (e : Int) (hF : SlOf 3 encF F c.figs) (hN : c.figs.length < 1000) (st : St) : ClR EE (.func 94 [] []) [clPV c F, iv e] st (RetS st 1 (wantL c e).length ((wantL c e).flatMap encI)) := by
 have hFs := hF.slen
 have hFc := hF.cells
 refine clr_fn (pr94 · _ _) fn94 2 rfl (by decide) (fun tm hl hg => ?_); have h0 : tg tm 0 = clPV c F := (hg 0 (by decide)); have h1 : tg tm 1 = iv e := (hg 1 (by decide)); clear hg
 refine go (bw hl h0) fnil ?_
 refine wp_for [6, 5] (fun i vs s => ∃ v, vs = [iv i, v] ∧ i ≤ c.figs.length ∧ OwnS (st.heap.length + 1) s 1 v (castL ((List.range i).filter (wantP c e))).length ((castL ((List.range i).filter (wantP c e))).flatMap encI) ∧ Fr (st.heap.length + 1) (({ heap := st.heap, lo := st.heap.length } : St).push (.var [iv c.room, iv c.depth, F])) s) (fun i => c.figs.length - i) ⟨_, by simp only [↓reduceIte, go_sem, hl]; first | done | rfl, Nat.zero_le _, .nil, .refl _ _⟩ ?_
 rintro i tm2 st2 ⟨v, hv2, hi, hO, hFr⟩ hS
 simp only [List.map_cons, List.map_nil, List.cons.injEq, and_true] at hv2
 obtain ⟨hv6, hv5⟩ := hv2
 have hl2 : tm2.length = 27 := (by rw [hS.1]; simp only [put_len, hl]); have j1 : tg tm2 1 = iv e := (by rw [hS.2 1 (by decide)]; simp only [↓reduceIte, go_sem, hl, h1]); have j2 : tg tm2 2 = .ptr st.heap.length 0 := (by rw [hS.2 2 (by decide)]; simp only [↓reduceIte, go_sem, hl, h1]); clear hS
 have b2 : hp st2 st.heap.length = some (.var [iv c.room, iv c.depth, F]) := (hFr.old _ (by omega)).trans (by simp only [↓reduceIte, go_sem])
 have m2 := hp_lt b2
 have w1 := hFr.len
 have w2 := hFr.lo
 simp only [lo_push, len_push] at w1 w2
 refine go (bw10 hl2 hv6 j2 b2 (neL m2) (neA m2) (ltL m2) (ltA m2) m2 hFs) fnil ?_
 refine ⟨decide ((i : Int) < c.figs.length), by simp only [↓reduceIte, go_sem, hl2], fun hb => ?_, fun hb1 => ?_⟩
 ·have hlt := of_decide_eq_false hb
  obtain rfl : i = c.figs.length := by omega
  refine go (bw hl2 hv5) fnil ?_
  exact fnr_ret (results_one (v := v) (by rw [rdRes_tmp]; simp only [↓reduceIte, go_sem, hl2])) ((hO.mono (Nat.le_succ _)).finish (by omega) (fun m c hc => encI_low _ m c hc))
 have hlt : i < c.figs.length := by have := of_decide_eq_true hb1; omega
 have hw1 : IntKind.wrap .i64 ((i : Int) + 1) = ((i + 1 : Nat) : Int) := wrap_nat (n := i + 1) (by omega)
 refine ⟨by omega, ?_⟩
 rw [castL_succ]
 have hll := castL_len (wantP c e) i
 have hget : wantP c e i = (c.figs[i].eve == e) := by simp only [wantP, List.getElem?_eq_getElem hlt]
 rw [hget]
 cases hx : (c.figs[i].eve == e)
 ·refine go (bw13 hl2 j1 j2 hv6 hv5 b2 (neL m2) (neA m2) (ltL m2) (ltA m2) m2 hx hw1) fnil ?_
  exact ⟨v, by simp only [↓reduceIte, go_sem, hl2, hv5], by omega, by simpa using hO, hFr⟩
 ·refine go (bw12 hl2 j1 j2 hv6 hv5 b2 (neL m2) (neA m2) (ltL m2) (ltA m2) m2 hx) fnil ?_
  refine wops_append rfl rfl (by simp only [↓reduceIte, go_sem, hl2, hv5]; first | done | rfl) (by simp only [↓reduceIte, go_sem, hl2, hv5]; first | done | rfl) (hO.push) rfl (by first | omega | (simp only [len_push, len_setVar]; omega)) (by rfl) (by rfl) (by simp only [maxList]; omega) ?_
  intro v' st3 hO' hFr' hk
  refine go (bw3 hl2 hv6 hw1) fnil ?_
  exact ⟨v', by simp only [↓reduceIte, go_sem, hl2], by omega, by simpa [share_int] using hO', (hFr.push (by omega)).trans hFr'⟩
set_option maxHeartbeats 8000000 in
theorem c52 (c : CL) (F P : PV) (p : List Int) (hF : SlOf 3 encF F c.figs) (hP : SlOf 1 encI P p) (hA : listB c = true) (hi0 : fitsB c p = true) (st : St) : Cl EE (.func 52 [] []) [clPV c F, P] st (.ret (iv (troubleL c p))) st := by
 have hFc := hF.cells
 have hPs := hP.slen
 have hc := OkL.of hA
 have hlen := hc.len
 have hm := mem_rights.1 (fits_mem.1 hi0)
 have hpl := hm.1.len
 have hB : packB c p = true := by simp only [fitsB, Bool.and_eq_true] at hi0; exact hi0.1
 have e : ∀ x : Int, outR c p (wantL c x) = (outL p (wantL c x), 0) := fun x => by simp [outR, hA, hB, hm.2, wantL, rising_cast]
 refine cl_fn (pr52 · _ _) fn52 2 rfl (by decide) (fun tm hl hg => ?_); have h0 : tg tm 0 = clPV c F := (hg 0 (by decide)); have h1 : tg tm 1 = P := (hg 1 (by decide)); clear hg
 refine go (bw3 hl h0 h1) fnil ?_
 refine wp_for [6, 5] (fun i vs s => vs = [iv i, iv (troubleT c p i)] ∧ i ≤ 6 ∧ Fr (st.heap.length + 1) (({ heap := st.heap, lo := st.heap.length } : St).push (.var [iv c.room, iv c.depth, F])) s) (fun i => 6 - i) ⟨by simp only [↓reduceIte, go_sem, hl]; rfl, Nat.zero_le _, .refl _ _⟩ ?_
 rintro i tm1 s1 ⟨hv, hi, hFr⟩ hS
 simp only [List.map_cons, List.map_nil, List.cons.injEq, and_true] at hv
 obtain ⟨hv6, hv5⟩ := hv
 have hl1 : tm1.length = 36 := (by rw [hS.1]; simp only [put_len, hl]); have i1 : tg tm1 1 = P := (by rw [hS.2 1 (by decide)]; simp only [↓reduceIte, go_sem, hl, h1]); have i2 : tg tm1 2 = .ptr st.heap.length 0 := (by rw [hS.2 2 (by decide)]; simp only [↓reduceIte, go_sem, hl, h1]); clear hS
 have b2 : hp s1 st.heap.length = some (.var [iv c.room, iv c.depth, F]) := (hFr.old _ (by omega)).trans (by simp only [↓reduceIte, go_sem])
 have m2 := hp_lt b2
 have w1 := hFr.len
 have w2 := hFr.lo
 have w3 := hFr.up
 simp only [lo_push, len_push] at w1 w2 w3
 refine go (bw hl1 hv6) fnil ?_
 refine ⟨decide ((i : Int) < 6), by simp only [↓reduceIte, go_sem, hl1], fun hb => ?_, fun hb1 => ?_⟩
 ·have hlt := of_decide_eq_false hb
  obtain rfl : i = 6 := by omega
  have e6 : troubleL c p = troubleT c p 6 := rfl
  rw [e6]
  refine go (bw hl1 hv5) fnil ?_
  refine fnq_flat (results_one (by rw [rdRes_tmp]; simp only [↓reduceIte, go_sem, hl1]; first | done | rfl)) (by first | exact Nat.le_refl _ | omega | (simp only [lo_push, lo_setVar]; omega)) (by rfl)
 have hlt : i < 6 := by have := of_decide_eq_true hb1; omega
 have hw1 : IntKind.wrap .i64 ((i : Int) + 1) = ((i + 1 : Nat) : Int) := wrap_nat (n := i + 1) (by omega)
 refine ⟨by omega, ?_⟩
 refine go (bw10 hl1 hv6 i1 i2 b2 (neL m2) (neA m2) (ltL m2) (ltA m2) m2) fnil ?_
 refine wopsD_callS (by first | omega | (simp only [lo_push, lo_setVar, len_push, len_setVar]; omega)) rfl rfl (by simp only [↓reduceIte, go_sem, hl1]; first | done | rfl) (fun st1 he => by simp only [↓reduceIte, go_sem, hl1]; exact c94 c F i hF (by omega) _) ?_
 intro v s2 hR
 have x1 := hR.lo
 have x2 := hR.len
 have hwl : (wantL c i).length ≤ c.figs.length := castL_len _ _
 refine wopsD_callR (by simp only [↓reduceIte, go_sem, hl1]; first | done | rfl) (by with_reducible rfl) (by simp only [↓reduceIte, go_sem, hl1]; first | done | rfl) (by simp only [↓reduceIte, go_sem, hl1]; exact r44 c F P v p (wantL c i) hF hP (slI hR) (by omega) _) ?_
 rintro w s3 ⟨V, rfl, hV, hK⟩ ft
 rw [e] at hV ⊢
 have y1 := hK.2
 have y2 := hK.len
 simp only at y1 y2
 have hVs := hV.slen
 have hol : (outL p (wantL c i)).length ≤ p.length := castL_len _ _
 have d3 : decide (((outL p (wantL c i)).length : Int) > p.length) = false := by rw [decide_eq_false_iff_not]; omega
 have hsu := troubleT_succ c p i
 have hbd := troubleT_bound c p (i + 1)
 have hbd' : troubleT c p (i + 1) ≤ 6 * p.length := Int.le_trans hbd.2 (Int.mul_le_mul_of_nonneg_right (by omega) (by omega))
 have hw : IntKind.wrap .i64 (troubleT c p i + (outL p (wantL c i)).length) = troubleT c p (i + 1) := by rw [hsu] at hbd hbd' ⊢; exact wrap_in (by unfold inI; omega)
 have hnew : Fr (st.heap.length + 1) (({ heap := st.heap, lo := st.heap.length } : St).push (.var [iv c.room, iv c.depth, F])) ({ s3 with lo := min s2.lo s3.lo } : St) := by
  refine ⟨by simp only [len_push]; omega, by simp only [lo_push]; omega, fun l hl => ?_, by simp only [lo_push]; omega⟩
  have hx : hp s3 l = hp s2 l := hK.1.2 l (by show l < s2.heap.length; omega)
  have hy : hp s2 l = hp s1 l := hR.w.hext.2 l (by omega)
  show hp s3 l = _
  rw [hx, hy]
  exact hFr.old l hl
 refine go (bw8 hl1 i1 hv5 hPs hVs zs d3 hw) fnil ?_
 refine go (bw10 hl1 i1 hv6 hv5 hPs hVs zs d3 hw hw1) fnil ?_
 exact ⟨by simp only [↓reduceIte, go_sem, hl1], by omega, hnew⟩
end Go.Den.Ch
end
section
namespace Go.Den.Ch
set_option maxHeartbeats 32000000 in
theorem c11 (c : CL) (F P : PV) (p : List Int) (hF : SlOf 3 encF F c.figs) (hP : SlOf 1 encI P p) (st : St) : Cl EE (.func 11 [] []) [clPV c F, P] st (.ret (.bool true)) st := by
 have hFc := hF.cells
 have hFi := hF.isCell
 have hFs := hF.slen
 have hPc := hP.cells
 have hPs := hP.slen
 refine cl_fn (pr11 · _ _) fn11 2 rfl (by decide) (fun tm hl hg => ?_); have h0 : tg tm 0 = clPV c F := (hg 0 (by decide)); have h1 : tg tm 1 = P := (hg 1 (by decide)); clear hg
 have k24 := c24 c F hF
 cases hA : listB c
 ·refine go (bw4 hl h0 h1 hA) (bw3 k24 c26 fnil) ?_
  refine fnq_flat (results_one (by rw [rdRes_tmp]; simp only [↓reduceIte, go_sem, hl]; first | done | rfl)) (by first | exact Nat.le_refl _ | omega | (simp only [lo_push, lo_setVar]; omega)) (by rfl)
 have hc := OkL.of hA
 have hlen := hc.len
 cases d1 : decide ((p.length : Int) > 8)
 case true =>
  refine go (bw6 hl h0 h1 hA hPs d1) (bw3 k24 c26 fnil) ?_
  refine fnq_flat (results_one (by rw [rdRes_tmp]; simp only [↓reduceIte, go_sem, hl]; first | done | rfl)) (by first | exact Nat.le_refl _ | omega | (simp only [lo_push, lo_setVar]; omega)) (by rfl)
 have hp8 : p.length ≤ 8 := by have := of_decide_eq_false d1; omega
 have k25 := c25 c F P p hF hP (by omega) ⟨hc.d0, hc.d1⟩
 cases hB : packB c p
 ·refine go (bw7 hl h0 h1 hA hPs d1 hB) (bw4 k24 k25 c26 fnil) ?_
  refine fnq_flat (results_one (by rw [rdRes_tmp]; simp only [↓reduceIte, go_sem, hl]; first | done | rfl)) (by first | exact Nat.le_refl _ | omega | (simp only [lo_push, lo_setVar]; omega)) (by rfl)
 have k37 := c37 c F P p hF hP hA (by omega)
 refine go (bw7 hl h0 h1 hA hPs d1 hB) (bw3 k24 k25 fnil) ?_
 refine wops_callR rfl rfl (by simp only [↓reduceIte, go_sem, hl]; first | done | rfl) (by simp only [↓reduceIte, go_sem, hl]; exact r49 c F hF _) ?_
 rintro v S1 ⟨B, rfl, hBs, hK⟩
 have q1 := hK.2
 have q2 := hK.len
 try simp only [lo_push, len_push] at q1 q2
 have b1 := hK.hp (l := st.heap.length) (o := .var [iv c.room, iv c.depth, F]) (by simp only [↓reduceIte, go_sem])
 have m1 := hp_lt b1
 cases hb : bestF (ltTr c) (rightsL c) with
 | none =>
  have hX0 := best_none hb
  have e : easeR c = ([], 0, 5) := by simp [easeR, hA, hb]
  have hi : fitsB c p = false := by
   cases h : fitsB c p with
   | false => rfl
   | true => rw [fits_mem, hX0] at h; cases h
  simp only [e] at hBs ⊢
  refine go (bw11 hl h0 h1 b1 (neL m1) (neA m1) (ltL m1) (ltA m1) m1 zs hi) (bw3 k37 c26 fnil) ?_
  refine fnq_flat (results_one (by rw [rdRes_tmp]; simp only [↓reduceIte, go_sem, hl]; first | done | rfl)) (by first | exact Nat.le_refl _ | omega | (simp only [lo_push, lo_setVar]; omega)) (by rfl)
 | some b =>
  have hm := best_law (m := troubleL c) (rights_sorted c) hb
  have e : easeR c = (b, troubleL c b, 0) := by simp [easeR, hA, hb]
  have hbr := (mem_rights.1 hm.1).1
  have hbf : fitsB c b = true := fits_mem.2 hm.1
  have hbl := hbr.len
  simp only [e] at hBs ⊢
  have k37b := c37 c F B b hF hBs hA (by omega)
  have k52b := c52 c F B b hF hBs hA hbf
  have k38 := c38 P B p b hP hBs (by omega)
  cases hi : fitsB c p
  ·refine go (bw13 hl h0 h1 b1 (neL m1) (neA m1) (ltL m1) (ltA m1) m1 zs hi hbf nne) (bw5 k37 k37b k52b c26 fnil) ?_
   refine fnq_flat (results_one (by rw [rdRes_tmp]; simp only [↓reduceIte, go_sem, hl]; first | done | rfl)) (by first | exact Nat.le_refl _ | omega | (simp only [lo_push, lo_setVar]; omega)) (by rfl)
  ·have h2 := hm.2 p (fits_mem.1 hi)
   have k52 := c52 c F P p hF hP hA hi
   cases dk : decide (troubleL c p > troubleL c b)
   ·have := of_decide_eq_false dk
    have hk : troubleL c p = troubleL c b := by omega
    have hq := h2.2 hk
    have he2 : (troubleL c p == troubleL c b) = true := by rw [hk]; simp
    refine go (bw16 hl h0 h1 b1 (neL m1) (neA m1) (ltL m1) (ltA m1) m1 zs hi hbf nne dk he2 hq) (bw7 k37 k37b k52b k52 k38 c26 fnil) ?_
    refine fnq_flat (results_one (by rw [rdRes_tmp]; simp only [↓reduceIte, go_sem, hl]; first | done | rfl)) (by first | exact Nat.le_refl _ | omega | (simp only [lo_push, lo_setVar]; omega)) (by rfl)
   ·refine go (bw14 hl h0 h1 b1 (neL m1) (neA m1) (ltL m1) (ltA m1) m1 zs hi hbf nne dk) (bw6 k37 k37b k52b k52 c26 fnil) ?_
    refine fnq_flat (results_one (by rw [rdRes_tmp]; simp only [↓reduceIte, go_sem, hl]; first | done | rfl)) (by first | exact Nat.le_refl _ | omega | (simp only [lo_push, lo_setVar]; omega)) (by rfl)
end Go.Den.Ch
end

/- Part of the proof that for every input the function ChestAbove returns true and each argument reads as it did. Texts: ChAb. -/
import Derived.Test.YtoeigapilcgelaaGreatDoorK1Br
set_option linter.unusedSimpArgs false
set_option linter.unusedVariables false
section
namespace Go.Den.Ch
theorem fold_max {g : Int → Int} : ∀ (fs : List Int) (a x : Int), x < fs.foldl (fun n k => max n (g k)) a ↔ x < a ∨ ∃ f ∈ fs, x < g f
 | [], a, x => by simp
 | f :: fs, a, x => by
  rw [List.foldl_cons, fold_max fs]
  simp only [List.mem_cons, exists_eq_or_imp]
  constructor
  ·rintro (h | h)
   ·by_cases h1 : x < a
    ·exact .inl h1
    ·exact .inr (.inl (by omega))
   ·exact .inr (.inr h)
  ·rintro (h | h | h)
   ·exact .inl (by omega)
   ·exact .inl (by omega)
   ·exact .inr h
theorem lowest_lt {p fs : List Int} {x : Int} : x < lowestL p fs ↔ x < -1 ∨ ∃ f ∈ fs, x < p.getD f.toNat 0 := fold_max (g := fun f => p.getD f.toNat 0) fs (-1) x
theorem hasI_out {p fs : List Int} {i : Nat} (hi : i < p.length) : hasI (outL p fs) i = outP p fs i := by
 rw [Bool.eq_iff_iff, hasI_iff, outL, mem_cast]
 exact ⟨fun h => h.2, fun h => ⟨hi, h⟩⟩
def aboveT (p fs : List Int) (i k : Nat) : Bool := (fs.take k).any fun f => decide (p.getD i 0 < p.getD f.toNat 0)
theorem aboveT_succ {p fs : List Int} {i k : Nat} (hk : k < fs.length) : aboveT p fs i (k + 1) = (aboveT p fs i k || decide (p.getD i 0 < p.getD fs[k].toNat 0)) := by
 unfold aboveT
 rw [List.take_succ_eq_append_getElem hk, List.any_append]
 simp
theorem above_out {c : CL} {p fs : List Int} {i : Nat} (hp : OkP c p) (hi : i < p.length) : (aboveT p fs i fs.length && !hasI fs i) = outP p fs i := by
 have h0 := hp.rng _ (List.getElem_mem hi)
 have : aboveT p fs i fs.length = decide (p.getD i 0 < lowestL p fs) := by
  rw [Bool.eq_iff_iff, decide_eq_true_eq, lowest_lt, aboveT, List.take_length, List.any_eq_true, getD_in hi]
  constructor
  ·rintro ⟨f, hf, h⟩
   exact .inr ⟨f, hf, by simpa using h⟩
  ·rintro (h | ⟨f, hf, h⟩)
   ·omega
   ·exact ⟨f, hf, by simpa using h⟩
 rw [this]; rfl
def lateT (c : CL) (fs : List Int) (n : Nat) : Int := (List.range n).foldl (fun m (k : Nat) => if hasI fs k then max m (figAt c k).eve else m) 0
theorem lateT_succ (c : CL) (fs : List Int) (n : Nat) : lateT c fs (n + 1) = if hasI fs n then max (lateT c fs n) (figAt c n).eve else lateT c fs n := by
 rw [lateT, List.range_succ, List.foldl_append]; rfl
theorem lateT_ge {c : CL} {fs : List Int} : ∀ (n k : Nat), k < n → hasI fs k = true → (figAt c k).eve ≤ lateT c fs n
 | n + 1, k, hk, h => by
  rw [lateT_succ]
  by_cases hkn : k = n
  ·subst hkn
   rw [if_pos h]; omega
  ·have := lateT_ge (c := c) n k (by omega) h
   split <;> omega
theorem figAt_get {c : CL} {k : Nat} (hk : k < c.figs.length) : figAt c k = c.figs[k] := by
 unfold figAt
 rw [Int.toNat_natCast, List.getD_eq_getElem?_getD, List.getElem?_eq_getElem hk]; rfl
theorem late_law {c : CL} {p fs : List Int} {i : Nat} (hp : OkP c p) (hf : OkF p.length fs) (hd : NoDis c p 1) (hi : i < p.length) (h : outP p fs i = true) : (figAt c i).eve ≤ lateT c fs p.length := by
 have h0 := hp.rng _ (List.getElem_mem hi)
 simp only [outP, Bool.and_eq_true, decide_eq_true_eq, lowest_lt, getD_in hi] at h
 rcases h.1 with h1 | ⟨f, hfm, h1⟩
 ·omega
 ·have hr := hf f hfm
  obtain ⟨k, rfl⟩ : ∃ k : Nat, f = k := ⟨f.toNat, by omega⟩
  have hk : k < p.length := by omega
  rw [Int.toNat_natCast, getD_in hk] at h1
  have hl := hp.len
  have hif : i < c.figs.length := by omega
  have hkf : k < c.figs.length := by omega
  have hn := hd i k p[i] p[k] c.figs[i] c.figs[k] (List.getElem?_eq_getElem hi) (List.getElem?_eq_getElem hk) (List.getElem?_eq_getElem hif) (List.getElem?_eq_getElem hkf) h1
  simp only [key, Nat.one_ne_zero, if_false] at hn
  have := lateT_ge (c := c) p.length k hk (hasI_iff.2 hfm)
  rw [figAt_get hif]
  rw [figAt_get hkf] at this
  omega
def bothP (p fs : List Int) (i : Nat) : Bool := outP p fs i || hasI fs i
def bothT (p fs : List Int) (n : Nat) : List Int := castL ((List.range n).filter (bothP p fs))
theorem out_both {c : CL} {p fs : List Int} (hp : OkP c p) (hf : OkF p.length fs) : outL p (bothT p fs p.length) = [] := by
 unfold outL
 have : (List.range p.length).filter (outP p (bothT p fs p.length)) = [] := by
  rw [List.filter_eq_nil_iff]
  intro i hi h
  rw [List.mem_range] at hi
  have h0 := hp.rng _ (List.getElem_mem hi)
  simp only [outP, Bool.and_eq_true, decide_eq_true_eq, lowest_lt, getD_in hi, Bool.not_eq_true'] at h
  obtain ⟨h1, h2⟩ := h
  have hnb : ¬ bothP p fs i = true := fun hb => by
   have := hasI_iff.2 (mem_cast.2 ⟨hi, hb⟩)
   have h2' : hasI (castL ((List.range p.length).filter (bothP p fs))) i = false := h2
   rw [h2'] at this; cases this
  have hlow : p[i] < lowestL p fs := by
   rcases h1 with h1 | ⟨g, hg, h1⟩
   ·omega
   ·obtain ⟨k, hk, rfl⟩ := mem_castL hg
    rw [List.mem_filter, List.mem_range] at hk
    rw [Int.toNat_natCast, getD_in hk.1] at h1
    simp only [bothP, Bool.or_eq_true] at hk
    rcases hk.2 with h3 | h3
    ·simp only [outP, Bool.and_eq_true, decide_eq_true_eq, getD_in hk.1] at h3
     omega
    ·exact lowest_lt.2 (.inr ⟨k, hasI_iff.1 h3, by rw [Int.toNat_natCast, getD_in hk.1]; exact h1⟩)
  refine hnb ?_
  unfold bothP outP
  rw [getD_in hi]
  simp only [hlow, decide_true, Bool.true_and]
  cases hasI fs i <;> rfl
 rw [this]; rfl
theorem outL_mem {p fs : List Int} {x : Int} (h : x ∈ outL p fs) : ∃ i : Nat, x = i ∧ i < p.length ∧ outP p fs i = true := by
 obtain ⟨i, hi, rfl⟩ := mem_castL h
 rw [List.mem_filter, List.mem_range] at hi
 exact ⟨i, rfl, hi⟩
set_option maxHeartbeats 32000000 in
theorem c9 (c : CL) (F P G : PV) (p fs : List Int) (hF : SlOf 3 encF F c.figs) (hP : SlOf 1 encI P p) (hG : SlOf 1 encI G fs) (st : St) : Cl EE (.func 9 [] []) [clPV c F, P, G] st (.ret (.bool true)) st := by
 have hFc := hF.cells
 have hFi := hF.isCell
 have hFs := hF.slen
 have hPc := hP.cells
 have hPs := hP.slen
 have hGs := hG.slen
 refine cl_fn (pr9 · _ _) fn9 3 rfl (by decide) (fun tm hl hg => ?_); have h0 : tg tm 0 = clPV c F := (hg 0 (by decide)); have h1 : tg tm 1 = P := (hg 1 (by decide)); have h2 : tg tm 2 = G := (hg 2 (by decide)); clear hg
 have k24 := c24 c F hF
 cases hA : listB c
 ·refine go (bw5 hl h0 h1 h2 hA) (bw3 k24 c26 fnil) ?_
  refine fnq_flat (results_one (by rw [rdRes_tmp]; simp only [↓reduceIte, go_sem, hl]; first | done | rfl)) (by first | exact Nat.le_refl _ | omega | (simp only [lo_push, lo_setVar]; omega)) (by rfl)
 have hc := OkL.of hA
 have hlen := hc.len
 cases d1 : decide ((p.length : Int) > 8)
 case true =>
  refine go (bw7 hl h0 h1 h2 hA hPs d1) (bw3 k24 c26 fnil) ?_
  refine fnq_flat (results_one (by rw [rdRes_tmp]; simp only [↓reduceIte, go_sem, hl]; first | done | rfl)) (by first | exact Nat.le_refl _ | omega | (simp only [lo_push, lo_setVar]; omega)) (by rfl)
 have hp8 : p.length ≤ 8 := by have := of_decide_eq_false d1; omega
 cases d2 : decide ((fs.length : Int) > 8)
 case true =>
  refine go (bw9 hl h0 h1 h2 hA hPs d1 hGs d2) (bw3 k24 c26 fnil) ?_
  refine fnq_flat (results_one (by rw [rdRes_tmp]; simp only [↓reduceIte, go_sem, hl]; first | done | rfl)) (by first | exact Nat.le_refl _ | omega | (simp only [lo_push, lo_setVar]; omega)) (by rfl)
 have hg8 : fs.length ≤ 8 := by have := of_decide_eq_false d2; omega
 have k25 := c25 c F P p hF hP (by omega) ⟨hc.d0, hc.d1⟩
 cases hB : packB c p
 ·refine go (bw10 hl h0 h1 h2 hA hPs d1 hGs d2 hB) (bw4 k24 k25 c26 fnil) ?_
  refine fnq_flat (results_one (by rw [rdRes_tmp]; simp only [↓reduceIte, go_sem, hl]; first | done | rfl)) (by first | exact Nat.le_refl _ | omega | (simp only [lo_push, lo_setVar]; omega)) (by rfl)
 have hp0 := OkP.of hB
 have hpl := hp0.len
 have k45 := c45 c F G fs hF hG (by omega) (by omega)
 cases hR : risingB c.figs.length fs
 ·refine go (bw11 hl h0 h1 h2 hA hPs d1 hGs d2 hB hR) (bw5 k24 k25 k45 c26 fnil) ?_
  refine fnq_flat (results_one (by rw [rdRes_tmp]; simp only [↓reduceIte, go_sem, hl]; first | done | rfl)) (by first | exact Nat.le_refl _ | omega | (simp only [lo_push, lo_setVar]; omega)) (by rfl)
 have k37 := c37 c F P p hF hP hA (by omega)
 cases hi : fitsB c p
 ·refine go (bw12 hl h0 h1 h2 hA hPs d1 hGs d2 hB hR hi) (bw6 k24 k25 k45 k37 c26 fnil) ?_
  refine fnq_flat (results_one (by rw [rdRes_tmp]; simp only [↓reduceIte, go_sem, hl]; first | done | rfl)) (by first | exact Nat.le_refl _ | omega | (simp only [lo_push, lo_setVar]; omega)) (by rfl)
 have hfn := (mem_rights.1 (fits_mem.1 hi)).2
 have hnd := (fault_none hc hfn).2.2.2
 have hfs : OkF p.length fs := by rw [hpl]; exact risingB_ok hR
 have e : ∀ gs, risingB c.figs.length gs = true → outR c p gs = (outL p gs, 0) := fun gs h => by simp [outR, hA, hB, h, hfn]
 refine go (bw12 hl h0 h1 h2 hA hPs d1 hGs d2 hB hR hi) (bw5 k24 k25 k45 k37 fnil) ?_
 refine wops_callR rfl rfl (by simp only [↓reduceIte, go_sem, hl]; first | done | rfl) (by simp only [↓reduceIte, go_sem, hl]; exact r44 c F P G p fs hF hP hG (by omega) _) ?_
 rintro v S1 ⟨V, rfl, hV, hK⟩
 rw [e fs hR] at hV ⊢
 have q1 := hK.2
 have q2 := hK.len
 try simp only [lo_push, len_push] at q1 q2
 have b1 := hK.hp (l := st.heap.length) (o := .var [iv c.room, iv c.depth, F]) (by simp only [↓reduceIte, go_sem])
 have m1 := hp_lt b1
 have hVs := hV.slen
 have hol : (outL p fs).length ≤ p.length := castL_len _ _
 have d3 : decide (((outL p fs).length : Int) > p.length) = false := by rw [decide_eq_false_iff_not]; omega
 have hR1 : risingB c.figs.length (outL p fs) = true := by rw [← hpl]; exact rising_cast _ _
 have k45b := c45 c F V (outL p fs) hF hV (by omega) (by omega)
 rw [hR1] at k45b
 have k48 := fun x => c48 G fs x hG (by omega)
 have k48b := fun x => c48 V (outL p fs) x hV (by omega)
 refine go (bw12 hl h1 b1 (neL m1) (neA m1) (ltL m1) (ltA m1) m1 zs hVs hPs d3) (bw k45b fnil) ?_
 refine wp_for [11, 10, 9] (fun i vs s => ∃ v, vs = [iv i, iv (lateT c fs i), v] ∧ i ≤ p.length ∧ OwnS S1.heap.length s 1 v (bothT p fs i).length ((bothT p fs i).flatMap encI) ∧ Fr S1.heap.length S1 s) (fun i => p.length - i) ⟨_, by simp only [↓reduceIte, go_sem, hl]; first | done | rfl, Nat.zero_le _, .nil, .refl _ _⟩ ?_
 rintro i tm1 s1 ⟨v, hv, hi1, hO, hFr⟩ hS
 simp only [List.map_cons, List.map_nil, List.cons.injEq, and_true] at hv
 obtain ⟨hv11, hv10, hv9⟩ := hv
 have hl1 : tm1.length = 166 := (by rw [hS.1]; simp only [put_len, hl]); have i1 : tg tm1 1 = P := (by rw [hS.2 1 (by decide)]; simp only [↓reduceIte, go_sem, hl, h1, h2]); have i2 : tg tm1 2 = G := (by rw [hS.2 2 (by decide)]; simp only [↓reduceIte, go_sem, hl, h1, h2]); have i3 : tg tm1 3 = .ptr st.heap.length 0 := (by rw [hS.2 3 (by decide)]; simp only [↓reduceIte, go_sem, hl, h1, h2]); have i7 : tg tm1 7 = V := (by rw [hS.2 7 (by decide)]; simp only [↓reduceIte, go_sem, hl, h1, h2]); clear hS
 have b2 : hp s1 st.heap.length = some (.var [iv c.room, iv c.depth, F]) := (hFr.old _ m1).trans b1
 have m2 := hp_lt b2
 have w1 := hFr.len
 have w2 := hFr.lo
 have w3 := hFr.up
 refine go (bw4 hl1 hv11 i1 hPs) fnil ?_
 refine ⟨decide ((i : Int) < p.length), by simp only [↓reduceIte, go_sem, hl1], fun hb => ?_, fun hb1 => ?_⟩
 rotate_left
 ·have hlt : i < p.length := by have := of_decide_eq_true hb1; omega
  have hif : i < c.figs.length := by omega
  have hw1 : IntKind.wrap .i64 ((i : Int) + 1) = ((i + 1 : Nat) : Int) := wrap_nat (n := i + 1) (by omega)
  refine ⟨by omega, ?_⟩
  refine go hl1 fnil ?_
  refine wp_for [13, 12] (fun k vs s => vs = [iv k, .bool (aboveT p fs i k)] ∧ k ≤ fs.length ∧ s = s1) (fun k => fs.length - k) ⟨by simp only [↓reduceIte, go_sem, hl1]; first | done | rfl, Nat.zero_le _, rfl⟩ ?_
  rintro k tm2 s2 ⟨hv, hk1, rfl⟩ hS
  simp only [List.map_cons, List.map_nil, List.cons.injEq, and_true] at hv
  obtain ⟨hv13, hv12⟩ := hv
  have hl2 : tm2.length = 166 := (by rw [hS.1]; simp only [put_len, hl1]); have j1 : tg tm2 1 = P := (by rw [hS.2 1 (by decide)]; simp only [↓reduceIte, go_sem, hl1, i1, i2, i3, i7, hv9, hv10, hv11]); have j2 : tg tm2 2 = G := (by rw [hS.2 2 (by decide)]; simp only [↓reduceIte, go_sem, hl1, i1, i2, i3, i7, hv9, hv10, hv11]); have j3 : tg tm2 3 = .ptr st.heap.length 0 := (by rw [hS.2 3 (by decide)]; simp only [↓reduceIte, go_sem, hl1, i1, i2, i3, i7, hv9, hv10, hv11]); have j7 : tg tm2 7 = V := (by rw [hS.2 7 (by decide)]; simp only [↓reduceIte, go_sem, hl1, i1, i2, i3, i7, hv9, hv10, hv11]); have j9 : tg tm2 9 = v := (by rw [hS.2 9 (by decide)]; simp only [↓reduceIte, go_sem, hl1, i1, i2, i3, i7, hv9, hv10, hv11]); have j10 : tg tm2 10 = iv (lateT c fs i) := (by rw [hS.2 10 (by decide)]; simp only [↓reduceIte, go_sem, hl1, i1, i2, i3, i7, hv9, hv10, hv11]); have j11 : tg tm2 11 = iv i := (by rw [hS.2 11 (by decide)]; simp only [↓reduceIte, go_sem, hl1, i1, i2, i3, i7, hv9, hv10, hv11]); clear hS
  refine go (bw4 hl2 hv13 j2 hGs) fnil ?_
  refine ⟨decide ((k : Int) < fs.length), by simp only [↓reduceIte, go_sem, hl2], fun hb => ?_, fun hb2 => ?_⟩
  rotate_left
  ·have hkl : k < fs.length := by have := of_decide_eq_true hb2; omega
   have hw2 : IntKind.wrap .i64 ((k : Int) + 1) = ((k + 1 : Nat) : Int) := wrap_nat (n := k + 1) (by omega)
   have hr := hfs _ (List.getElem_mem hkl)
   have hsu := aboveT_succ (p := p) (i := i) hkl
   refine ⟨by omega, ?_⟩
   cases hab : aboveT p fs i k
   ·rw [hab, Bool.false_or, getD_in hlt, getD_in (show fs[k].toNat < p.length by omega)] at hsu
    rw [hab] at hv12
    refine go (bw7 hl2 hv13 hv12 j1 j2 j11 hw2) fnil ?_
    exact ⟨by simp only [↓reduceIte, go_sem, hl2, hsu], by omega, rfl⟩
   ·rw [hab, Bool.true_or] at hsu
    rw [hab] at hv12
    refine go (bw7 hl2 hv13 hv12 j1 j2 j11 hw2) fnil ?_
    exact ⟨by simp only [↓reduceIte, go_sem, hl2, hsu], by omega, rfl⟩
  have hkl := of_decide_eq_false hb
  obtain rfl : k = fs.length := by omega
  have hao := above_out (fs := fs) hp0 hlt
  have hho := hasI_out (p := p) (fs := fs) hlt
  have hls := lateT_succ c fs i
  have hbs : bothT p fs (i + 1) = bothT p fs i ++ (if bothP p fs i then [(i : Int)] else []) := castL_succ _ _
  have hbl : (bothT p fs i).length ≤ i := castL_len _ _
  have hfe : (figAt c i).eve = c.figs[i].eve := by rw [figAt_get hif]
  rw [hfe] at hls
  have hfin : ∀ (b : Bool), outP p fs i = b → ∀ (g : Bool), hasI fs i = g → bothP p fs i = (b || g) := fun b h1 g h2 => by unfold bothP; rw [h1, h2]
  cases hab : aboveT p fs i fs.length
  ·rw [hab, Bool.false_and] at hao
   replace hao := hao.symm
   rw [hab] at hv12
   cases hg : hasI fs (i : Int)
   ·have hbp := hfin false hao false hg
    rw [hbp] at hbs
    rw [hg] at hls
    simp only [Bool.or_self, Bool.false_eq_true, if_false, List.append_nil] at hbs hls
    refine go (bw13 hl2 hv12 j1 j2 j7 j11 j10 j9 zs hho hao hg hw1) (bw3 k48 k48b fnil) ?_
    exact ⟨v, by simp only [↓reduceIte, go_sem, hl2, hls, j9, j10], by omega, by rw [hbs]; exact hO, hFr⟩
   ·have hbp := hfin false hao true hg
    rw [hbp] at hbs
    rw [hg] at hls
    simp only [Bool.false_or, if_true] at hbs hls
    refine go (bw21 hl2 hv12 j1 j2 j3 j7 j11 j10 j9 zs hho hao hg hw1 b2 (neL m2) (neA m2) (ltL m2) (ltA m2) m2 @mm2) (bw3 k48 k48b fnil) ?_
    refine wops_append rfl rfl (by simp only [↓reduceIte, go_sem, hl2, j9]; first | done | rfl) (by simp only [↓reduceIte, go_sem, hl2, j9]; first | done | rfl) (hO.push) rfl (by first | omega | (simp only [len_push, len_setVar]; omega)) (by rfl) (by rfl) (by simp only [maxList]; omega) ?_
    intro v' s3 hO' hFr' hk'
    refine go (bw3 hl2 j11 hw1) fnil ?_
    exact ⟨v', by simp only [↓reduceIte, go_sem, hl2, hls], by omega, by rw [hbs]; simpa [share_int] using hO', (hFr.push (by omega)).trans hFr'⟩
  ·rw [hab, Bool.true_and] at hao
   rw [hab] at hv12
   cases hg : hasI fs (i : Int)
   ·rw [hg] at hao
    simp only [Bool.not_false] at hao
    replace hao := hao.symm
    have hbp := hfin true hao false hg
    rw [hbp] at hbs
    rw [hg] at hls
    simp only [Bool.or_false, Bool.false_eq_true, if_false, if_true] at hbs hls
    refine go (bw13 hl2 hv12 j1 j2 j7 j11 j10 j9 zs hho hao hg hw1) (bw3 k48 k48b fnil) ?_
    refine wops_append rfl rfl (by simp only [↓reduceIte, go_sem, hl2, j9]; first | done | rfl) (by simp only [↓reduceIte, go_sem, hl2, j9]; first | done | rfl) (hO.push) rfl (by first | omega | (simp only [len_push, len_setVar]; omega)) (by rfl) (by rfl) (by simp only [maxList]; omega) ?_
    intro v' s3 hO' hFr' hk'
    refine go (bw3 hl2 j11 hw1) fnil ?_
    exact ⟨v', by simp only [↓reduceIte, go_sem, hl2, hls, j10], by omega, by rw [hbs]; simpa [share_int] using hO', (hFr.push (by omega)).trans hFr'⟩
   ·rw [hg] at hao
    simp only [Bool.not_true] at hao
    replace hao := hao.symm
    have hbp := hfin false hao true hg
    rw [hbp] at hbs
    rw [hg] at hls
    simp only [Bool.false_or, if_true] at hbs hls
    refine go (bw21 hl2 hv12 j1 j2 j3 j7 j11 j10 j9 zs hho hao hg hw1 b2 (neL m2) (neA m2) (ltL m2) (ltA m2) m2 @mm2) (bw3 k48 k48b fnil) ?_
    refine wops_append rfl rfl (by simp only [↓reduceIte, go_sem, hl2, j9]; first | done | rfl) (by simp only [↓reduceIte, go_sem, hl2, j9]; first | done | rfl) (hO.push) rfl (by first | omega | (simp only [len_push, len_setVar]; omega)) (by rfl) (by rfl) (by simp only [maxList]; omega) ?_
    intro v' s3 hO' hFr' hk'
    refine go (bw3 hl2 j11 hw1) fnil ?_
    exact ⟨v', by simp only [↓reduceIte, go_sem, hl2, hls], by omega, by rw [hbs]; simpa [share_int] using hO', (hFr.push (by omega)).trans hFr'⟩
 have hlt := of_decide_eq_false hb
 obtain rfl : i = p.length := by omega
 clear hb hlt hi1
 refine go hl1 fnil ?_
 refine wp_for [14] (fun k vs s => vs = [iv k] ∧ k ≤ (outL p fs).length ∧ s = s1) (fun k => (outL p fs).length - k) ⟨by simp only [↓reduceIte, go_sem, hl1]; first | done | rfl, Nat.zero_le _, rfl⟩ ?_
 rintro k tm2 s2 ⟨hv, hk1, rfl⟩ hS
 simp only [List.map_cons, List.map_nil, List.cons.injEq, and_true] at hv
 have hl2 : tm2.length = 166 := (by rw [hS.1]; simp only [put_len, hl1]); have j1 : tg tm2 1 = P := (by rw [hS.2 1 (by decide)]; simp only [↓reduceIte, go_sem, hl1, i1, i3, i7, hv9, hv10]); have j3 : tg tm2 3 = .ptr st.heap.length 0 := (by rw [hS.2 3 (by decide)]; simp only [↓reduceIte, go_sem, hl1, i1, i3, i7, hv9, hv10]); have j7 : tg tm2 7 = V := (by rw [hS.2 7 (by decide)]; simp only [↓reduceIte, go_sem, hl1, i1, i3, i7, hv9, hv10]); have j9 : tg tm2 9 = v := (by rw [hS.2 9 (by decide)]; simp only [↓reduceIte, go_sem, hl1, i1, i3, i7, hv9, hv10]); have j10 : tg tm2 10 = iv (lateT c fs p.length) := (by rw [hS.2 10 (by decide)]; simp only [↓reduceIte, go_sem, hl1, i1, i3, i7, hv9, hv10]); clear hS
 refine go (bw4 hl2 hv j7 hVs) fnil ?_
 refine ⟨decide ((k : Int) < (outL p fs).length), by simp only [↓reduceIte, go_sem, hl2], fun hb => ?_, fun hb2 => ?_⟩
 rotate_left
 ·have hkl : k < (outL p fs).length := by have := of_decide_eq_true hb2; omega
  have hw2 : IntKind.wrap .i64 ((k : Int) + 1) = ((k + 1 : Nat) : Int) := wrap_nat (n := k + 1) (by omega)
  obtain ⟨x, hx, hxl, hxo⟩ := outL_mem (List.getElem_mem hkl)
  have hlate := late_law hp0 hfs hnd hxl hxo
  have hxf : x < c.figs.length := by omega
  rw [figAt_get hxf] at hlate
  have dl : decide (c.figs[x].eve > lateT c fs p.length) = false := by rw [decide_eq_false_iff_not]; omega
  refine ⟨by omega, ?_⟩
  refine go (bw14 hl2 hv j3 j7 j10 b2 (neL m2) (neA m2) (ltL m2) (ltA m2) m2 hx dl hw2) fnil ?_
  exact ⟨by simp only [↓reduceIte, go_sem, hl2], by omega, rfl⟩
 have hU : SlOf 1 encI v (bothT p fs p.length) := SlOf.of_sl hO.sl rfl rfl (fun _ => rfl)
 have hbl : (bothT p fs p.length).length ≤ p.length := castL_len _ _
 have hRb : risingB c.figs.length (bothT p fs p.length) = true := by rw [← hpl]; exact rising_cast _ _
 have eb := e _ hRb
 rw [out_both hp0 hfs] at eb
 refine go (bw10 hl2 j1 j3 j9 b2 (neL m2) (neA m2) (ltL m2) (ltA m2) m2) fnil ?_
 refine wops_callR rfl rfl (by simp only [↓reduceIte, go_sem, hl2, j1]; first | done | rfl) (by simp only [↓reduceIte, go_sem, hl2, j1]; exact r44 c F P v p (bothT p fs p.length) hF hP hU (by omega) _) ?_
 rintro w S3 ⟨Z, rfl, hZ, hK3⟩
 rw [eb] at hZ ⊢
 have hZs : Z.slen = some 0 := hZ.slen
 have zl : (((0 : Nat) : Int) == 0) = true := rfl
 have q3 := hK3.2
 have q4 := hK3.len
 refine go (bw4 hl2 zs zl hZs) (bw c26 fnil) ?_
 refine fnq_flat (results_one (by rw [rdRes_tmp]; simp only [↓reduceIte, go_sem, hl2]; first | done | rfl)) (by first | exact Nat.le_refl _ | omega | (simp only [lo_push, lo_setVar]; omega)) (by rfl)
end Go.Den.Ch
end

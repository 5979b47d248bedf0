/- Part of the proofs of laws of the package chest: contracts of the document's functions. Texts: ChMd. -/
import Derived.Test.YtoeigapilcgelaaGreatDoorK1Br
set_option linter.unusedSimpArgs false
set_option linter.unusedVariables false
section
namespace Go.Den.Ch
set_option maxHeartbeats 1000000 in
theorem c114 (c : CL) (F : PV) (hF : SlOf 3 encF F c.figs) (r : Int) (i a b : Nat) (hr : (r = 3 ∧ i = 0) ∨ (r = 4 ∧ i = 1)) (ha : a < c.figs.length) (hb : b < c.figs.length) (st : St) : Cl EE (.func 114 [] []) [clPV c F, iv r, iv a, iv b] st (.ret (.bool (decide (key i c.figs[a] > key i c.figs[b])))) st := by
 have hFc := hF.cells
 refine cl_fn (pr114 · _ _) fn114 4 rfl (by decide) (fun tm hl hg => ?_); have h0 : tg tm 0 = clPV c F := (hg 0 (by decide)); have h1 : tg tm 1 = iv r := (hg 1 (by decide)); have h2 : tg tm 2 = iv a := (hg 2 (by decide)); have h3 : tg tm 3 = iv b := (hg 3 (by decide)); clear hg
 rcases hr with ⟨rfl, rfl⟩ | ⟨rfl, rfl⟩
 ·have e : decide (key 0 c.figs[a] > key 0 c.figs[b]) = decide (c.figs[a].rank < c.figs[b].rank) := by
   rw [decide_eq_decide]; simp only [key, if_true]; omega
  have z : ((3 : Int) == 3) = true := rfl
  rw [e]
  refine go (bw6 hl h0 h1 h2 h3 undef_e) fnil ?_
  refine wopsD_set (v := undef) (l := st.heap.length + 1) (ob := .var [iv c.figs[a].size, iv c.figs[a].rank, iv c.figs[a].eve]) (by simp only [lo_push, len_push]; omega) (by simp only [len_push]; omega) rfl rfl (fun rec st3 he hh => by simp only [↓reduceIte, go_sem, hl, hh, he]) ?_
  refine wopsD_set (v := undef) (l := st.heap.length + 2) (ob := .var [iv c.figs[b].size, iv c.figs[b].rank, iv c.figs[b].eve]) (by simp only [lo_push, lo_setVar, len_push, len_setVar]; omega) (by simp only [len_push, len_setVar]; omega) rfl rfl (fun rec st3 he hh => by simp only [↓reduceIte, go_sem, hl, hh, he]) ?_
  apply wopsD_nil
  refine ⟨?_, ?_⟩
  ·simp only [footOk, List.all_cons, List.all_nil, List.getElem?_cons_zero, List.getElem?_cons_succ, Bool.and_true]
   simp only [footOf]
   simp only [↓reduceIte, go_sem, hl]
   have hq : ∀ l, clash l Foot.quiet = false := fun _ => rfl
   have hq1 : clash st.heap.length (.st (st.heap.length + 1)) = false := by simp [clash]
   have hq2 : clash st.heap.length (.st (st.heap.length + 2)) = false := by simp [clash]
   simp only [List.all_cons, List.all_nil, List.getElem?_cons_zero, List.getElem?_cons_succ, hq, hq1, hq2, Bool.not_false, Bool.and_self]
  ·refine go (bw3 hl h1 z) fnil ?_
   refine fnq_flat (results_one (by rw [rdRes_tmp]; simp only [↓reduceIte, go_sem, hl]; first | done | rfl)) (by simp only [lo_push, lo_setVar]; omega) (by rfl)
 ·have e : decide (key 1 c.figs[a] > key 1 c.figs[b]) = decide (c.figs[a].eve > c.figs[b].eve) := by
   rw [decide_eq_decide]; simp only [key, Nat.one_ne_zero, if_false]
  have z : ((4 : Int) == 3) = false := rfl
  rw [e]
  refine go (bw6 hl h0 h1 h2 h3 undef_e) fnil ?_
  refine wopsD_set (v := undef) (l := st.heap.length + 1) (ob := .var [iv c.figs[a].size, iv c.figs[a].rank, iv c.figs[a].eve]) (by simp only [lo_push, len_push]; omega) (by simp only [len_push]; omega) rfl rfl (fun rec st3 he hh => by simp only [↓reduceIte, go_sem, hl, hh, he]) ?_
  refine wopsD_set (v := undef) (l := st.heap.length + 2) (ob := .var [iv c.figs[b].size, iv c.figs[b].rank, iv c.figs[b].eve]) (by simp only [lo_push, lo_setVar, len_push, len_setVar]; omega) (by simp only [len_push, len_setVar]; omega) rfl rfl (fun rec st3 he hh => by simp only [↓reduceIte, go_sem, hl, hh, he]) ?_
  apply wopsD_nil
  refine ⟨?_, ?_⟩
  ·simp only [footOk, List.all_cons, List.all_nil, List.getElem?_cons_zero, List.getElem?_cons_succ, Bool.and_true]
   simp only [footOf]
   simp only [↓reduceIte, go_sem, hl]
   have hq : ∀ l, clash l Foot.quiet = false := fun _ => rfl
   have hq1 : clash st.heap.length (.st (st.heap.length + 1)) = false := by simp [clash]
   have hq2 : clash st.heap.length (.st (st.heap.length + 2)) = false := by simp [clash]
   simp only [List.all_cons, List.all_nil, List.getElem?_cons_zero, List.getElem?_cons_succ, hq, hq1, hq2, Bool.not_false, Bool.and_self]
  ·refine go (bw3 hl h1 z) fnil ?_
   refine fnq_flat (results_one (by rw [rdRes_tmp]; simp only [↓reduceIte, go_sem, hl]; first | done | rfl)) (by simp only [lo_push, lo_setVar]; omega) (by rfl)
theorem sum_pos {c : CL} (hc : OkL c) {p : List Int} {n : Int} (h : (layerL c.figs p n).sum = 0) : (layerL c.figs p n).length = 0 := by
 have he : layerL c.figs p n = [] := sum_zero (fun x hx => ((hc.layer p n).2 x hx).1) h
 rw [he]; rfl
set_option maxHeartbeats 8000000 in
theorem c68 (c : CL) (F P : PV) (p : List Int) (hF : SlOf 3 encF F c.figs) (hP : SlOf 1 encI P p) (hc : OkL c) (hp0 : OkP c p) (st : St) : Cl EE (.func 68 [] []) [clPV c F, P] st (.ret (.tuple [fltO (fault c p), .bool (fault c p).isSome])) st := by
 have hFc := hF.cells
 have hPs := hP.slen
 have hlen := hc.len
 have hpl := hp0.len
 obtain ⟨d, hd⟩ : ∃ d : Nat, c.depth = d := ⟨c.depth.toNat, by have := hc.d0; omega⟩
 have hd5 : d ≤ 5 := by have := hc.d1; omega
 have k28 := fun n => c28 c F P p n hF hP hc hpl
 refine cl_fn (pr68 · _ _) fn68 2 rfl (by decide) (fun tm hl hg => ?_); have h0 : tg tm 0 = clPV c F := (hg 0 (by decide)); have h1 : tg tm 1 = P := (hg 1 (by decide)); clear hg
 refine go (bw hl h0) fnil ?_
 refine wp_for [6] (fun i vs s => vs = [iv i] ∧ i ≤ d ∧ (∀ k : Nat, k < i → ¬ (layerL c.figs p k).sum > c.room) ∧ s = (({ heap := st.heap, lo := st.heap.length } : St).push (.var [iv c.room, iv c.depth, F])).push (.var [iv 0, iv 0, iv 0])) (fun i => d - i) ⟨by simp only [↓reduceIte, go_sem, hl]; first | done | rfl, Nat.zero_le _, (fun k hk => absurd hk (by omega)), by first | done | rfl⟩ ?_
 rintro i tm1 st1 ⟨hv, hi, hno, rfl⟩ hS
 simp only [List.map_cons, List.map_nil, List.cons.injEq, and_true] at hv
 have hl1 : tm1.length = 76 := (by rw [hS.1]; simp only [put_len, hl]); have i1 : tg tm1 1 = P := (by rw [hS.2 1 (by decide)]; simp only [↓reduceIte, go_sem, hl, h1]); have i2 : tg tm1 2 = .ptr st.heap.length 0 := (by rw [hS.2 2 (by decide)]; simp only [↓reduceIte, go_sem, hl, h1]); have i4 : tg tm1 4 = .ptr (st.heap.length + 1) 0 := (by rw [hS.2 4 (by decide)]; simp only [↓reduceIte, go_sem, hl, h1]); clear hS
 refine go (bw3 hl1 hv i2) fnil ?_
 refine ⟨decide ((i : Int) < c.depth), by simp only [↓reduceIte, go_sem, hl1], fun hb => ?_, fun hb1 => ?_⟩
 rotate_left
 ·have hlt : i < d := by have := of_decide_eq_true hb1; omega
  have hw1 : IntKind.wrap .i64 ((i : Int) + 1) = ((i + 1 : Nat) : Int) := wrap_nat (n := i + 1) (by omega)
  refine ⟨by omega, ?_⟩
  by_cases hf : (layerL c.figs p (i : Nat)).sum > c.room
  ·have hdd : decide ((layerL c.figs p (i : Nat)).sum > c.room) = true := by simp [hf]
   have hft : fault c p = some ⟨1, i, 0⟩ := by
    have : fullL c p = some ⟨1, i, 0⟩ := by
     refine range_some (by omega) (fun k hk => if_neg (hno k hk)) (if_pos hf)
    simp [fault, this]
   rw [hft]
   refine go (bw6 hl1 hv i1 i2 i4 hdd) (bw k28 fnil) ?_
   refine fnq_tuple (results_two (v := fltPV ⟨1, i, 0⟩) (u := .bool true) ?_ ?_) (by simp only [lo_push, lo_setVar]; omega) (by rfl)
   ·rw [rdRes_hp (l := st.heap.length + 1) (off := 0) (by simp only [↓reduceIte, go_sem, hl1, i4])]
    simp only [↓reduceIte, go_sem, hl1, i1, i2, i4]
   ·rw [rdRes_tmp]; simp only [↓reduceIte, go_sem, hl1]
  ·have hdd : decide ((layerL c.figs p (i : Nat)).sum > c.room) = false := by simp [hf]
   refine go (bw7 hl1 hv i1 i2 i4 hdd hw1) (bw k28 fnil) ?_
   refine ⟨by simp only [↓reduceIte, go_sem, hl1], by omega, fun k hk => ?_, rfl⟩
   by_cases hki : k = i
   ·subst hki; exact hf
   ·exact hno k (by omega)
 have hlt := of_decide_eq_false hb
 have hfull : fullL c p = none := range_none (fun k hk => if_neg (hno k (by omega)))
 obtain ⟨L, hL⟩ : ∃ L : Nat, layersL p = L := ⟨(layersL p).toNat, by have := layersL_nonneg p; omega⟩
 have hL5 : L ≤ 5 := by
  have := layersL_bound (p := p) (d := c.depth) hc.d0 (fun x hx => (hp0.rng x hx).2)
  omega
 have k29 := c29 P p hP (by omega) (layersL_small hc hp0)
 rw [hL] at k29
 clear hv hb hlt hno hi
 refine go hl1 fnil ?_
 refine wp_for [7] (fun i vs s => vs = [iv i] ∧ i ≤ L ∧ (∀ k : Nat, k < i → ¬ (layerL c.figs p k).length = 0) ∧ s = (({ heap := st.heap, lo := st.heap.length } : St).push (.var [iv c.room, iv c.depth, F])).push (.var [iv 0, iv 0, iv 0])) (fun i => L - i) ⟨by simp only [↓reduceIte, go_sem, hl1]; first | done | rfl, Nat.zero_le _, (fun k hk => absurd hk (by omega)), by first | done | rfl⟩ ?_
 rintro i tm2 st1 ⟨hv, hi, hno, rfl⟩ hS
 simp only [List.map_cons, List.map_nil, List.cons.injEq, and_true] at hv
 have hl2 : tm2.length = 76 := (by rw [hS.1]; simp only [put_len, hl1]); have j1 : tg tm2 1 = P := (by rw [hS.2 1 (by decide)]; simp only [↓reduceIte, go_sem, hl1, i1, i2, i4]); have j2 : tg tm2 2 = .ptr st.heap.length 0 := (by rw [hS.2 2 (by decide)]; simp only [↓reduceIte, go_sem, hl1, i1, i2, i4]); have j4 : tg tm2 4 = .ptr (st.heap.length + 1) 0 := (by rw [hS.2 4 (by decide)]; simp only [↓reduceIte, go_sem, hl1, i1, i2, i4]); clear hS
 clear hl i1 i2 i4 hl1 tm1 h0 h1 tm
 refine go (bw3 hl2 hv j1) (bw k29 fnil) ?_
 refine ⟨decide ((i : Int) < (L : Int)), by simp only [↓reduceIte, go_sem, hl2], fun hb => ?_, fun hb1 => ?_⟩
 rotate_left
 ·have hlt : i < L := by have := of_decide_eq_true hb1; omega
  have hw1 : IntKind.wrap .i64 ((i : Int) + 1) = ((i + 1 : Nat) : Int) := wrap_nat (n := i + 1) (by omega)
  refine ⟨by omega, ?_⟩
  by_cases hf : (layerL c.figs p (i : Nat)).sum = 0
  ·have hdd : ((layerL c.figs p (i : Nat)).sum == 0) = true := by simp [hf]
   have hft : fault c p = some ⟨2, i, 0⟩ := by
    have : gapL c p = some ⟨2, i, 0⟩ := by
     refine range_some (by omega) (fun k hk => if_neg (hno k hk)) (if_pos (sum_pos hc hf))
    simp [fault, hfull, this]
   rw [hft]
   refine go (bw6 hl2 hv j1 j2 j4 hdd) (bw k28 fnil) ?_
   refine fnq_tuple (results_two (v := fltPV ⟨2, i, 0⟩) (u := .bool true) ?_ ?_) (by simp only [lo_push, lo_setVar]; omega) (by rfl)
   ·rw [rdRes_hp (l := st.heap.length + 1) (off := 0) (by simp only [↓reduceIte, go_sem, hl2, j4])]
    simp only [↓reduceIte, go_sem, hl2, j1, j2, j4]
   ·rw [rdRes_tmp]; simp only [↓reduceIte, go_sem, hl2]
  ·have hdd : ((layerL c.figs p (i : Nat)).sum == 0) = false := by simp [hf]
   refine go (bw7 hl2 hv j1 j2 j4 hdd hw1) (bw k28 fnil) ?_
   refine ⟨by simp only [↓reduceIte, go_sem, hl2], by omega, fun k hk => ?_, rfl⟩
   by_cases hki : k = i
   ·subst hki
    intro h0
    rw [List.eq_nil_of_length_eq_zero h0] at hf
    exact hf rfl
   ·exact hno k (by omega)
 have hlt := of_decide_eq_false hb
 have hgap : gapL c p = none := range_none (fun k hk => if_neg (hno k (by omega)))
 clear hv hb hlt hno hi k29
 refine go hl2 fnil ?_
 refine wp_for [8] (fun i vs s => vs = [iv (3 + (i : Int))] ∧ i ≤ 2 ∧ (∀ k : Nat, k < i → disA c p k = none) ∧ s = (({ heap := st.heap, lo := st.heap.length } : St).push (.var [iv c.room, iv c.depth, F])).push (.var [iv 0, iv 0, iv 0])) (fun i => 2 - i) ⟨by simp only [↓reduceIte, go_sem, hl2]; first | done | rfl, Nat.zero_le _, (fun k hk => absurd hk (by omega)), by first | done | rfl⟩ ?_
 rintro i tm3 st1 ⟨hv, hi, hno, rfl⟩ hS
 simp only [List.map_cons, List.map_nil, List.cons.injEq, and_true] at hv
 have hl3 : tm3.length = 76 := (by rw [hS.1]; simp only [put_len, hl2]); have k1 : tg tm3 1 = P := (by rw [hS.2 1 (by decide)]; simp only [↓reduceIte, go_sem, hl2, j1, j2, j4]); have k2 : tg tm3 2 = .ptr st.heap.length 0 := (by rw [hS.2 2 (by decide)]; simp only [↓reduceIte, go_sem, hl2, j1, j2, j4]); have k4 : tg tm3 4 = .ptr (st.heap.length + 1) 0 := (by rw [hS.2 4 (by decide)]; simp only [↓reduceIte, go_sem, hl2, j1, j2, j4]); clear hS
 clear hl2 j1 j2 j4 tm2
 refine go (bw hl3 hv) fnil ?_
 refine ⟨decide (3 + (i : Int) ≤ 4), by simp only [↓reduceIte, go_sem, hl3], fun hb => ?_, fun hb1 => ?_⟩
 ·have hlt := of_decide_eq_false hb
  have hft : fault c p = none := by
   have : disorder c p = none := range_none (fun k hk => hno k (by omega))
   simp [fault, hfull, hgap, this]
  rw [hft]
  refine go (bw4 hl3 k1 k2 k4) fnil ?_
  refine fnq_tuple (results_two (v := zeroF) (u := .bool false) ?_ ?_) (by simp only [lo_push, lo_setVar]; omega) (by rfl)
  ·rw [rdRes_hp (l := st.heap.length + 1) (off := 0) (by simp only [↓reduceIte, go_sem, hl3, k4])]
   simp only [↓reduceIte, go_sem, hl3, k4]
   rfl
  ·rw [rdRes_tmp]; simp only [↓reduceIte, go_sem, hl3]
 have hi2 : i < 2 := by have := of_decide_eq_true hb1; omega
 have hw8 : IntKind.wrap .i64 (3 + (i : Int) + 1) = 3 + ((i + 1 : Nat) : Int) := by rw [wrap_in (by unfold inI; omega)]; omega
 refine ⟨by omega, ?_⟩
 refine go hl3 fnil ?_
 refine wp_for [9] (fun a vs s => vs = [iv a] ∧ a ≤ p.length ∧ (∀ k : Nat, k < a → disB c p i k = none) ∧ s = (({ heap := st.heap, lo := st.heap.length } : St).push (.var [iv c.room, iv c.depth, F])).push (.var [iv 0, iv 0, iv 0])) (fun a => p.length - a) ⟨by simp only [↓reduceIte, go_sem, hl3]; first | done | rfl, Nat.zero_le _, (fun k hk => absurd hk (by omega)), by first | done | rfl⟩ ?_
 rintro a tm4 st1 ⟨hv9, ha, hno2, rfl⟩ hS
 simp only [List.map_cons, List.map_nil, List.cons.injEq, and_true] at hv9
 have hl4 : tm4.length = 76 := (by rw [hS.1]; simp only [put_len, hl3]); have m1 : tg tm4 1 = P := (by rw [hS.2 1 (by decide)]; simp only [↓reduceIte, go_sem, hl3, k1, k2, k4, hv]); have m2 : tg tm4 2 = .ptr st.heap.length 0 := (by rw [hS.2 2 (by decide)]; simp only [↓reduceIte, go_sem, hl3, k1, k2, k4, hv]); have m4 : tg tm4 4 = .ptr (st.heap.length + 1) 0 := (by rw [hS.2 4 (by decide)]; simp only [↓reduceIte, go_sem, hl3, k1, k2, k4, hv]); have m8 : tg tm4 8 = iv (3 + (i : Int)) := (by rw [hS.2 8 (by decide)]; simp only [↓reduceIte, go_sem, hl3, k1, k2, k4, hv]); clear hS
 clear hl3 k1 k2 k4 hv tm3
 refine go (bw4 hl4 hv9 m1 hPs) fnil ?_
 refine ⟨decide ((a : Int) < p.length), by simp only [↓reduceIte, go_sem, hl4], fun hb => ?_, fun hb2 => ?_⟩
 ·have hlt := of_decide_eq_false hb
  refine go (bw3 hl4 m8 hw8) fnil ?_
  refine ⟨by simp only [↓reduceIte, go_sem, hl4], by omega, fun k hk => ?_, rfl⟩
  by_cases hki : k = i
  ·subst hki
   exact range_none (fun b hb => hno2 b (by omega))
  ·exact hno k (by omega)
 have hap : a < p.length := by have := of_decide_eq_true hb2; omega
 have haf : a < c.figs.length := by omega
 have hw9 : IntKind.wrap .i64 ((a : Int) + 1) = ((a + 1 : Nat) : Int) := wrap_nat (n := a + 1) (by omega)
 refine ⟨by omega, ?_⟩
 refine go hl4 fnil ?_
 refine wp_for [10] (fun b vs s => vs = [iv b] ∧ b ≤ p.length ∧ (∀ k : Nat, k < b → brk c p i a k = false) ∧ s = (({ heap := st.heap, lo := st.heap.length } : St).push (.var [iv c.room, iv c.depth, F])).push (.var [iv 0, iv 0, iv 0])) (fun b => p.length - b) ⟨by simp only [↓reduceIte, go_sem, hl4]; first | done | rfl, Nat.zero_le _, (fun k hk => absurd hk (by omega)), by first | done | rfl⟩ ?_
 rintro b tm5 st1 ⟨hv10, hb0, hno3, rfl⟩ hS
 simp only [List.map_cons, List.map_nil, List.cons.injEq, and_true] at hv10
 have hl5 : tm5.length = 76 := (by rw [hS.1]; simp only [put_len, hl4]); have n1 : tg tm5 1 = P := (by rw [hS.2 1 (by decide)]; simp only [↓reduceIte, go_sem, hl4, m1, m2, m4, m8, hv9]); have n2 : tg tm5 2 = .ptr st.heap.length 0 := (by rw [hS.2 2 (by decide)]; simp only [↓reduceIte, go_sem, hl4, m1, m2, m4, m8, hv9]); have n4 : tg tm5 4 = .ptr (st.heap.length + 1) 0 := (by rw [hS.2 4 (by decide)]; simp only [↓reduceIte, go_sem, hl4, m1, m2, m4, m8, hv9]); have n8 : tg tm5 8 = iv (3 + (i : Int)) := (by rw [hS.2 8 (by decide)]; simp only [↓reduceIte, go_sem, hl4, m1, m2, m4, m8, hv9]); have n9 : tg tm5 9 = iv a := (by rw [hS.2 9 (by decide)]; simp only [↓reduceIte, go_sem, hl4, m1, m2, m4, m8, hv9]); clear hS
 clear hl4 m1 m2 m4 m8 hv9 tm4
 refine go (bw4 hl5 hv10 n1 hPs) fnil ?_
 refine ⟨decide ((b : Int) < p.length), by simp only [↓reduceIte, go_sem, hl5], fun hb => ?_, fun hb3 => ?_⟩
 ·have hlt := of_decide_eq_false hb
  refine go (bw3 hl5 n9 hw9) fnil ?_
  refine ⟨by simp only [↓reduceIte, go_sem, hl5], by omega, fun k hk => ?_, rfl⟩
  by_cases hka : k = a
  ·subst hka
   exact range_none (fun b hb => by rw [if_neg (by rw [hno3 b (by omega)]; simp)])
  ·exact hno2 k (by omega)
 have hbp : b < p.length := by have := of_decide_eq_true hb3; omega
 have hbf : b < c.figs.length := by omega
 have hw10 : IntKind.wrap .i64 ((b : Int) + 1) = ((b + 1 : Nat) : Int) := wrap_nat (n := b + 1) (by omega)
 have hbrk := brk_at (i := i) haf hbf hpl
 have k114 := c114 c F hF (3 + (i : Int)) i a b (by omega) haf hbf
 refine ⟨by omega, ?_⟩
 have hgo : brk c p i a b = false → ∀ k : Nat, k < b + 1 → brk c p i a k = false := fun h k hk => by
  by_cases hkb : k = b
  ·rw [hkb]; exact h
  ·exact hno3 k (by omega)
 cases hdd : decide (p[a] < p[b])
 ·rw [hdd, Bool.false_and] at hbrk
  refine go (bw8 hl5 hv10 n1 n2 n8 n9 hdd hw10) fnil ?_
  exact ⟨by simp only [↓reduceIte, go_sem, hl5], by omega, hgo hbrk, rfl⟩
 ·rw [hdd, Bool.true_and] at hbrk
  cases hk : decide (key i c.figs[a] > key i c.figs[b])
  ·rw [hk] at hbrk k114
   refine go (bw8 hl5 hv10 n1 n2 n8 n9 hdd hw10) (bw k114 fnil) ?_
   exact ⟨by simp only [↓reduceIte, go_sem, hl5], by omega, hgo hbrk, rfl⟩
  ·rw [hk] at hbrk k114
   have hdis : disorder c p = some ⟨3 + i, a, b⟩ := by
    refine range_some hi2 hno (range_some haf hno2 (range_some hbf (fun k hk => ?_) ?_))
    ·rw [if_neg (by rw [hno3 k hk]; simp)]
    ·rw [if_pos hbrk]
   have hft : fault c p = some ⟨3 + i, a, b⟩ := by simp [fault, hfull, hgap, hdis]
   rw [hft]
   refine go (bw8 hl5 hv10 n1 n2 n4 n8 n9 hdd) (bw k114 fnil) ?_
   refine fnq_tuple (results_two (v := fltPV ⟨3 + i, a, b⟩) (u := .bool true) ?_ ?_) (by simp only [lo_push, lo_setVar]; omega) (by rfl)
   ·rw [rdRes_hp (l := st.heap.length + 1) (off := 0) (by simp only [↓reduceIte, go_sem, hl5, n4])]
    simp only [↓reduceIte, go_sem, hl5, n1, n2, n4]
   ·rw [rdRes_tmp]; simp only [↓reduceIte, go_sem, hl5]
theorem c46 (c : CL) (F P : PV) (p : List Int) (hF : SlOf 3 encF F c.figs) (hP : SlOf 1 encI P p) (hc : OkL c) (hp0 : OkP c p) (st : St) : Cl EE (.func 46 [] []) [clPV c F, P] st (.ret (.bool (fault c p).isNone)) st := by
 have hFc := hF.cells
 have hFi := hF.isCell
 obtain ⟨r, o1, o2, hr⟩ : ∃ r o1 o2 : Int, fltO (fault c p) = .agg [iv r, iv o1, iv o2] := by
  cases fault c p with
  | none => exact ⟨0, 0, 0, rfl⟩
  | some f => exact ⟨f.rule, f.one, f.other, rfl⟩
 have k68 := c68 c F P p hF hP hc hp0
 rw [hr] at k68
 have e : (fault c p).isNone = !(fault c p).isSome := by cases fault c p <;> rfl
 rw [e]
 refine cl_fn (pr46 · _ _) fn46 2 rfl (by decide) (fun tm hl hg => ?_); have h0 : tg tm 0 = clPV c F := (hg 0 (by decide)); have h1 : tg tm 1 = P := (hg 1 (by decide)); clear hg
 refine go (bw3 hl h0 h1) (bw k68 fnil) ?_
 refine fnq_flat (results_one (by rw [rdRes_tmp]; simp only [↓reduceIte, go_sem, hl]; first | done | rfl)) (by first | exact Nat.le_refl _ | omega | (simp only [lo_push, lo_setVar]; omega)) (by rfl)
theorem c67 (c : CL) (F : PV) (hF : SlOf 3 encF F c.figs) (st : St) : Cl EE (.func 67 [] []) [clPV c F] st (.ret (iv (if listB c then 0 else 2))) st := by
 have hFc := hF.cells
 refine cl_fn (pr67 · _ _) fn67 1 rfl (by decide) (fun tm hl hg => ?_); have h0 : tg tm 0 = clPV c F := (hg 0 (by decide)); clear hg
 cases hA : listB c
 ·refine go (bw3 hl h0 hA) (bw (c77 c F hF) fnil) ?_
  refine fnq_flat (results_one (by rw [rdRes_tmp]; simp only [↓reduceIte, go_sem, hl]; first | done | rfl)) (by first | exact Nat.le_refl _ | omega | (simp only [lo_push, lo_setVar]; omega)) (by rfl)
 ·refine go (bw3 hl h0 hA) (bw (c77 c F hF) fnil) ?_
  refine fnq_flat (results_one (by rw [rdRes_tmp]; simp only [↓reduceIte, go_sem, hl]; first | done | rfl)) (by first | exact Nat.le_refl _ | omega | (simp only [lo_push, lo_setVar]; omega)) (by rfl)
set_option maxHeartbeats 4000000 in
theorem c47 (P G : PV) (p fs : List Int) (hP : SlOf 1 encI P p) (hG : SlOf 1 encI G fs) (hp : p.length < 1000) (hg : fs.length < 1000) (hfs : OkF p.length fs) (st : St) : ClR EE (.func 47 [] []) [P, G] st (RetS st 1 (outL p fs).length ((outL p fs).flatMap encI)) := by
 have hPs := hP.slen
 have hGs := hG.slen
 refine clr_fn (pr47 · _ _) fn47 2 rfl (by decide) (fun tm hl hg => ?_); have h0 : tg tm 0 = P := (hg 0 (by decide)); have h1 : tg tm 1 = G := (hg 1 (by decide)); clear hg
 refine go (bw3 hl h0 h1) fnil ?_
 refine wp_for [6, 5] (fun i vs s => vs = [iv i, iv (lowestL p (fs.take i))] ∧ i ≤ fs.length ∧ s = ({ heap := st.heap, lo := st.heap.length } : St)) (fun i => fs.length - i) ⟨by simp only [↓reduceIte, go_sem, hl]; first | done | rfl, Nat.zero_le _, by first | done | rfl⟩ ?_
 rintro i tm1 st1 ⟨hv, hi, rfl⟩ hS
 simp only [List.map_cons, List.map_nil, List.cons.injEq, and_true] at hv
 obtain ⟨hv6, hv5⟩ := hv
 have hl1 : tm1.length = 47 := (by rw [hS.1]; simp only [put_len, hl]); have i0 : tg tm1 0 = P := (by rw [hS.2 0 (by decide)]; simp only [↓reduceIte, go_sem, hl, h0, h1]); have i1 : tg tm1 1 = G := (by rw [hS.2 1 (by decide)]; simp only [↓reduceIte, go_sem, hl, h0, h1]); clear hS
 refine go (bw4 hl1 hv6 i1 hGs) fnil ?_
 refine ⟨decide ((i : Int) < fs.length), by simp only [↓reduceIte, go_sem, hl1], fun hb => ?_, fun hb1 => ?_⟩
 rotate_left
 ·have hlt : i < fs.length := by have := of_decide_eq_true hb1; omega
  have hw1 : IntKind.wrap .i64 ((i : Int) + 1) = ((i + 1 : Nat) : Int) := wrap_nat (n := i + 1) (by omega)
  have hr := hfs _ (List.getElem_mem hlt)
  refine ⟨by omega, ?_⟩
  refine go (bw7 hl1 hv6 hv5 i0 i1 hw1 @mm2) fnil ?_
  refine ⟨?_, by omega, rfl⟩
  simp only [↓reduceIte, go_sem, hl1]
  rw [lowestL_take hlt, List.getD_eq_getElem?_getD, List.getElem?_eq_getElem (by omega)]
  rfl
 have hlt := of_decide_eq_false hb
 have hin : i = fs.length := by omega
 rw [hin, List.take_length] at hv5
 clear hv6 hb hlt hin hi
 refine go hl1 fnil ?_
 refine wp_for [8, 7] (fun i vs s => ∃ v, vs = [iv i, v] ∧ i ≤ p.length ∧ OwnS st.heap.length s 1 v (castL ((List.range i).filter (outP p fs))).length ((castL ((List.range i).filter (outP p fs))).flatMap encI) ∧ st.heap.length ≤ s.lo ∧ st.heap.length ≤ s.heap.length) (fun i => p.length - i) ⟨_, by simp only [↓reduceIte, go_sem, hl1]; first | done | rfl, Nat.zero_le _, .nil, Nat.le_refl _, Nat.le_refl _⟩ ?_
 rintro i tm2 st2 ⟨v, hv2, hi, hO, hlo, hwf⟩ hS
 simp only [List.map_cons, List.map_nil, List.cons.injEq, and_true] at hv2
 obtain ⟨hv8, hv7⟩ := hv2
 have hl2 : tm2.length = 47 := (by rw [hS.1]; simp only [put_len, hl1]); have j0 : tg tm2 0 = P := (by rw [hS.2 0 (by decide)]; simp only [↓reduceIte, go_sem, hl1, i0, i1, hv5]); have j1 : tg tm2 1 = G := (by rw [hS.2 1 (by decide)]; simp only [↓reduceIte, go_sem, hl1, i0, i1, hv5]); have j5 : tg tm2 5 = iv (lowestL p fs) := (by rw [hS.2 5 (by decide)]; simp only [↓reduceIte, go_sem, hl1, i0, i1, hv5]); clear hS
 refine go (bw4 hl2 hv8 j0 hPs) fnil ?_
 refine ⟨decide ((i : Int) < p.length), by simp only [↓reduceIte, go_sem, hl2], fun hb => ?_, fun hb1 => ?_⟩
 ·have hlt := of_decide_eq_false hb
  have hin : i = p.length := by omega
  rw [hin] at hO
  refine go (bw hl2 hv7) fnil ?_
  exact fnr_ret (results_one (v := v) (by rw [rdRes_tmp]; simp only [↓reduceIte, go_sem, hl2])) (hO.finish hlo (fun m c hc => encI_low _ m c hc))
 have hlt : i < p.length := by have := of_decide_eq_true hb1; omega
 have hw1 : IntKind.wrap .i64 ((i : Int) + 1) = ((i + 1 : Nat) : Int) := wrap_nat (n := i + 1) (by omega)
 refine ⟨by omega, ?_⟩
 rw [castL_succ]
 have hget : p.getD i 0 = p[i] := by rw [List.getD_eq_getElem?_getD, List.getElem?_eq_getElem hlt]; rfl
 have hll := castL_len (outP p fs) i
 cases hx : decide (p[i] < lowestL p fs)
 ·have ho : outP p fs i = false := by simp only [outP, hget, hx, Bool.false_and]
  refine go (bw8 hl2 j0 j1 j5 hv8 hv7 hx hw1) fnil ?_
  exact ⟨v, by simp only [↓reduceIte, go_sem, hl2, hv7], by omega, by simpa [ho] using hO, hlo, hwf⟩
 ·cases hy : hasI fs (i : Int)
  ·have ho : outP p fs i = true := by simp only [outP, hget, hx, hy, Bool.not_false, Bool.and_self]
   refine go (bw8 hl2 j0 j1 j5 hv8 hv7 hx hy) (bw (c48 G fs i hG (by omega)) fnil) ?_
   refine wops_append rfl rfl (by simp only [↓reduceIte, go_sem, hl2, hv7]; first | done | rfl) (by simp only [↓reduceIte, go_sem, hl2, hv7]; first | done | rfl) (hO.push) rfl (by first | omega | (simp only [len_push, len_setVar]; omega)) (by rfl) (by rfl) (by simp only [maxList]; omega) ?_
   intro v' st3 hO' hFr hk
   refine go (bw3 hl2 hv8 hw1) fnil ?_
   refine ⟨v', by simp only [↓reduceIte, go_sem, hl2], by omega, by simpa [ho, share_int] using hO', ?_, ?_⟩
   ·have := hFr.lo
    simp only [lo_push] at this
    omega
   ·have := hFr.len
    simp only [len_push] at this
    omega
  ·have ho : outP p fs i = false := by simp only [outP, hget, hx, hy, Bool.not_true, Bool.and_false]
   refine go (bw9 hl2 j0 j1 j5 hv8 hv7 hx hy hw1) (bw (c48 G fs i hG (by omega)) fnil) ?_
   exact ⟨v, by simp only [↓reduceIte, go_sem, hl2, hv7], by omega, by simpa [ho] using hO, hlo, hwf⟩
end Go.Den.Ch
end

/- Part of the proofs of laws of the package chest: the interpreter Den, its soundness, and contracts of the program's functions over it. Texts: ChC, ChD, ChE. -/
import Derived.Test.YtoeigapilcgelaaGreatDoorK2Ay
set_option linter.unusedSimpArgs false
set_option linter.unusedVariables false
section
namespace Go.Den.Ch
theorem range_some {β : Type} {f : Nat → Option β} {n i : Nat} {b : β} (hi : i < n) (h0 : ∀ k, k < i → f k = none) (h : f i = some b) : (List.range n).findSome? f = some b := by
 induction n with
 | zero => omega
 | succ n ih =>
  rw [List.range_succ, List.findSome?_append]
  by_cases hn : i < n
  ·rw [ih hn]; rfl
  ·have : i = n := by omega
   subst this
   have : (List.range i).findSome? f = none := by
    rw [List.findSome?_eq_none_iff]
    intro x hx
    exact h0 x (by simpa using hx)
   rw [this]
   simp [h]
theorem range_none {β : Type} {f : Nat → Option β} {n : Nat} (h0 : ∀ k, k < n → f k = none) : (List.range n).findSome? f = none := by
 rw [List.findSome?_eq_none_iff]
 intro x hx
 exact h0 x (by simpa using hx)
def fltO : Option Flt → PV
 | some f => fltPV f
 | none => zeroF
theorem fltO_some (f : Flt) : fltO (some f) = fltPV f := rfl
theorem fltO_none : fltO none = zeroF := rfl
theorem zeroF_e : zeroF = .agg [.int .i64 0, .int .i64 0, .int .i64 0] := rfl
theorem brk_at {c : CL} {p : List Int} {i a b : Nat} (ha : a < c.figs.length) (hb : b < c.figs.length) (hpl : p.length = c.figs.length) : brk c p i a b = (decide (p[a] < p[b]) && decide (key i c.figs[a] > key i c.figs[b])) := by
 unfold brk
 rw [List.getElem?_eq_getElem (by omega), List.getElem?_eq_getElem (by omega), List.getElem?_eq_getElem ha, List.getElem?_eq_getElem hb]
theorem ck (i : Nat) (hi : i < 2) (f : Fig) (hf : figB f = true) (st : St) : Cl EE (.func (146 + i) [] []) [figPV f] st (.ret (iv (key i f))) st := by
 match i, hi with
 | 0, _ => exact c146 f hf st
 | 1, _ => exact c147 f st
set_option maxHeartbeats 4000000 in
theorem c131 (c : CL) (F P : PV) (p : List Int) (hF : SlOf 3 encF F c.figs) (hP : SlOf 1 encI P p) (hN : c.figs.length < 1000) (hpl : p.length = c.figs.length) (hfb : ∀ f ∈ c.figs, figB f = true) (st : St) : Cl EE (.func 131 [] []) [paPV c F P] st (.ret (.tuple [fltO (disorder c p), .bool (disorder c p).isSome])) st := by
 have hs := hF.slen
 have hFc := hF.cells
 have hPc := hP.cells
 refine cl_fn (pr131 · _ _) fn131 1 rfl (by decide) (fun tm hl hg => ?_); have h0 : tg tm 0 = paPV c F P := (hg 0 (by decide)); clear hg
 refine go (bw hl h0) fnil ?_
 refine wp_range 2 [] (fun i vs st' => (∀ k, k < i → disA c p k = none) ∧ st.heap.length ≤ st'.lo ∧ st'.lo ≤ st'.heap.length ∧ hp st' st.heap.length = some (.var [iv c.room, iv c.depth, F, P]) ∧ hp st' (st.heap.length + 1) = some (.var [iv 0, iv 0, iv 0])) (by omega) (by simp only [go_sem, hl]) (by rfl) (by simp only [go_sem, hl]) (by decide) ⟨fun k hk => absurd hk (by omega), by simp [lo_push], by simp [lo_push, len_push]; omega, by simp only [go_sem, hl], by simp only [go_sem, hl]⟩ ?_ ?_
 ·rintro i hi tm1 st1 ⟨hno, hlo, hwf, hb, hr⟩ hS hia
  have hl1 : tm1.length = 64 := by rw [hS.1]; simp only [go_sem, hl]
  have i1 : tg tm1 1 = .ptr st.heap.length 0 := by rw [hS.2 1 (by decide)]; simp only [go_sem, hl]
  have i2 : tg tm1 2 = .ptr (st.heap.length + 1) 0 := by rw [hS.2 2 (by decide)]; simp only [go_sem, hl]
  have i10 : tg tm1 10 = .agg [.func 146 [] [], .func 147 [] []] := by rw [hS.2 10 (by decide)]; simp only [go_sem, hl]
  clear hS
  have hx : ∀ (rec : Rec) tm st, tg tm 10 = .agg [.func 146 [] [], .func 147 [] []] → tg tm 11 = iv i → stepOp EE rec tm st (.indexArr false 2 1 (.t 10) (.t 11)) = some (.val (.func (146 + i) [] []) st) := by
   intro rec tm st h10 h11
   match i, hi with
   | 0, _ => simp only [go_sem, op_indexArr, ev_t, h10, h11]; rfl
   | 1, _ => simp only [go_sem, op_indexArr, ev_t, h10, h11]; rfl
  refine go (bw4 hl1 i1 i2 hia) fnil ?_
  refine wops_one (v := .func (146 + i) [] []) rfl (fun rec => hx rec _ _ (by simp only [go_sem, hl1, i10]) (by simp only [go_sem, hl1, hia])) ?_
  refine go (bw7 hl1 i1 i2 hia hb hr hs) fnil ?_
  refine wp_range c.figs.length [] (fun a vs st' => (∀ k, k < a → disB c p i k = none) ∧ st.heap.length ≤ st'.lo ∧ st'.lo ≤ st'.heap.length ∧ hp st' st.heap.length = some (.var [iv c.room, iv c.depth, F, P]) ∧ hp st' (st.heap.length + 1) = some (.var [iv 0, iv 0, iv 0])) (by omega) (by simp only [go_sem, hl1]) (by simp only [go_sem, hl1]) (by simp only [go_sem, hl1]) (by decide) ⟨fun k hk => absurd hk (by omega), hlo, hwf, hb, hr⟩ ?_ ?_
  ·clear hb hr hlo hwf
   rintro a ha tm2 st2 ⟨hno2, hlo, hwf, hb, hr⟩ hS ha2
   have hl2 : tm2.length = 64 := (by rw [hS.1]; simp only [put_len, hl1]); have j1 : tg tm2 1 = .ptr st.heap.length 0 := (by rw [hS.2 1 (by decide)]; simp only [go_sem, hl1, i1, i2]); have j2 : tg tm2 2 = .ptr (st.heap.length + 1) 0 := (by rw [hS.2 2 (by decide)]; simp only [go_sem, hl1, i1, i2]); have j4 : tg tm2 4 = iv i := (by rw [hS.2 4 (by decide)]; simp only [go_sem, hl1, i1, i2]); have j5 : tg tm2 5 = .func (146 + i) [] [] := (by rw [hS.2 5 (by decide)]; simp only [go_sem, hl1, i1, i2]); have j17 : tg tm2 17 = F := (by rw [hS.2 17 (by decide)]; simp only [go_sem, hl1, i1, i2]); clear hS
   have lb := hp_lt hb
   have lr := hp_lt hr
   refine go (bw18 hl2 j1 j2 j4 j5 j17 ha2 hb hr hs (neL lb) (neA lb) (ltL lb) (ltA lb) (neL lr) (neA lr) (ltL lr) (ltA lr)) fnil ?_
   refine wp_range c.figs.length [] (fun b vs st' => (∀ k, k < b → brk c p i a k = false) ∧ st.heap.length ≤ st'.lo ∧ st'.lo ≤ st'.heap.length ∧ hp st' st.heap.length = some (.var [iv c.room, iv c.depth, F, P]) ∧ hp st' (st.heap.length + 1) = some (.var [iv 0, iv 0, iv 0]) ∧ hp st' st2.heap.length = some (.var (encF c.figs[a]))) (by omega) (by simp only [go_sem, hl2]) (by simp only [go_sem, hl2]) (by simp only [go_sem, hl2]) (by decide) ⟨fun k hk => absurd hk (by omega), by simp only [lo_push, lo_setVar]; omega, by simp only [lo_push, lo_setVar, len_push, len_setVar]; omega, by simp only [go_sem, hb, neL lb, neA lb, ltL lb, ltA lb], by simp only [go_sem, hr, neL lr, neA lr, ltL lr, ltA lr], by simp only [go_sem]⟩ ?_ ?_
   ·clear hb hr hlo hwf
    rintro b hb3 tm3 st3 ⟨hno3, hlo, hwf, hb, hr, hq⟩ hS hb2
    have hl3 : tm3.length = 64 := (by rw [hS.1]; simp only [put_len, hl2]); have k1 : tg tm3 1 = .ptr st.heap.length 0 := (by rw [hS.2 1 (by decide)]; simp only [go_sem, hl2, j1, j2, j4, j5]); have k2 : tg tm3 2 = .ptr (st.heap.length + 1) 0 := (by rw [hS.2 2 (by decide)]; simp only [go_sem, hl2, j1, j2, j4, j5]); have k4 : tg tm3 4 = iv i := (by rw [hS.2 4 (by decide)]; simp only [go_sem, hl2, j1, j2, j4, j5]); have k5 : tg tm3 5 = .func (146 + i) [] [] := (by rw [hS.2 5 (by decide)]; simp only [go_sem, hl2, j1, j2, j4, j5]); have k6 : tg tm3 6 = iv a := (by rw [hS.2 6 (by decide)]; simp only [go_sem, hl2, j1, j2, j4, j5]); have k7 : tg tm3 7 = .ptr st2.heap.length 0 := (by rw [hS.2 7 (by decide)]; simp only [go_sem, hl2, j1, j2, j4, j5]); have k26 : tg tm3 26 = F := (by rw [hS.2 26 (by decide)]; simp only [go_sem, hl2, j1, j2, j4, j5]); clear hS
    have lb3 := hp_lt hb
    have lr3 := hp_lt hr
    have lq3 := hp_lt hq
    have hbrk := brk_at (i := i) ha hb3 hpl
    have hcx := hfb _ (List.getElem_mem ha)
    have hcy := hfb _ (List.getElem_mem hb3)
    cases hd : decide (p[a] < p[b])
    ·rw [hd, Bool.false_and] at hbrk
     refine go (bw25 hl3 k1 k2 k4 k5 k6 k7 k26 hb2 hb hr hs (neL lb3) (neA lb3) (ltL lb3) (ltA lb3) (neL lr3) (neA lr3) (ltL lr3) (ltA lr3) (neL lq3) (neA lq3) (ltL lq3) (ltA lq3) hd) fnil ?_
     refine ⟨fun k hk => ?_, by simp only [lo_push, lo_setVar]; omega, by simp only [lo_push, lo_setVar, len_push, len_setVar]; omega, by simp only [go_sem, hb, neL lb3, neA lb3, ltL lb3, ltA lb3], by simp only [go_sem, hr, neL lr3, neA lr3, ltL lr3, ltA lr3], by simp only [go_sem, hq, neL lq3, neA lq3, ltL lq3, ltA lq3]⟩
     by_cases hkb : k = b
     ·subst hkb; exact hbrk
     ·exact hno3 k (by omega)
    ·rw [hd, Bool.true_and] at hbrk
     cases hk : decide (key i c.figs[a] > key i c.figs[b])
     ·rw [hk] at hbrk
      refine go (bw27 hl3 k1 k2 k4 k5 k6 k7 k26 hb2 hb hr hq hs (neL lb3) (neA lb3) (ltL lb3) (ltA lb3) (neL lr3) (neA lr3) (ltL lr3) (ltA lr3) (neL lq3) (neA lq3) (ltL lq3) (ltA lq3) hd hk) (bw3 (ck i hi _ hcx) (ck i hi _ hcy) fnil) ?_
      refine ⟨fun k hk => ?_, by simp only [lo_push, lo_setVar]; omega, by simp only [lo_push, lo_setVar, len_push, len_setVar]; omega, by simp only [go_sem, hb, neL lb3, neA lb3, ltL lb3, ltA lb3], by simp only [go_sem, hr, neL lr3, neA lr3, ltL lr3, ltA lr3], by simp only [go_sem, hq, neL lq3, neA lq3, ltL lq3, ltA lq3]⟩
      by_cases hkb : k = b
      ·subst hkb; exact hbrk
      ·exact hno3 k (by omega)
     ·rw [hk] at hbrk
      have hdis : disorder c p = some ⟨3 + i, a, b⟩ := by
       refine range_some hi hno (range_some ha hno2 (range_some hb3 (fun k hk => ?_) ?_))
       ·rw [if_neg (by rw [hno3 k hk]; simp)]
       ·rw [if_pos hbrk]
      rw [hdis]
      have hw : IntKind.wrap .i64 (3 + (i : Int)) = 3 + i := wrap_in (by unfold inI; omega)
      refine go (bw28 hl3 k1 k2 k4 k5 k6 k7 k26 hb2 hb hr hq hs (neL lb3) (neA lb3) (ltL lb3) (ltA lb3) (neL lr3) (neA lr3) (ltL lr3) (ltA lr3) (neL lq3) (neA lq3) (ltL lq3) (ltA lq3) hd hk hw) (bw3 (ck i hi _ hcx) (ck i hi _ hcy) fnil) ?_
      refine fnq_tuple (results_two (v := fltPV ⟨3 + i, a, b⟩) (u := .bool true) ?_ ?_) (by simp only [lo_push, lo_setVar]; omega) (by rfl)
      ·rw [rdRes_hp (l := st.heap.length + 1) (off := 0) (by simp only [go_sem, hl3, k2])]
       simp only [go_sem, hl3, k1, k2, k4, k5, k6, k7, k26, hb2, hb, hr, hq, hs, neL lb3, neA lb3, ltL lb3, ltA lb3, neL lr3, neA lr3, ltL lr3, ltA lr3, neL lq3, neA lq3, ltL lq3, ltA lq3, hd]
      ·rw [rdRes_tmp]; simp only [go_sem, hl3]
   ·clear hb hr hlo hwf
    rintro tm3 st3 ⟨hno3, hlo, hwf, hb, hr, hq⟩ hS
    have hl3 : tm3.length = 64 := (by rw [hS.1]; simp only [put_len, hl2]); clear hS
    refine go hl3 fnil ?_
    refine ⟨fun k hk => ?_, hlo, hwf, hb, hr⟩
    by_cases hka : k = a
    ·subst hka
     exact range_none (fun b hb => by rw [if_neg (by rw [hno3 b hb]; simp)])
    ·exact hno2 k (by omega)
  ·clear hb hr hlo hwf
   rintro tm2 st2 ⟨hno2, hlo, hwf, hb, hr⟩ hS
   have hl2 : tm2.length = 64 := (by rw [hS.1]; simp only [put_len, hl1]); clear hS
   refine go hl2 fnil ?_
   refine ⟨fun k hk => ?_, hlo, hwf, hb, hr⟩
   by_cases hki : k = i
   ·subst hki
    exact range_none hno2
   ·exact hno k (by omega)
 ·rintro tm1 st1 ⟨hno, hlo, hwf, hb, hr⟩ hS
  have hl1 : tm1.length = 64 := (by rw [hS.1]; simp only [put_len, hl]); have i2 : tg tm1 2 = .ptr (st.heap.length + 1) 0 := (by rw [hS.2 2 (by decide)]; simp only [go_sem, hl, h0]); clear hS
  have hdis : disorder c p = none := range_none hno
  rw [hdis]
  have lr := hp_lt hr
  refine go (bw7 hl1 i2 hr (neL lr) (neA lr) (ltL lr) (ltA lr)) fnil ?_
  refine fnq_tuple (results_two (v := zeroF) (u := .bool false) ?_ ?_) (by simp only [lo_push, lo_setVar]; omega) (by rfl)
  ·rw [rdRes_hp (l := st.heap.length + 1) (off := 0) (by simp only [go_sem, hl1, i2])]
   simp only [go_sem, hl1, i2, hr, neL lr, neA lr, ltL lr, ltA lr]
   rfl
  ·rw [rdRes_tmp]; simp only [go_sem, hl1]
end Go.Den.Ch
end
section
namespace Go.Den.Ch
structure OkL (c : CL) : Prop where
 len : c.figs.length ≤ 6
 figs : ∀ f ∈ c.figs, figB f = true
 d0 : 0 ≤ c.depth
 d1 : c.depth ≤ 5
structure OkP (c : CL) (p : List Int) : Prop where
 len : p.length = c.figs.length
 rng : ∀ x ∈ p, 0 ≤ x ∧ x < c.depth
theorem OkL.of {c : CL} (h : listB c = true) : OkL c := by
 simp only [listB, inB, Bool.and_eq_true, decide_eq_true_eq, List.all_eq_true] at h
 exact ⟨h.2.2.1, h.2.2.2, by omega, by omega⟩
theorem OkP.of {c : CL} {p : List Int} (h : packB c p = true) : OkP c p := by
 simp only [packB, inB, Bool.and_eq_true, decide_eq_true_eq, List.all_eq_true] at h
 exact ⟨h.1, fun x hx => ⟨(h.2 x hx).1, by have := (h.2 x hx).2; omega⟩⟩
theorem layerL_mem : ∀ {fs : List Fig} {p : List Int} {n x : Int}, x ∈ layerL fs p n → ∃ f ∈ fs, x = f.size
 | [], p, n, x, h => by simp [layerL] at h
 | f :: fs, [], n, x, h => by simp [layerL] at h
 | f :: fs, y :: p, n, x, h => by
  simp only [layerL] at h
  split at h
  ·simp only [List.mem_cons] at h
   rcases h with rfl | h
   ·exact ⟨f, by simp, rfl⟩
   ·obtain ⟨g, hg, e⟩ := layerL_mem h; exact ⟨g, by simp [hg], e⟩
  ·obtain ⟨g, hg, e⟩ := layerL_mem h; exact ⟨g, by simp [hg], e⟩
theorem sum_bound {l : List Int} {b : Int} (hb : 0 ≤ b) (h : ∀ x ∈ l, 0 ≤ x ∧ x ≤ b) : 0 ≤ l.sum ∧ l.sum ≤ b * l.length := by
 induction l with
 | nil => simp
 | cons x l ih =>
  have h1 := ih (fun y hy => h y (by simp [hy]))
  have h2 := h x (by simp)
  simp only [List.sum_cons, List.length_cons]
  have : b * ((l.length + 1 : Nat) : Int) = b * l.length + b := by rw [Int.natCast_add, Int.mul_add]; simp
  omega
theorem sum_inI {l : List Int} (hl : l.length ≤ 1000) (h : ∀ x ∈ l, 0 ≤ x ∧ x ≤ 1000) (k : Nat) : inI (l.take k).sum := by
 have h1 := sum_bound (l := l.take k) (b := 1000) (by omega) (fun x hx => h x (List.mem_of_mem_take hx))
 have h2 : (l.take k).length ≤ 1000 := by simp; omega
 unfold inI
 omega
theorem OkL.size {c : CL} (h : OkL c) {f : Fig} (hf : f ∈ c.figs) : 1 ≤ f.size ∧ f.size ≤ 9 := by
 have := h.figs f hf
 simp only [figB, inB, Bool.and_eq_true, decide_eq_true_eq] at this
 omega
theorem OkL.layer {c : CL} (h : OkL c) (p : List Int) (n : Int) : (layerL c.figs p n).length ≤ 6 ∧ ∀ x ∈ layerL c.figs p n, 1 ≤ x ∧ x ≤ 9 := by
 refine ⟨layerL_len _ _ _ _ h.len, fun x hx => ?_⟩
 obtain ⟨f, hf, rfl⟩ := layerL_mem hx
 exact h.size hf
theorem c110' {c : CL} (h : OkL c) (p : List Int) (n : Int) (v : PV) (hv : SlOf 1 encI v (layerL c.figs p n)) (st : St) : Cl EE (.func 110 [] []) [v] st (.ret (iv (layerL c.figs p n).sum)) st :=
 c110 v _ hv (by have := (h.layer p n).1; omega) (sum_inI (by have := (h.layer p n).1; omega) (fun x hx => by have := (h.layer p n).2 x hx; omega)) st
set_option maxHeartbeats 4000000 in
theorem c128 (c : CL) (F P : PV) (p : List Int) (hF : SlOf 3 encF F c.figs) (hP : SlOf 1 encI P p) (hc : OkL c) (hp0 : OkP c p) (st : St) : Cl EE (.func 128 [] []) [paPV c F P] st (.ret (.tuple [fltO (fault c p), .bool (fault c p).isSome])) st := by
 have hs := hF.slen
 have hFc := hF.cells
 have hPc := hP.cells
 have hlen := hc.len
 have hpl := hp0.len
 obtain ⟨d, hd⟩ : ∃ d : Nat, c.depth = d := ⟨c.depth.toNat, by have := hc.d0; omega⟩
 have hd5 : d ≤ 5 := by have := hc.d1; omega
 refine cl_fn (pr128 · _ _) fn128 1 rfl (by decide) (fun tm hl hg => ?_); have h0 : tg tm 0 = paPV c F P := (hg 0 (by decide)); clear hg
 refine go (bw hl h0) fnil ?_
 refine wp_range d [] (fun i vs st' => (∀ k, k < i → ¬ (layerL c.figs p (k : Nat)).sum > c.room) ∧ st.heap.length ≤ st'.lo ∧ st'.lo ≤ st'.heap.length ∧ hp st' st.heap.length = some (.var [iv c.room, iv c.depth, F, P]) ∧ hp st' (st.heap.length + 1) = some (.var [iv 0, iv 0, iv 0])) (by omega) (by simp only [go_sem, hl]) (by simp only [go_sem, hl, hd]) (by simp only [go_sem, hl]) (by decide) ⟨fun k hk => absurd hk (by omega), by simp [lo_push], by simp [lo_push, len_push]; omega, by simp only [go_sem, hl], by simp only [go_sem, hl]⟩ ?_ ?_
 ·rintro i hi tm1 st1 ⟨hno, hlo, hwf, hb, hr⟩ hS hia
  have hl1 : tm1.length = 40 := (by rw [hS.1]; simp only [put_len, hl]); have i1 : tg tm1 1 = .ptr st.heap.length 0 := (by rw [hS.2 1 (by decide)]; simp only [go_sem, hl, h0]); have i2 : tg tm1 2 = .ptr (st.heap.length + 1) 0 := (by rw [hS.2 2 (by decide)]; simp only [go_sem, hl, h0]); clear hS
  have lb := hp_lt hb
  have lr := hp_lt hr
  refine go (bw15 hl1 i1 i2 hia hb hr hs (neL lb) (neA lb) (ltL lb) (ltA lb) (neL lr) (neA lr) (ltL lr) (ltA lr)) fnil ?_
  refine wopsD_callS (by first | omega | (simp only [lo_push, lo_setVar, len_push, len_setVar]; omega)) rfl rfl (by simp only [go_sem, hl1]; first | done | rfl) (fun st1 he => by simp only [go_sem, hl1]; exact c111 c F P p i hF hP (by omega) hpl _) ?_
  intro v st2 hR
  have hb2 := hR.hp hb
  have hr2 := hR.hp hr
  have hlo2 := hR.lo
  have hln2 := hR.len
  have lb2 := hp_lt hb2
  have lr2 := hp_lt hr2
  have hsl := slI hR
  by_cases hf : (layerL c.figs p (i : Nat)).sum > c.room
  ·have hdd : decide ((layerL c.figs p (i : Nat)).sum > c.room) = true := by simp [hf]
   have hft : fault c p = some ⟨1, i, 0⟩ := by
    have : fullL c p = some ⟨1, i, 0⟩ := by
     refine range_some (by omega) (fun k hk => if_neg (hno k hk)) (if_pos hf)
    simp [fault, this]
   rw [hft]
   refine go (bw15 hl1 i1 i2 hia hb2 hr2 (neL lb2) (neA lb2) (ltL lb2) (ltA lb2) (neL lr2) (neA lr2) (ltL lr2) (ltA lr2) hdd) (bw (c110' hc p i v hsl) fnil) ?_
   refine fnq_tuple (results_two (v := fltPV ⟨1, i, 0⟩) (u := .bool true) ?_ ?_) (by simp only [lo_push, lo_setVar]; omega) (by rfl)
   ·rw [rdRes_hp (l := st.heap.length + 1) (off := 0) (by simp only [go_sem, hl1, i2])]
    simp only [go_sem, hl1, i1, i2, hia, hb2, hr2, neL lb2, neA lb2, ltL lb2, ltA lb2, neL lr2, neA lr2, ltL lr2, ltA lr2]
   ·rw [rdRes_tmp]; simp only [go_sem, hl1]
  ·have hdd : decide ((layerL c.figs p (i : Nat)).sum > c.room) = false := by simp [hf]
   refine go (bw15 hl1 i1 i2 hia hb2 hr2 (neL lb2) (neA lb2) (ltL lb2) (ltA lb2) (neL lr2) (neA lr2) (ltL lr2) (ltA lr2) hdd) (bw (c110' hc p i v hsl) fnil) ?_
   refine ⟨fun k hk => ?_, by omega, by omega, hb2, hr2⟩
   by_cases hki : k = i
   ·subst hki; exact hf
   ·exact hno k (by omega)
 ·rintro tm1 st1 ⟨hno, hlo, hwf, hb, hr⟩ hS
  have hl1 : tm1.length = 40 := (by rw [hS.1]; simp only [put_len, hl]); have i1 : tg tm1 1 = .ptr st.heap.length 0 := (by rw [hS.2 1 (by decide)]; simp only [go_sem, hl, h0]); have i2 : tg tm1 2 = .ptr (st.heap.length + 1) 0 := (by rw [hS.2 2 (by decide)]; simp only [go_sem, hl, h0]); clear hS
  have hfull : fullL c p = none := range_none (fun k hk => if_neg (hno k (by omega)))
  have lb := hp_lt hb
  have lr := hp_lt hr
  obtain ⟨L, hL⟩ : ∃ L : Nat, layersL p = L := ⟨(layersL p).toNat, by have := layersL_nonneg p; omega⟩
  have hL5 : L ≤ 5 := by
   have := layersL_bound (p := p) (d := c.depth) hc.d0 (fun x hx => (hp0.rng x hx).2)
   omega
  have cl := c84 c F P p hFc hP (by omega) (fun x hx => by have := hp0.rng x hx; unfold inI; omega)
  rw [hL] at cl
  refine go (bw14 hl1 i1 i2 hb hr hs (neL lb) (neA lb) (ltL lb) (ltA lb) (neL lr) (neA lr) (ltL lr) (ltA lr)) (bw cl fnil) ?_
  refine wp_range L [] (fun i vs st' => (∀ k, k < i → ¬ (layerL c.figs p (k : Nat)).length = 0) ∧ st.heap.length ≤ st'.lo ∧ st'.lo ≤ st'.heap.length ∧ hp st' st.heap.length = some (.var [iv c.room, iv c.depth, F, P]) ∧ hp st' (st.heap.length + 1) = some (.var [iv 0, iv 0, iv 0])) (by omega) (by simp only [go_sem, hl1]) (by simp only [go_sem, hl1]) (by simp only [go_sem, hl1]) (by decide) ⟨fun k hk => absurd hk (by omega), hlo, hwf, hb, hr⟩ ?_ ?_
  ·clear hb hr hlo hwf
   rintro i hi tm2 st2 ⟨hno2, hlo, hwf, hb, hr⟩ hS hia
   have hl2 : tm2.length = 40 := (by rw [hS.1]; simp only [put_len, hl1]); have j1 : tg tm2 1 = .ptr st.heap.length 0 := (by rw [hS.2 1 (by decide)]; simp only [go_sem, hl1, i1, i2]); have j2 : tg tm2 2 = .ptr (st.heap.length + 1) 0 := (by rw [hS.2 2 (by decide)]; simp only [go_sem, hl1, i1, i2]); clear hS
   have lb := hp_lt hb
   have lr := hp_lt hr
   refine go (bw15 hl2 j1 j2 hia hb hr hs (neL lb) (neA lb) (ltL lb) (ltA lb) (neL lr) (neA lr) (ltL lr) (ltA lr)) fnil ?_
   refine wops_callR rfl rfl (by simp only [go_sem, hl2]; first | done | rfl) (by simp only [go_sem, hl2]; exact c111 c F P p i hF hP (by omega) hpl _) ?_
   intro v st3 hR
   have hb2 := hR.hp hb
   have hr2 := hR.hp hr
   have hlo2 := hR.lo
   have hln2 := hR.len
   have lb2 := hp_lt hb2
   have lr2 := hp_lt hr2
   have hsl := (slI hR).slen
   by_cases hf : (layerL c.figs p (i : Nat)).length = 0
   ·have hdd : (((layerL c.figs p (i : Nat)).length : Int) == 0) = true := by simp [hf]
    have hft : fault c p = some ⟨2, i, 0⟩ := by
     have : gapL c p = some ⟨2, i, 0⟩ := by
      refine range_some (by omega) (fun k hk => if_neg (hno2 k hk)) (if_pos hf)
     simp [fault, hfull, this]
    rw [hft]
    refine go (bw16 hl2 j1 j2 hia hb2 hr2 (neL lb2) (neA lb2) (ltL lb2) (ltA lb2) (neL lr2) (neA lr2) (ltL lr2) (ltA lr2) hsl hdd) fnil ?_
    refine fnq_tuple (results_two (v := fltPV ⟨2, i, 0⟩) (u := .bool true) ?_ ?_) (by simp only [lo_push, lo_setVar]; omega) (by rfl)
    ·rw [rdRes_hp (l := st.heap.length + 1) (off := 0) (by simp only [go_sem, hl2, j2])]
     simp only [go_sem, hl2, j1, j2, hia, hb2, hr2, neL lb2, neA lb2, ltL lb2, ltA lb2, neL lr2, neA lr2, ltL lr2, ltA lr2]
    ·rw [rdRes_tmp]; simp only [go_sem, hl2]
   ·have hdd : (((layerL c.figs p (i : Nat)).length : Int) == 0) = false := by simp; intro e; apply hf; simp [e]
    refine go (bw16 hl2 j1 j2 hia hb2 hr2 (neL lb2) (neA lb2) (ltL lb2) (ltA lb2) (neL lr2) (neA lr2) (ltL lr2) (ltA lr2) hsl hdd) fnil ?_
    refine ⟨fun k hk => ?_, by omega, by omega, hb2, hr2⟩
    by_cases hki : k = i
    ·subst hki; exact hf
    ·exact hno2 k (by omega)
  ·clear hb hr hlo hwf
   rintro tm2 st2 ⟨hno2, hlo, hwf, hb, hr⟩ hS
   have hl2 : tm2.length = 40 := (by rw [hS.1]; simp only [put_len, hl1]); have j1 : tg tm2 1 = .ptr st.heap.length 0 := (by rw [hS.2 1 (by decide)]; simp only [go_sem, hl1, i1, i2]); have j2 : tg tm2 2 = .ptr (st.heap.length + 1) 0 := (by rw [hS.2 2 (by decide)]; simp only [go_sem, hl1, i1, i2]); clear hS
   have hgap : gapL c p = none := range_none (fun k hk => if_neg (hno2 k (by omega)))
   have lb := hp_lt hb
   have lr := hp_lt hr
   have hft : fault c p = disorder c p := by simp [fault, hfull, hgap]
   rw [hft]
   have hflt : ∃ a b e, fltO (disorder c p) = .agg [iv a, iv b, iv e] := by
    cases disorder c p with
    | none => exact ⟨0, 0, 0, rfl⟩
    | some f => exact ⟨f.rule, f.one, f.other, rfl⟩
   obtain ⟨ra, rb, re, hflt⟩ := hflt
   have c1 := c131 c F P p hF hP (by omega) hpl hc.figs
   rw [hflt] at c1 ⊢
   refine go (bw14 hl2 j1 j2 hb hr hs (neL lb) (neA lb) (ltL lb) (ltA lb) (neL lr) (neA lr) (ltL lr) (ltA lr)) (bw c1 fnil) ?_
   refine fnq_tuple (results_two (v := .agg [iv ra, iv rb, iv re]) (u := .bool (disorder c p).isSome) ?_ ?_) (by simp only [lo_push, lo_setVar]; omega) (by rfl)
   ·rw [rdRes_hp (l := st.heap.length + 1) (off := 0) (by simp only [go_sem, hl2, j2])]
    simp only [go_sem, hl2, j1, j2, hb, hr, neL lb, neA lb, ltL lb, ltA lb, neL lr, neA lr, ltL lr, ltA lr]
   ·rw [rdRes_tmp]; simp only [go_sem, hl2]
end Go.Den.Ch
end
section
namespace Go.Den.Ch
theorem fltO_cells (o : Option Flt) : ∃ a b e, fltO o = .agg [iv a, iv b, iv e] := by
 cases o with
 | none => exact ⟨0, 0, 0, rfl⟩
 | some f => exact ⟨f.rule, f.one, f.other, rfl⟩
theorem c90 (c : CL) (F P : PV) (p : List Int) (hF : SlOf 3 encF F c.figs) (hP : SlOf 1 encI P p) (hc : OkL c) (hp0 : OkP c p) (st : St) : Cl EE (.func 90 [] []) [paPV c F P] st (.ret (.bool (fault c p).isNone)) st := by
 have hFc := hF.cells
 have hPc := hP.cells
 obtain ⟨a, b, e, he⟩ := fltO_cells (fault c p)
 have c1 := c128 c F P p hF hP hc hp0
 rw [he] at c1
 have e2 : (fault c p).isNone = !(fault c p).isSome := by cases fault c p <;> rfl
 rw [e2]
 refine cl_fn (pr90 · _ _) fn90 1 rfl (by decide) (fun tm hl hg => ?_); have h0 : tg tm 0 = paPV c F P := (hg 0 (by decide)); clear hg
 refine go (bw hl h0) (bw c1 fnil) ?_
 refine fnq_flat (results_one (by rw [rdRes_tmp]; simp only [go_sem, hl]; first | done | rfl)) (by first | exact Nat.le_refl _ | omega | (simp only [lo_push, lo_setVar]; omega)) (by rfl)
theorem c80_ok (c : CL) (F P : PV) (p : List Int) (hF : SlOf 3 encF F c.figs) (hP : SlOf 1 encI P p) (hc : OkL c) (hp0 : OkP c p) (h : fault c p = none) (st : St) : Cl EE (.func 80 [paPV c F P] []) [] st (.ret (.tuple [])) st := by
 have hFc := hF.cells
 have hPc := hP.cells
 have c1 := c128 c F P p hF hP hc hp0
 rw [h] at c1
 refine cl_fn (pr80 · _ _) fn80 1 rfl (by decide) (fun tm hl hg => ?_); have h0 : tg tm 0 = paPV c F P := (hg 0 (by decide)); clear hg
 refine go (bw7 hl h0 fltO_none fltO_some zeroF_e @isS @isN) (bw c1 fnil) ?_
 exact fnq_tuple' results_nil (by simp only [lo_push, lo_setVar]; omega) (by rfl)
theorem c80_no (c : CL) (F P : PV) (p : List Int) (hF : SlOf 3 encF F c.figs) (hP : SlOf 1 encI P p) (hc : OkL c) (hp0 : OkP c p) (f : Flt) (h : fault c p = some f) (st : St) : ClX EE (.func 80 [paPV c F P] []) [] st (.iface 133 (fltPV f)) (fun st' => Fr st.heap.length st st') := by
 have hFc := hF.cells
 have hPc := hP.cells
 have c1 := c128 c F P p hF hP hc hp0
 rw [h] at c1
 refine clx_fn (pr80 · _ _) fn80 1 rfl (by decide) (fun tm hl hg => ?_)
 have h0 : tg tm 0 = paPV c F P := hg 0 (by decide)
 clear hg
 refine go (bw6 hl h0 fltO_none fltO_some @isS @isN) (bw c1 fnil) ?_
 refine fnx_panic ⟨by simp only [len_push, len_setVar]; omega, by simp only [lo_push, lo_setVar, len_push]; omega, fun l hl => ?_, by simp only [lo_push, lo_setVar, len_push]; omega⟩
 have h1 : (l = st.heap.length) = False := by simp; omega
 have h2 : ∀ k, (l = st.heap.length + k) = False := by simp; omega
 have : ∀ st1 : St, hp { heap := st1.heap, lo := min st.lo st1.lo } l = hp st1 l := fun _ => rfl
 rw [this]
 simp only [go_sem, h1, h2]
 rfl
theorem c79 {dg : Nat} {da dc : List PV} {st st' : St} {r : CR} {v : PV} (h : Cl EE (.func dg da dc) [] st r st') (hr : ∀ rec : Rec, rec.call (.func dg da dc) [] st = some (r, st') → tryR rec (.func dg da dc) st = some (some (.ret v, st'))) : Cl EE (.func 79 [] []) [.func dg da dc] st (.ret v) st' := by
 obtain ⟨N, hN⟩ := h
 refine ⟨N + 1, fun n hn => ?_⟩
 obtain ⟨m, rfl⟩ : ∃ m, n = m + 1 := ⟨n - 1, by omega⟩
 have h1 := hr (run EE m) (hN m (by omega))
 show stepCall EE (run EE m) (.func 79 [] []) [.func dg da dc] st = _
 have h2 : EE.prim 79 (run EE m) ([] ++ [.func dg da dc] ++ []) st = tryR (run EE m) (.func dg da dc) st := rfl
 simp only [stepCall, enter, h2, h1]
theorem c79_ret {dg : Nat} {da dc : List PV} {st st' : St} {v : PV} (h : Cl EE (.func dg da dc) [] st (.ret v) st') : Cl EE (.func 79 [] []) [.func dg da dc] st (.ret (.tuple [zeroF, iv 0])) st' :=
 c79 h (fun rec hr => by simp only [tryR, hr])
theorem c79_found {dg : Nat} {da dc : List PV} {st st' : St} {f : Flt} (h : Cl EE (.func dg da dc) [] st (.panic (.iface 133 (fltPV f))) st') : Cl EE (.func 79 [] []) [.func dg da dc] st (.ret (.tuple [fltPV f, iv 7])) st' :=
 c79 h (fun rec hr => by simp only [tryR, hr])
theorem c79_none {dg : Nat} {da dc : List PV} {st st' : St} {s : ByteArray} (h : Cl EE (.func dg da dc) [] st (.panic (.iface 135 (.agg [.str s]))) st') : Cl EE (.func 79 [] []) [.func dg da dc] st (.ret (.tuple [zeroF, iv 4])) st' :=
 c79 h (fun rec hr => by simp only [tryR, hr])
def wrongR (c : CL) (p : List Int) : Option Flt × Int := if listB c && packB c p then (match fault c p with | some f => (some f, 0) | none => (none, 5)) else (none, 2)
set_option maxHeartbeats 1000000 in
theorem c27 (c : CL) (F P : PV) (p : List Int) (hF : SlOf 3 encF F c.figs) (hP : SlOf 1 encI P p) (st : St) : Cl EE (.func 27 [] []) [clPV c F, P] st (.ret (.tuple [fltO (wrongR c p).1, iv (wrongR c p).2])) st := by
 have hFc := hF.cells
 have hPc := hP.cells
 refine cl_fn (pr27 · _ _) fn27 2 rfl (by decide) (fun tm hl hg => ?_); have h0 : tg tm 0 = clPV c F := (hg 0 (by decide)); have h1 : tg tm 1 = P := (hg 1 (by decide)); clear hg
 cases hA : listB c
 ·have e : wrongR c p = (none, 2) := by simp [wrongR, hA]
  rw [e]
  refine go (bw4 hl h0 h1 hA) (bw (c77 c F hF) fnil) ?_
  refine fnq_tuple (results_two (v := zeroF) (u := iv 2) ?_ ?_) (by simp only [lo_push, lo_setVar]; omega) (by rfl)
  ·rw [rdRes_hp (l := st.heap.length + 1) (off := 0) (by simp only [go_sem, hl])]
   simp only [go_sem, hl]; rfl
  ·rw [rdRes_tmp]; simp only [go_sem, hl]
 ·cases hB : packB c p
  ·have e : wrongR c p = (none, 2) := by simp [wrongR, hA, hB]
   rw [e]
   refine go (bw5 hl h0 h1 hA hB) (bw3 (c77 c F hF) (c78 c F P p hF hP hA) fnil) ?_
   refine fnq_tuple (results_two (v := zeroF) (u := iv 2) ?_ ?_) (by simp only [lo_push, lo_setVar]; omega) (by rfl)
   ·rw [rdRes_hp (l := st.heap.length + 1) (off := 0) (by simp only [go_sem, hl])]
    simp only [go_sem, hl]; rfl
   ·rw [rdRes_tmp]; simp only [go_sem, hl]
  ·have hc := OkL.of hA
   have hp0 := OkP.of hB
   cases hf : fault c p with
   | none =>
    have e : wrongR c p = (none, 5) := by simp [wrongR, hA, hB, hf]
    rw [e]
    refine go (bw7 hl h0 h1 hA hB hPc zeroF_e) (bw4 (c77 c F hF) (c78 c F P p hF hP hA) (fun st => c79_ret (c80_ok c F P p hF hP hc hp0 hf st)) fnil) ?_
    refine fnq_tuple (results_two (v := zeroF) (u := iv 5) ?_ ?_) (by simp only [lo_push, lo_setVar]; omega) (by rfl)
    ·rw [rdRes_hp (l := st.heap.length + 1) (off := 0) (by simp only [go_sem, hl])]
     simp only [go_sem, hl]; rfl
    ·rw [rdRes_tmp]; simp only [go_sem, hl]
   | some f =>
    have e : wrongR c p = (some f, 0) := by simp [wrongR, hA, hB, hf]
    rw [e]
    refine go (bw6 hl h0 h1 hA hB hPc) (bw3 (c77 c F hF) (c78 c F P p hF hP hA) fnil) ?_
    obtain ⟨st2, hx, hFr⟩ := c80_no c F P p hF hP hc hp0 f hf ((({ heap := st.heap, lo := st.heap.length } : St).push (.var [iv c.room, iv c.depth, F])).push (.var [iv 0, iv 0, iv 0]))
    have f1 := hFr.len
    have f2 := hFr.lo
    simp only [len_push, lo_push] at f1 f2
    have h4 : hp st2 (st.heap.length + 1) = some (.var [iv 0, iv 0, iv 0]) := by
     rw [hFr.old _ (by simp only [len_push]; omega)]; simp only [go_sem]
    have l4 := hp_lt h4
    refine go (bw6 hl h4 (neL l4) (neA l4) (ltL l4) (ltA l4)) (bw (c79_found hx) fnil) ?_
    refine fnq_tuple (results_two (v := fltPV f) (u := iv 0) ?_ ?_) (by simp only [lo_push, lo_setVar]; omega) (by rfl)
    ·rw [rdRes_hp (l := st.heap.length + 1) (off := 0) (by simp only [go_sem, hl])]
     simp only [go_sem, hl, h4, neL l4, neA l4, ltL l4, ltA l4]
    ·rw [rdRes_tmp]; simp only [go_sem, hl]
theorem c109 (F : PV) (l : List Int) (hF : SlOf 1 encI F l) (hN : l.length < 1000) (st : St) : ClR EE (.func 109 [] []) [F] st (RetS st 1 l.length (l.flatMap encI)) := by
 have h := hF.sl
 refine clr_fn (pr109 · _ _) fn109 1 rfl (by decide) (fun tm hl hg => ?_); have h0 : tg tm 0 = F := (hg 0 (by decide)); clear hg
 cases F with
 | nilslice =>
  simp only [PV.sl, Option.some.injEq, Prod.mk.injEq] at h
  have : l = [] := by simpa using h.1.symm
  subst this
  refine go (bw hl h0) fnil ?_
  exact fnr_ret (results_one (v := .nilslice) (by rw [rdRes_tmp]; simp only [go_sem, hl])) (OwnS.nil.finish (by simp) (fun m c hc => by cases hc))
 | slice o n cs =>
  simp only [PV.sl, Option.some.injEq, Prod.mk.injEq] at h
  obtain ⟨rfl, rfl⟩ := h
  refine go (bw hl h0) fnil ?_
  have hO : OwnS st.heap.length ((⟨st.heap, st.heap.length⟩ : St).push (.tag true)) 1 (.slice (.tag st.heap.length 1) 0 []) 0 [] := ⟨by simp, .inr ⟨_, rfl, Nat.le_refl _, by rw [hp_push, if_pos rfl]⟩⟩
  refine wops_append rfl rfl (by simp only [go_sem, hl]; first | done | rfl) (by simp only [go_sem, hl, h0]; first | done | rfl) hO rfl (by simp only [len_push]; omega) (by rw [flatMap_len (sz := 1) (fun _ _ => rfl)]) (by simp [encI_map, PV.isCell]) (by simp only [maxList]; omega) ?_
  intro v' st2 hO' hFr hk
  refine go hl fnil ?_
  refine fnr_ret (results_one (v := v') (by rw [rdRes_tmp]; simp only [go_sem, hl])) (OwnS.finish (n := l.length) (cs := l.flatMap encI) ?_ ?_ (fun m c hc => encI_low l m c hc))
  ·have : List.map PV.share (List.flatMap encI l) = List.flatMap encI l := by simp [encI_map, PV.share]
   simpa [this] using hO'
  ·have := hFr.lo
   simp only [lo_push] at this
   omega
 | _ => simp [PV.sl] at h
end Go.Den.Ch
end

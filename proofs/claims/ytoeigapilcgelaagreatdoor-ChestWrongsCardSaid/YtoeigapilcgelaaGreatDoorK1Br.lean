/- Part of the proofs of laws of the package chest: the interpreter Den, its soundness, and contracts of the program's functions over it. Texts: ChMb, ChShelf. -/
import Derived.Test.YtoeigapilcgelaaGreatDoorK1Bq
import Derived.Shelf.Strconv.Itoa3
import Derived.Shelf.Strings.OnBuilder
import Derived.Shelf.Strings.Split
import Derived.Test.YtoeigapilcgelaaGreatDoorProg
set_option linter.unusedSimpArgs false
set_option linter.unusedVariables false
section
namespace Go.Den.Ch
theorem wrong_cases (c : CL) (F P : PV) (p : List Int) (hF : SlOf 3 encF F c.figs) (hP : SlOf 1 encI P p) (hA : listB c = true) (hB : packB c p = true) : ∃ r o1 o2 e : Int, (∀ st, Cl EE (.func 27 [] []) [clPV c F, P] st (.ret (.tuple [.agg [iv r, iv o1, iv o2], iv e])) st) ∧ ((fault c p = none ∧ e = 5) ∨ (fault c p = some ⟨r, o1, o2⟩ ∧ e = 0)) := by
 have h27 := c27 c F P p hF hP
 have ew : wrongR c p = match fault c p with | some f => (some f, 0) | none => (none, 5) := by unfold wrongR; rw [hA, hB]; rfl
 rw [ew] at h27
 cases hf : fault c p with
 | none => rw [hf] at h27; exact ⟨0, 0, 0, 5, h27, .inl ⟨rfl, rfl⟩⟩
 | some f => rw [hf] at h27; exact ⟨f.rule, f.one, f.other, 0, h27, .inr ⟨rfl, rfl⟩⟩
def fitsB (c : CL) (p : List Int) : Bool := packB c p && (fault c p).isNone
theorem c37 (c : CL) (F P : PV) (p : List Int) (hF : SlOf 3 encF F c.figs) (hP : SlOf 1 encI P p) (hA : listB c = true) (hN : p.length < 1000000) (st : St) : Cl EE (.func 37 [] []) [clPV c F, P] st (.ret (.bool (fitsB c p))) st := by
 have hFc := hF.cells
 have hFi := hF.isCell
 have hc := OkL.of hA
 have k25 := c25 c F P p hF hP hN ⟨hc.d0, hc.d1⟩
 refine cl_fn (pr37 · _ _) fn37 2 rfl (by decide) (fun tm hl hg => ?_); have h0 : tg tm 0 = clPV c F := (hg 0 (by decide)); have h1 : tg tm 1 = P := (hg 1 (by decide)); clear hg
 cases hB : packB c p
 ·have e : fitsB c p = false := by simp [fitsB, hB]
  rw [e]
  refine go (bw4 hl h0 h1 hB) (bw k25 fnil) ?_
  refine fnq_flat (results_one (by rw [rdRes_tmp]; simp only [↓reduceIte, go_sem, hl]; first | done | rfl)) (by first | exact Nat.le_refl _ | omega | (simp only [lo_push, lo_setVar]; omega)) (by rfl)
 ·obtain ⟨r, o1, o2, e, k27, hcase⟩ := wrong_cases c F P p hF hP hA hB
  have he : (e == 5) = fitsB c p := by
   rcases hcase with ⟨h, rfl⟩ | ⟨h, rfl⟩ <;> simp [fitsB, hB, h]
  refine go (bw5 hl h0 h1 hB he) (bw3 k25 k27 fnil) ?_
  refine fnq_flat (results_one (by rw [rdRes_tmp]; simp only [↓reduceIte, go_sem, hl]; first | done | rfl)) (by first | exact Nat.le_refl _ | omega | (simp only [lo_push, lo_setVar]; omega)) (by rfl)
theorem bef_end {l m : List Int} {i : Nat} (ht : l.take i = m.take i) (h1 : i ≤ l.length) (h2 : i ≤ m.length) (h : i = l.length ∨ i = m.length) : bef l m = decide ((l.length : Int) < m.length) := by
 have hbd : bef l m = bef (l.drop i) (m.drop i) := by
  conv => lhs; rw [← List.take_append_drop i l, ← List.take_append_drop i m, ht]
  exact bef_app _ _ _
 have e1 : (l.drop i).length = l.length - i := List.length_drop
 have e2 : (m.drop i).length = m.length - i := List.length_drop
 rw [hbd]
 cases hl : l.drop i with
 | nil =>
  rw [hl] at e1
  cases hm : m.drop i with
  | nil => rw [hm] at e2; simp at e1 e2; simp [bef]; omega
  | cons y m' => rw [hm] at e2; simp at e1 e2; simp [bef]; omega
 | cons x l' =>
  rw [hl] at e1
  cases hm : m.drop i with
  | nil => rw [hm] at e2; simp at e1 e2; simp [bef]; omega
  | cons y m' => rw [hm] at e2; simp at e1 e2; omega
theorem bef_at {l m : List Int} {i : Nat} (ht : l.take i = m.take i) (h1 : i < l.length) (h2 : i < m.length) (h : l[i] ≠ m[i]) : bef l m = decide (l[i] < m[i]) := by
 have hbd : bef l m = bef (l.drop i) (m.drop i) := by
  conv => lhs; rw [← List.take_append_drop i l, ← List.take_append_drop i m, ht]
  exact bef_app _ _ _
 rw [hbd, List.drop_eq_getElem_cons h1, List.drop_eq_getElem_cons h2, bef, if_neg h]
set_option maxHeartbeats 1000000 in
theorem c38 (F G : PV) (l m : List Int) (hF : SlOf 1 encI F l) (hG : SlOf 1 encI G m) (hN : l.length < 1000000) (st : St) : Cl EE (.func 38 [] []) [F, G] st (.ret (.bool (bef l m))) st := by
 have hFs := hF.slen
 have hGs := hG.slen
 refine cl_fn (pr38 · _ _) fn38 2 rfl (by decide) (fun tm hl hg => ?_); have h0 : tg tm 0 = F := (hg 0 (by decide)); have h1 : tg tm 1 = G := (hg 1 (by decide)); clear hg
 refine go (bw3 hl h0 h1) fnil ?_
 refine wp_for [5] (fun i vs st1 => vs = [iv i] ∧ i ≤ l.length ∧ i ≤ m.length ∧ l.take i = m.take i ∧ st1 = { heap := st.heap, lo := st.heap.length }) (fun i => l.length - i) ⟨by simp only [↓reduceIte, go_sem, hl]; first | done | rfl, Nat.zero_le _, Nat.zero_le _, rfl, rfl⟩ ?_
 rintro i tm1 st1 ⟨hv, hi, hi2, ht, rfl⟩ hS
 simp only [List.map_cons, List.map_nil, List.cons.injEq, and_true] at hv
 have hl1 : tm1.length = 41 := (by rw [hS.1]; simp only [put_len, hl]); have i0 : tg tm1 0 = F := (by rw [hS.2 0 (by decide)]; simp only [↓reduceIte, go_sem, hl, h0, h1]); have i1 : tg tm1 1 = G := (by rw [hS.2 1 (by decide)]; simp only [↓reduceIte, go_sem, hl, h0, h1]); clear hS
 cases d1 : decide ((i : Int) < l.length)
 ·have := of_decide_eq_false d1
  refine go (bw5 hl1 hv i0 hFs d1) fnil ?_
  refine ⟨false, by simp only [↓reduceIte, go_sem, hl1], fun _ => ?_, fun hb => by cases hb⟩
  rw [bef_end ht hi hi2 (by omega)]
  refine go (bw5 hl1 i0 i1 hFs hGs) fnil ?_
  refine fnq_flat (results_one (by rw [rdRes_tmp]; simp only [↓reduceIte, go_sem, hl1]; first | done | rfl)) (by first | exact Nat.le_refl _ | omega | (simp only [lo_push, lo_setVar]; omega)) (by rfl)
 have hlt : i < l.length := by have := of_decide_eq_true d1; omega
 cases d2 : decide ((i : Int) < m.length)
 ·have := of_decide_eq_false d2
  refine go (bw8 hl1 hv i0 i1 hFs hGs d1 d2) fnil ?_
  refine ⟨false, by simp only [↓reduceIte, go_sem, hl1], fun _ => ?_, fun hb => by cases hb⟩
  rw [bef_end ht hi hi2 (by omega)]
  refine go (bw5 hl1 i0 i1 hFs hGs) fnil ?_
  refine fnq_flat (results_one (by rw [rdRes_tmp]; simp only [↓reduceIte, go_sem, hl1]; first | done | rfl)) (by first | exact Nat.le_refl _ | omega | (simp only [lo_push, lo_setVar]; omega)) (by rfl)
 have hlt2 : i < m.length := by have := of_decide_eq_true d2; omega
 have hw1 : IntKind.wrap .i64 ((i : Int) + 1) = ((i + 1 : Nat) : Int) := wrap_nat (n := i + 1) (by omega)
 refine go (bw8 hl1 hv i0 i1 hFs hGs d1 d2) fnil ?_
 refine ⟨true, by simp only [↓reduceIte, go_sem, hl1], (fun hb => by cases hb), fun _ => ⟨by omega, ?_⟩⟩
 cases hx : (l[i] != m[i])
 ·refine go (bw6 hl1 hv i0 i1 hw1 hx) fnil ?_
  exact ⟨by simp only [↓reduceIte, go_sem, hl1], by omega, by omega, take_snoc_eq hlt hlt2 ht (bne_eq_false_iff_eq.1 hx), rfl⟩
 ·rw [bef_at ht hlt hlt2 (bne_iff_ne.1 hx)]
  refine go (bw5 hl1 hv i0 i1 hx) fnil ?_
  refine fnq_flat (results_one (by rw [rdRes_tmp]; simp only [↓reduceIte, go_sem, hl1]; first | done | rfl)) (by first | exact Nat.le_refl _ | omega | (simp only [lo_push, lo_setVar]; omega)) (by rfl)
theorem rising_all {n : Nat} {l : List Int} (h : ∀ k < l.length, riseP n l k = true) : risingB n l = true := List.all_eq_true.2 fun k hk => h k (List.mem_range.1 hk)
theorem rising_not {n : Nat} {l : List Int} {k : Nat} (hk : k < l.length) (h : riseP n l k = false) : risingB n l = false := List.all_eq_false.2 ⟨k, List.mem_range.2 hk, by rw [h]; simp⟩
set_option maxHeartbeats 2000000 in
theorem c45 (c : CL) (F G : PV) (l : List Int) (hF : SlOf 3 encF F c.figs) (hG : SlOf 1 encI G l) (hN : l.length < 1000000) (hn : c.figs.length < 1000000) (st : St) : Cl EE (.func 45 [] []) [clPV c F, G] st (.ret (.bool (risingB c.figs.length l))) st := by
 have hGs := hG.slen
 have hFs := hF.slen
 have hFc := hF.cells
 refine cl_fn (pr45 · _ _) fn45 2 rfl (by decide) (fun tm hl hg => ?_); have h0 : tg tm 0 = clPV c F := (hg 0 (by decide)); have h1 : tg tm 1 = G := (hg 1 (by decide)); clear hg
 refine go (bw hl h0) fnil ?_
 refine wp_for [5] (fun i vs st1 => vs = [iv i] ∧ i ≤ l.length ∧ (∀ k < i, riseP c.figs.length l k = true) ∧ st1 = ({ heap := st.heap, lo := st.heap.length } : St).push (.var [iv c.room, iv c.depth, F])) (fun i => l.length - i) ⟨by simp only [↓reduceIte, go_sem, hl]; first | done | rfl, Nat.zero_le _, (fun k hk => absurd hk (by omega)), by first | done | rfl⟩ ?_
 rintro i tm1 st1 ⟨hv, hi, hk, rfl⟩ hS
 simp only [List.map_cons, List.map_nil, List.cons.injEq, and_true] at hv
 have hl1 : tm1.length = 38 := (by rw [hS.1]; simp only [put_len, hl]); have i1 : tg tm1 1 = G := (by rw [hS.2 1 (by decide)]; simp only [↓reduceIte, go_sem, hl, h1]); have i2 : tg tm1 2 = .ptr st.heap.length 0 := (by rw [hS.2 2 (by decide)]; simp only [↓reduceIte, go_sem, hl, h1]); clear hS
 refine go (bw4 hl1 hv i1 hGs) fnil ?_
 refine ⟨decide ((i : Int) < l.length), by simp only [↓reduceIte, go_sem, hl1], fun hb => ?_, fun hb1 => ?_⟩
 ·have hlt := of_decide_eq_false hb
  rw [rising_all (fun k h => hk k (by omega))]
  refine go hl1 fnil ?_
  refine fnq_flat (results_one (by rw [rdRes_tmp]; simp only [↓reduceIte, go_sem, hl1]; first | done | rfl)) (by first | exact Nat.le_refl _ | omega | (simp only [lo_push, lo_setVar]; omega)) (by rfl)
 ·have hlt : i < l.length := by have := of_decide_eq_true hb1; omega
  have hw1 : IntKind.wrap .i64 ((i : Int) + 1) = ((i + 1 : Nat) : Int) := wrap_nat (n := i + 1) (by omega)
  have hwn : IntKind.wrap .i64 ((c.figs.length : Int) - 1) = (c.figs.length : Int) - 1 := wrap_in (by unfold inI; omega)
  have eg : l.getD i 0 = l[i] := by rw [List.getD_eq_getElem?_getD, List.getElem?_eq_getElem hlt]; rfl
  refine ⟨by omega, ?_⟩
  cases hx : inB l[i] 0 ((c.figs.length : Int) - 1)
  ·rw [rising_not hlt (by unfold riseP; rw [eg, hx]; rfl)]
   refine go (bw7 hl1 hv i1 i2 hFs hwn hx) (bw c74 fnil) ?_
   refine fnq_flat (results_one (by rw [rdRes_tmp]; simp only [↓reduceIte, go_sem, hl1]; first | done | rfl)) (by first | exact Nat.le_refl _ | omega | (simp only [lo_push, lo_setVar]; omega)) (by rfl)
  ·cases hd : decide ((i : Int) > 0)
   ·have := of_decide_eq_false hd
    have hr : riseP c.figs.length l i = true := by
     have : decide (0 < i) = false := by simp; omega
     unfold riseP; rw [eg, hx, this]; rfl
    refine go (bw9 hl1 hv i1 i2 hFs hwn hx hd hw1) (bw c74 fnil) ?_
    refine ⟨by simp only [↓reduceIte, go_sem, hl1], by omega, (fun k h => ?_), rfl⟩
    by_cases hki : k = i
    ·rw [hki]; exact hr
    ·exact hk k (by omega)
   ·have hpos := of_decide_eq_true hd
    obtain ⟨j, rfl⟩ : ∃ j, i = j + 1 := ⟨i - 1, by omega⟩
    have hwm : IntKind.wrap .i64 (((j + 1 : Nat) : Int) - 1) = (j : Int) := by rw [wrap_in (by unfold inI; omega)]; omega
    have hj : j < l.length := by omega
    have ej : l.getD (j + 1 - 1) 0 = l[j] := by rw [List.getD_eq_getElem?_getD, Nat.add_sub_cancel, List.getElem?_eq_getElem hj]; rfl
    have hr : riseP c.figs.length l (j + 1) = !decide (l[j + 1] ≤ l[j]) := by
     unfold riseP; rw [eg, ej, hx]; simp
    cases hy : decide (l[j + 1] ≤ l[j])
    ·rw [hy] at hr
     refine go (bw11 hl1 hv i1 i2 hFs hwn hx hd hw1 hwm hy) (bw c74 fnil) ?_
     refine ⟨by simp only [↓reduceIte, go_sem, hl1], by omega, (fun k h => ?_), rfl⟩
     by_cases hki : k = j + 1
     ·rw [hki]; exact hr
     ·exact hk k (by omega)
    ·rw [hy] at hr
     rw [rising_not hlt hr]
     refine go (bw10 hl1 hv i1 i2 hFs hwn hx hd hwm hy) (bw c74 fnil) ?_
     refine fnq_flat (results_one (by rw [rdRes_tmp]; simp only [↓reduceIte, go_sem, hl1]; first | done | rfl)) (by first | exact Nat.le_refl _ | omega | (simp only [lo_push, lo_setVar]; omega)) (by rfl)
theorem hasI_yes {l : List Int} {x : Int} {i : Nat} (hi : i < l.length) (h : (l[i] == x) = true) : hasI l x = true := List.any_eq_true.2 ⟨_, List.getElem_mem hi, by rw [beq_iff_eq] at h ⊢; exact h.symm⟩
theorem hasI_no {l : List Int} {x : Int} (h : ∀ k (hk : k < l.length), (l[k] == x) = false) : hasI l x = false := List.any_eq_false.2 fun a ha => by
 obtain ⟨k, hk, rfl⟩ := List.getElem_of_mem ha
 have := h k hk
 rw [beq_eq_false_iff_ne] at this
 simp [Ne.symm this]
set_option maxHeartbeats 1000000 in
theorem c48 (F : PV) (l : List Int) (x : Int) (hF : SlOf 1 encI F l) (hN : l.length < 1000000) (st : St) : Cl EE (.func 48 [] []) [F, iv x] st (.ret (.bool (hasI l x))) st := by
 have hFs := hF.slen
 refine cl_fn (pr48 · _ _) fn48 2 rfl (by decide) (fun tm hl hg => ?_); have h0 : tg tm 0 = F := (hg 0 (by decide)); have h1 : tg tm 1 = iv x := (hg 1 (by decide)); clear hg
 refine go (bw hl h0) fnil ?_
 refine wp_for [5] (fun i vs st1 => vs = [iv i] ∧ i ≤ l.length ∧ (∀ k < i, ∀ hk : k < l.length, (l[k] == x) = false) ∧ st1 = { heap := st.heap, lo := st.heap.length }) (fun i => l.length - i) ⟨by simp only [↓reduceIte, go_sem, hl]; first | done | rfl, Nat.zero_le _, (fun k hk => absurd hk (by omega)), rfl⟩ ?_
 rintro i tm1 st1 ⟨hv, hi, hk, rfl⟩ hS
 simp only [List.map_cons, List.map_nil, List.cons.injEq, and_true] at hv
 have hl1 : tm1.length = 18 := (by rw [hS.1]; simp only [put_len, hl]); have i0 : tg tm1 0 = F := (by rw [hS.2 0 (by decide)]; simp only [↓reduceIte, go_sem, hl, h0, h1]); have i1 : tg tm1 1 = iv x := (by rw [hS.2 1 (by decide)]; simp only [↓reduceIte, go_sem, hl, h0, h1]); clear hS
 refine go (bw4 hl1 hv i0 hFs) fnil ?_
 refine ⟨decide ((i : Int) < l.length), by simp only [↓reduceIte, go_sem, hl1], fun hb => ?_, fun hb1 => ?_⟩
 ·have hlt := of_decide_eq_false hb
  rw [hasI_no (fun k h => hk k (by omega) h)]
  refine go hl1 fnil ?_
  refine fnq_flat (results_one (by rw [rdRes_tmp]; simp only [↓reduceIte, go_sem, hl1]; first | done | rfl)) (by first | exact Nat.le_refl _ | omega | (simp only [lo_push, lo_setVar]; omega)) (by rfl)
 ·have hlt : i < l.length := by have := of_decide_eq_true hb1; omega
  have hw1 : IntKind.wrap .i64 ((i : Int) + 1) = ((i + 1 : Nat) : Int) := wrap_nat (n := i + 1) (by omega)
  refine ⟨by omega, ?_⟩
  cases hx : (l[i] == x)
  ·refine go (bw6 hl1 hv i0 i1 hx hw1) fnil ?_
   refine ⟨by simp only [↓reduceIte, go_sem, hl1], by omega, (fun k h hkl => ?_), rfl⟩
   by_cases hki : k = i
   ·subst hki; exact hx
   ·exact hk k (by omega) hkl
  ·rw [hasI_yes hlt hx]
   refine go (bw5 hl1 hv i0 i1 hx) fnil ?_
   refine fnq_flat (results_one (by rw [rdRes_tmp]; simp only [↓reduceIte, go_sem, hl1]; first | done | rfl)) (by first | exact Nat.le_refl _ | omega | (simp only [lo_push, lo_setVar]; omega)) (by rfl)
def movedT (p q : List Int) (n : Nat) : Int := (((List.range n).filter (movP p q)).length : Int)
def movedM (p q : List Int) : Int := movedT p q (min p.length q.length)
theorem movedT_succ (p q : List Int) (i : Nat) : movedT p q (i + 1) = movedT p q i + (if movP p q i then 1 else 0) := by
 unfold movedT
 rw [List.range_succ, List.filter_append, List.length_append]
 cases h : movP p q i <;> simp [h]
theorem movedT_bound (p q : List Int) (i : Nat) : 0 ≤ movedT p q i ∧ movedT p q i ≤ i := by
 unfold movedT
 have := List.length_filter_le (movP p q) (List.range i)
 rw [List.length_range] at this
 omega
set_option maxHeartbeats 1000000 in
theorem c56 (F G : PV) (l m : List Int) (hF : SlOf 1 encI F l) (hG : SlOf 1 encI G m) (hN : l.length < 1000000) (st : St) : Cl EE (.func 56 [] []) [F, G] st (.ret (iv (movedM l m))) st := by
 have hFs := hF.slen
 have hGs := hG.slen
 refine cl_fn (pr56 · _ _) fn56 2 rfl (by decide) (fun tm hl hg => ?_); have h0 : tg tm 0 = F := (hg 0 (by decide)); have h1 : tg tm 1 = G := (hg 1 (by decide)); clear hg
 refine go (bw3 hl h0 h1) fnil ?_
 refine wp_for [6, 5] (fun i vs st1 => vs = [iv i, iv (movedT l m i)] ∧ i ≤ l.length ∧ i ≤ m.length ∧ st1 = { heap := st.heap, lo := st.heap.length }) (fun i => l.length - i) ⟨by simp only [↓reduceIte, go_sem, hl]; first | done | rfl, Nat.zero_le _, Nat.zero_le _, rfl⟩ ?_
 rintro i tm1 st1 ⟨hv, hi, hi2, rfl⟩ hS
 simp only [List.map_cons, List.map_nil, List.cons.injEq, and_true] at hv
 obtain ⟨hv6, hv5⟩ := hv
 have hl1 : tm1.length = 31 := (by rw [hS.1]; simp only [put_len, hl]); have i0 : tg tm1 0 = F := (by rw [hS.2 0 (by decide)]; simp only [↓reduceIte, go_sem, hl, h0, h1]); have i1 : tg tm1 1 = G := (by rw [hS.2 1 (by decide)]; simp only [↓reduceIte, go_sem, hl, h0, h1]); clear hS
 cases d1 : decide ((i : Int) < l.length)
 ·have := of_decide_eq_false d1
  refine go (bw5 hl1 hv6 i0 hFs d1) fnil ?_
  refine ⟨false, by simp only [↓reduceIte, go_sem, hl1], fun _ => ?_, fun hb => by cases hb⟩
  have e : movedM l m = movedT l m i := by unfold movedM; rw [show min l.length m.length = i by omega]
  rw [e]
  refine go (bw hl1 hv5) fnil ?_
  refine fnq_flat (results_one (by rw [rdRes_tmp]; simp only [↓reduceIte, go_sem, hl1]; first | done | rfl)) (by first | exact Nat.le_refl _ | omega | (simp only [lo_push, lo_setVar]; omega)) (by rfl)
 have hlt : i < l.length := by have := of_decide_eq_true d1; omega
 cases d2 : decide ((i : Int) < m.length)
 ·have := of_decide_eq_false d2
  refine go (bw8 hl1 hv6 i0 i1 hFs hGs d1 d2) fnil ?_
  refine ⟨false, by simp only [↓reduceIte, go_sem, hl1], fun _ => ?_, fun hb => by cases hb⟩
  have e : movedM l m = movedT l m i := by unfold movedM; rw [show min l.length m.length = i by omega]
  rw [e]
  refine go (bw hl1 hv5) fnil ?_
  refine fnq_flat (results_one (by rw [rdRes_tmp]; simp only [↓reduceIte, go_sem, hl1]; first | done | rfl)) (by first | exact Nat.le_refl _ | omega | (simp only [lo_push, lo_setVar]; omega)) (by rfl)
 have hlt2 : i < m.length := by have := of_decide_eq_true d2; omega
 have hw1 : IntKind.wrap .i64 ((i : Int) + 1) = ((i + 1 : Nat) : Int) := wrap_nat (n := i + 1) (by omega)
 have hmv : movP l m i = (l[i] != m[i]) := by
  unfold movP
  rw [List.getD_eq_getElem?_getD, List.getD_eq_getElem?_getD, List.getElem?_eq_getElem hlt, List.getElem?_eq_getElem hlt2]
  rfl
 have hb := movedT_bound l m i
 have hsu := movedT_succ l m i
 rw [hmv] at hsu
 refine go (bw8 hl1 hv6 i0 i1 hFs hGs d1 d2) fnil ?_
 refine ⟨true, by simp only [↓reduceIte, go_sem, hl1], (fun hb => by cases hb), fun _ => ⟨by omega, ?_⟩⟩
 cases hx : (l[i] != m[i])
 ·rw [hx] at hsu
  simp only [Bool.false_eq_true, if_false, Int.add_zero] at hsu
  refine go (bw7 hl1 hv6 hv5 i0 i1 hw1 hx) fnil ?_
  exact ⟨by simp only [↓reduceIte, go_sem, hl1, hsu, hv5], by omega, by omega, rfl⟩
 ·rw [hx] at hsu
  simp only [if_true] at hsu
  have hw : IntKind.wrap .i64 (movedT l m i + 1) = movedT l m (i + 1) := by rw [hsu]; exact wrap_in (by unfold inI; omega)
  refine go (bw8 hl1 hv6 hv5 i0 i1 hw1 hw hx) fnil ?_
  exact ⟨by simp only [↓reduceIte, go_sem, hl1], by omega, by omega, rfl⟩
theorem r31 (c : CL) (F : PV) (hF : SlOf 3 encF F c.figs) (st : St) : ClR EE (.func 31 [] []) [clPV c F] st (fun v st' => ∃ P, v = .tuple [P, iv (bestR c).2.1, iv (bestR c).2.2] ∧ SlOf 1 encI P (bestR c).1 ∧ Keep st st') := by
 obtain ⟨v, st', h1, P, e, hW⟩ := c31 c F hF st
 exact ⟨v, st', h1, P, e, retI hW, keepW hW⟩
theorem fits_mem {c : CL} {p : List Int} : fitsB c p = true ↔ p ∈ rightsL c := by
 rw [mem_rights]
 constructor
 ·intro h
  simp only [fitsB, Bool.and_eq_true, Option.isNone_iff_eq_none] at h
  exact ⟨OkP.of h.1, h.2⟩
 ·rintro ⟨h1, h2⟩
  have : packB c p = true := by
   simp only [packB, inB, Bool.and_eq_true, decide_eq_true_eq, List.all_eq_true]
   exact ⟨h1.len, fun x hx => by have := h1.rng x hx; omega⟩
  simp [fitsB, this, h2]
theorem zs : (∀ h : Decidable False, decide (h := h) False = false) ∧ (∀ h : Decidable True, decide (h := h) True = true) ∧ (((0 : Int) != 0) = false) ∧ (((5 : Int) != 0) = true) ∧ (((7 : Int) != 0) = true) ∧ (((5 : Int) == 5) = true) ∧ (((0 : Int) == 0) = true) ∧ (((5 : Int) == 0) = false) ∧ (((7 : Int) == 7) = true) ∧ (((7 : Int) == 0) = false) ∧ (((7 : Int) != 7) = false) ∧ (((5 : Int) != 5) = false) ∧ (decide ((0 : Int) < 0) = false) ∧ (decide ((0 : Int) > 0) = false) ∧ ((true != true) = false) ∧ ((false != false) = false) ∧ ((true != false) = true) ∧ ((false != true) = true) := ⟨fun h => by cases h <;> first | rfl | contradiction, fun h => by cases h <;> first | rfl | contradiction, by decide⟩
theorem nne (n : Int) : (n != n) = false := by simp
theorem r44 (c : CL) (F P G : PV) (p fs : List Int) (hF : SlOf 3 encF F c.figs) (hP : SlOf 1 encI P p) (hG : SlOf 1 encI G fs) (hfs : fs.length < 1000) (st : St) : ClR EE (.func 44 [] []) [clPV c F, P, G] st (fun v st' => ∃ V, v = .tuple [V, iv (outR c p fs).2] ∧ SlOf 1 encI V (outR c p fs).1 ∧ Keep st st') := by
 obtain ⟨v, st', h1, P, e, hW⟩ := c44 c F P G p fs hF hP hG hfs st
 exact ⟨v, st', h1, P, e, retI hW, keepW hW⟩
theorem r49 (c : CL) (F : PV) (hF : SlOf 3 encF F c.figs) (st : St) : ClR EE (.func 49 [] []) [clPV c F] st (fun v st' => ∃ P, v = .tuple [P, iv (easeR c).2.1, iv (easeR c).2.2] ∧ SlOf 1 encI P (easeR c).1 ∧ Keep st st') := by
 obtain ⟨v, st', h1, P, e, hW⟩ := c49 c F hF st
 exact ⟨v, st', h1, P, e, retI hW, keepW hW⟩
theorem r53 (c : CL) (F Q : PV) (q : List Int) (f : Fig) (hF : SlOf 3 encF F c.figs) (hQ : SlOf 1 encI Q q) (st : St) : ClR EE (.func 53 [] []) [clPV c F, Q, figPV f] st (fun v st' => ∃ P, v = .tuple [P, iv (laterR c q f).2.1, iv (laterR c q f).2.2] ∧ SlOf 1 encI P (laterR c q f).1 ∧ Keep st st') := by
 obtain ⟨v, st', h1, P, e, hW⟩ := c53 c F Q q f hF hQ st
 exact ⟨v, st', h1, P, e, retI hW, keepW hW⟩
end Go.Den.Ch
end
section
namespace Go.Proofs
open Go.Shelf
def Tryz.lays156_ren : Go.Shelf.Ren := ⟨fun | 156 => 138 | 165 => 151 | 166 => 152 | 169 => 153 | 240 => 156 | 241 => 157 | 276 => 165 | 277 => 166 | n => n, fun | 31 => 125 | 9 => 9 | 3 => 3 | 4 => 4 | 0 => 0 | 20 => 20 | 72 => 164 | 76 => 168 | 70 => 162 | 37 => 89 | 75 => 167 | 127 => 173 | 164 => 182 | 5 => 5 | 80 => 170 | n => n, fun | n => n⟩
theorem Tryz.lays156 : Go.Proofs.Lays.n156 Tryz.prog Tryz.lays156_ren := {
 mixed := by kernel_rfl
 f156 := Tryz.func138.trans (congrArg some (by kernel_rfl))
 f165 := Tryz.func151.trans (congrArg some (by kernel_rfl))
 f166 := Tryz.func152.trans (congrArg some (by kernel_rfl))
 f169 := Tryz.func153.trans (congrArg some (by kernel_rfl))
 f240 := Tryz.func156.trans (congrArg some (by kernel_rfl))
 f241 := Tryz.func157.trans (congrArg some (by kernel_rfl))
 f276 := Tryz.func165.trans (congrArg some (by kernel_rfl))
 f277 := Tryz.func166.trans (congrArg some (by kernel_rfl))
 t0 := Tryz.underlying0
 a0 := Tryz.isAgg0
 z0 := Tryz.sizeOf0
 v0 := Tryz.zeroValue0
 t3 := Tryz.underlying3
 a3 := Tryz.isAgg3
 z3 := Tryz.sizeOf3
 v3 := Tryz.zeroValue3
 t4 := Tryz.underlying4
 a4 := Tryz.isAgg4
 z4 := Tryz.sizeOf4
 v4 := Tryz.zeroValue4
 t9 := Tryz.underlying9
 a9 := Tryz.isAgg9
 z9 := Tryz.sizeOf9
 v9 := Tryz.zeroValue9
 t20 := Tryz.underlying20
 a20 := Tryz.isAgg20
 z20 := Tryz.sizeOf20
 v20 := Tryz.zeroValue20
 t31 := Tryz.underlying125
 a31 := Tryz.isAgg125
 z31 := Tryz.sizeOf125
 v31 := Tryz.zeroValue125
 t37 := Tryz.underlying89
 a37 := Tryz.isAgg89
 z37 := Tryz.sizeOf89
 v37 := Tryz.zeroValue89
 t70 := Tryz.underlying162
 a70 := Tryz.isAgg162
 z70 := Tryz.sizeOf162
 v70 := Tryz.zeroValue162
 t72 := Tryz.underlying164
 a72 := Tryz.isAgg164
 z72 := Tryz.sizeOf164
 v72 := Tryz.zeroValue164
 t75 := Tryz.underlying167
 a75 := Tryz.isAgg167
 z75 := Tryz.sizeOf167
 v75 := Tryz.zeroValue167
 t76 := Tryz.underlying168
 a76 := Tryz.isAgg168
 z76 := Tryz.sizeOf168
 v76 := Tryz.zeroValue168
 t127 := Tryz.underlying173
 a127 := Tryz.isAgg173
 z127 := Tryz.sizeOf173
 v127 := Tryz.zeroValue173
 t164 := Tryz.underlying182
 a164 := Tryz.isAgg182
 z164 := Tryz.sizeOf182
 v164 := Tryz.zeroValue182 }
theorem Tryz.Builder_Extra_156 : Builder.Extra Tryz.prog Tryz.lays156_ren := {
 sizeBuilder := by kernel_rfl
 liesBuilder := by kernel_rfl
 t5 := Tryz.underlying5
 a5 := Tryz.isAgg5
 z5 := Tryz.sizeOf5
 v5 := Tryz.zeroValue5
 infoByte := by kernel_rfl
 cellsByte := by kernel_rfl
 sizeByte := by kernel_rfl
 neB5 := by decide }
open Go.RowKit in
theorem Tryz.strings_Join_none (a : Option Addr) (c : Nat) (sep : ByteArray) (w : World) :
  Calls Tryz.prog 138 #[.slice a 0 c, .string sep] w fun e w' => e = .returned (.string ⟨#[]⟩) ∧ w' = w := Any.strings_Join_none Tryz.lays156 Tryz.Builder_Extra_156 a c sep w
open Go.RowKit in
theorem Tryz.strings_Join (bk o c : Nat) (xs : List ByteArray) (sep : ByteArray) (w : World) (hcells : ∀ (j : Nat) x, xs[j]? = some x → w.cell? ⟨bk, o + j, none⟩ = some (.string x)) (hbk : bk < w.heap.size) (hN : xs.length ≤ 140737488355328) (hcap : xs.length ≤ c) (hlen : (Lib.join (xs.map (·.data.toList)) sep.data.toList).length ≤ 140737488355328) :
  Calls Tryz.prog 138 #[.slice (some ⟨bk, o, none⟩) xs.length c, .string sep] w fun e w' => e = .returned (.string ⟨(Lib.join (xs.map (·.data.toList)) sep.data.toList).toArray⟩) ∧ Below w.heap.size w w' := Any.strings_Join Tryz.lays156 Tryz.Builder_Extra_156 bk o c xs sep w hcells hbk hN hcap hlen
def Tryz.lays171_ren : Go.Shelf.Ren := ⟨fun | 171 => 137 | 243 => 150 | 246 => 155 | 283 => 161 | 284 => 162 | 285 => 163 | 286 => 164 | 129 => 172 | 317 => 171 | 318 => 173 | 319 => 174 | 320 => 175 | 337 => 181 | 338 => 182 | n => n, fun | 3 => 3 | 9 => 9 | 2 => 2 | 4 => 4 | 171 => 176 | 0 => 0 | 53 => 177 | 37 => 89 | 5 => 5 | 173 => 180 | 212 => 191 | 51 => 192 | 20 => 20 | 213 => 193 | 46 => 194 | 232 => 203 | 233 => 204 | n => n, fun | 17 => 0 | 18 => 4 | 19 => 5 | n => n⟩
theorem Tryz.lays171 : Go.Proofs.Lays.n171 Tryz.prog Tryz.lays171_ren := {
 mixed := by kernel_rfl
 f129 := Tryz.func172.trans (congrArg some (by kernel_rfl))
 f171 := Tryz.func137.trans (congrArg some (by kernel_rfl))
 f243 := Tryz.func150.trans (congrArg some (by kernel_rfl))
 f246 := Tryz.func155.trans (congrArg some (by kernel_rfl))
 f283 := Tryz.func161.trans (congrArg some (by kernel_rfl))
 f284 := Tryz.func162.trans (congrArg some (by kernel_rfl))
 f285 := Tryz.func163.trans (congrArg some (by kernel_rfl))
 f286 := Tryz.func164.trans (congrArg some (by kernel_rfl))
 f317 := Tryz.func171.trans (congrArg some (by kernel_rfl))
 f318 := Tryz.func173.trans (congrArg some (by kernel_rfl))
 f319 := Tryz.func174.trans (congrArg some (by kernel_rfl))
 f320 := Tryz.func175.trans (congrArg some (by kernel_rfl))
 f337 := Tryz.func181.trans (congrArg some (by kernel_rfl))
 f338 := Tryz.func182.trans (congrArg some (by kernel_rfl))
 t0 := Tryz.underlying0
 a0 := Tryz.isAgg0
 z0 := Tryz.sizeOf0
 v0 := Tryz.zeroValue0
 t2 := Tryz.underlying2
 a2 := Tryz.isAgg2
 z2 := Tryz.sizeOf2
 v2 := Tryz.zeroValue2
 t3 := Tryz.underlying3
 a3 := Tryz.isAgg3
 z3 := Tryz.sizeOf3
 v3 := Tryz.zeroValue3
 t4 := Tryz.underlying4
 a4 := Tryz.isAgg4
 z4 := Tryz.sizeOf4
 v4 := Tryz.zeroValue4
 t5 := Tryz.underlying5
 a5 := Tryz.isAgg5
 z5 := Tryz.sizeOf5
 v5 := Tryz.zeroValue5
 t9 := Tryz.underlying9
 a9 := Tryz.isAgg9
 z9 := Tryz.sizeOf9
 v9 := Tryz.zeroValue9
 t20 := Tryz.underlying20
 a20 := Tryz.isAgg20
 z20 := Tryz.sizeOf20
 v20 := Tryz.zeroValue20
 t37 := Tryz.underlying89
 a37 := Tryz.isAgg89
 z37 := Tryz.sizeOf89
 v37 := Tryz.zeroValue89
 t46 := Tryz.underlying194
 a46 := Tryz.isAgg194
 z46 := Tryz.sizeOf194
 v46 := Tryz.zeroValue194
 t51 := Tryz.underlying192
 a51 := Tryz.isAgg192
 z51 := Tryz.sizeOf192
 v51 := Tryz.zeroValue192
 t53 := Tryz.underlying177
 a53 := Tryz.isAgg177
 z53 := Tryz.sizeOf177
 v53 := Tryz.zeroValue177
 t171 := Tryz.underlying176
 a171 := Tryz.isAgg176
 z171 := Tryz.sizeOf176
 v171 := Tryz.zeroValue176
 t173 := Tryz.underlying180
 a173 := Tryz.isAgg180
 z173 := Tryz.sizeOf180
 v173 := Tryz.zeroValue180
 t212 := Tryz.underlying191
 a212 := Tryz.isAgg191
 z212 := Tryz.sizeOf191
 v212 := Tryz.zeroValue191
 t213 := Tryz.underlying193
 a213 := Tryz.isAgg193
 z213 := Tryz.sizeOf193
 t232 := Tryz.underlying203
 a232 := Tryz.isAgg203
 z232 := Tryz.sizeOf203
 v232 := Tryz.zeroValue203
 t233 := Tryz.underlying204
 a233 := Tryz.isAgg204
 z233 := Tryz.sizeOf204
 v233 := Tryz.zeroValue204
 g17 := by kernel_rfl
 g18 := by kernel_rfl
 g19 := by kernel_rfl }
open Go.RowKit Go.Sort Go.Lib in
theorem Tryz.strconv_Itoa_small (i : Nat) (hi : i < 100) (w : World) :
  Calls Tryz.prog 137 #[.int .i64 i] w fun e w' => e = .returned (.string ⟨(Lib.decDigits i).toArray⟩) ∧ w' = w := Any.strconv_Itoa_small Tryz.lays171 i hi w
def Tryz.lays146_ren : Go.Shelf.Ren := ⟨fun | 146 => 139 | 221 => 154 | 268 => 158 | 138 => 159 | 143 => 160 | 195 => 167 | 197 => 168 | 218 => 169 | 219 => 170 | 260 => 176 | 217 => 177 | 225 => 178 | 224 => 179 | 267 => 180 | 266 => 183 | 314 => 184 | n => n, fun | 9 => 9 | 31 => 125 | 3 => 3 | 4 => 4 | 0 => 0 | 105 => 186 | 21 => 21 | 5 => 5 | 46 => 194 | 119 => 197 | 139 => 200 | 138 => 199 | 146 => 201 | 51 => 192 | n => n, fun | 1 => 1 | 3 => 2 | 4 => 3 | n => n⟩
theorem Tryz.lays146 : Go.Proofs.Lays.n146 Tryz.prog Tryz.lays146_ren := {
 mixed := by kernel_rfl
 f138 := Tryz.func159.trans (congrArg some (by kernel_rfl))
 f143 := Tryz.func160.trans (congrArg some (by kernel_rfl))
 f146 := Tryz.func139.trans (congrArg some (by kernel_rfl))
 f195 := Tryz.func167.trans (congrArg some (by kernel_rfl))
 f197 := Tryz.func168.trans (congrArg some (by kernel_rfl))
 f217 := Tryz.func177.trans (congrArg some (by kernel_rfl))
 f218 := Tryz.func169.trans (congrArg some (by kernel_rfl))
 f219 := Tryz.func170.trans (congrArg some (by kernel_rfl))
 f221 := Tryz.func154.trans (congrArg some (by kernel_rfl))
 f224 := Tryz.func179.trans (congrArg some (by kernel_rfl))
 f225 := Tryz.func178.trans (congrArg some (by kernel_rfl))
 f260 := Tryz.func176.trans (congrArg some (by kernel_rfl))
 f266 := Tryz.func183.trans (congrArg some (by kernel_rfl))
 f267 := Tryz.func180.trans (congrArg some (by kernel_rfl))
 f268 := Tryz.func158.trans (congrArg some (by kernel_rfl))
 f314 := Tryz.func184.trans (congrArg some (by kernel_rfl))
 t0 := Tryz.underlying0
 a0 := Tryz.isAgg0
 z0 := Tryz.sizeOf0
 v0 := Tryz.zeroValue0
 t3 := Tryz.underlying3
 a3 := Tryz.isAgg3
 z3 := Tryz.sizeOf3
 v3 := Tryz.zeroValue3
 t4 := Tryz.underlying4
 a4 := Tryz.isAgg4
 z4 := Tryz.sizeOf4
 v4 := Tryz.zeroValue4
 t5 := Tryz.underlying5
 a5 := Tryz.isAgg5
 z5 := Tryz.sizeOf5
 v5 := Tryz.zeroValue5
 t9 := Tryz.underlying9
 a9 := Tryz.isAgg9
 z9 := Tryz.sizeOf9
 v9 := Tryz.zeroValue9
 t21 := Tryz.underlying21
 a21 := Tryz.isAgg21
 z21 := Tryz.sizeOf21
 v21 := Tryz.zeroValue21
 t31 := Tryz.underlying125
 a31 := Tryz.isAgg125
 z31 := Tryz.sizeOf125
 v31 := Tryz.zeroValue125
 t46 := Tryz.underlying194
 a46 := Tryz.isAgg194
 z46 := Tryz.sizeOf194
 v46 := Tryz.zeroValue194
 t51 := Tryz.underlying192
 a51 := Tryz.isAgg192
 z51 := Tryz.sizeOf192
 v51 := Tryz.zeroValue192
 t105 := Tryz.underlying186
 a105 := Tryz.isAgg186
 z105 := Tryz.sizeOf186
 v105 := Tryz.zeroValue186
 t119 := Tryz.underlying197
 a119 := Tryz.isAgg197
 z119 := Tryz.sizeOf197
 t138 := Tryz.underlying199
 a138 := Tryz.isAgg199
 z138 := Tryz.sizeOf199
 v138 := Tryz.zeroValue199
 t139 := Tryz.underlying200
 a139 := Tryz.isAgg200
 z139 := Tryz.sizeOf200
 v139 := Tryz.zeroValue200
 t146 := Tryz.underlying201
 a146 := Tryz.isAgg201
 z146 := Tryz.sizeOf201
 v146 := Tryz.zeroValue201
 g1 := by kernel_rfl
 g3 := by kernel_rfl
 g4 := by kernel_rfl }
open Go.RowKit Go.Lib in
theorem Tryz.strings_Split (s sep : ByteArray) (m : Int) (w : World) (hs : s.size < 4294967281) (hm : w.cell? ⟨1, 0, none⟩ = some (.int .i64 m)) (h1 : 1 ≤ sep.size) :
  Calls Tryz.prog 139 #[.string s, .string sep] w fun e w' =>
   e = .returned (.slice (some ⟨w.heap.size, 0, none⟩) (Lib.countB s sep + 1) (Lib.countB s sep + 1)) ∧ w' = w.alloc (.cells ((Lib.splitB sep 0 (Lib.countB s sep) s).map Value.string).toArray 9) := Any.strings_Split Tryz.lays146 (by kernel_rfl) s sep m w hs hm h1
end Go.Proofs
end

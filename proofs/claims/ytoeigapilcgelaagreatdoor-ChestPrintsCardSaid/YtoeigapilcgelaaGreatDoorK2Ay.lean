/- Part of the proofs of laws of the package chest: the interpreter Den, its soundness, and contracts of the program's functions over it. Texts: ChA, ChB. -/
import Derived.Test.YtoeigapilcgelaaGreatDoorK2Ax
set_option linter.unusedSimpArgs false
set_option linter.unusedVariables false
section
namespace Go.Den.Ch
abbrev iv (n : Int) : PV := .int .i64 n
abbrev encI (n : Int) : List PV := [.int .i64 n]
abbrev encF (f : Fig) : List PV := [.int .i64 f.size, .int .i64 f.rank, .int .i64 f.eve]
abbrev figPV (f : Fig) : PV := .agg (encF f)
abbrev clPV (c : CL) (F : PV) : PV := .agg [.int .i64 c.room, .int .i64 c.depth, F]
abbrev paPV (c : CL) (F P : PV) : PV := .agg [.int .i64 c.room, .int .i64 c.depth, F, P]
abbrev fltPV (f : Flt) : PV := .agg [.int .i64 f.rule, .int .i64 f.one, .int .i64 f.other]
attribute [go_sem] iv encI encF figPV clPV paPV fltPV
def inI (n : Int) : Prop := -9223372036854775808 ≤ n ∧ n < 9223372036854775808
theorem wrap_in {n : Int} (h : inI n) : IntKind.wrap .i64 n = n := by
 unfold inI at h
 simp [IntKind.wrap, IntKind.bits, IntKind.signed]
 omega
theorem c122 (x lo hi : Int) (st : St) : Cl EE (.func 122 [] []) [iv x, iv lo, iv hi] st (.ret (.bool (inB x lo hi))) st := by
 refine cl_fn (pr122 · _ _) fn122 3 rfl (by decide) (fun tm hl hg => ?_); have h0 : tg tm 0 = iv x := (hg 0 (by decide)); have h1 : tg tm 1 = iv lo := (hg 1 (by decide)); have h2 : tg tm 2 = iv hi := (hg 2 (by decide)); clear hg
 have e : inB x lo hi = (decide (x ≥ lo) && decide (x ≤ hi)) := rfl
 rw [e]
 cases hd : decide (x ≥ lo)
 ·refine go (bw5 hl h0 h1 h2 hd) fnil ?_
  refine fnq_flat (results_one (by rw [rdRes_tmp]; simp only [go_sem, hl]; first | done | rfl)) (by first | exact Nat.le_refl _ | omega | (simp only [lo_push, lo_setVar]; omega)) (by rfl)
 ·refine go (bw5 hl h0 h1 h2 hd) fnil ?_
  refine fnq_flat (results_one (by rw [rdRes_tmp]; simp only [go_sem, hl]; first | done | rfl)) (by first | exact Nat.le_refl _ | omega | (simp only [lo_push, lo_setVar]; omega)) (by rfl)
theorem c146 (f : Fig) (hf : figB f = true) (st : St) : Cl EE (.func 146 [] []) [figPV f] st (.ret (iv (key 0 f))) st := by
 simp only [figB, inB, Bool.and_eq_true, decide_eq_true_eq] at hf
 have e : key 0 f = IntKind.wrap .i64 (0 - f.rank) := by
  rw [wrap_in (by unfold inI; omega)]; simp [key]
 rw [e]
 refine cl_fn (pr146 · _ _) fn146 1 rfl (by decide) (fun tm hl hg => ?_); have h0 : tg tm 0 = figPV f := (hg 0 (by decide)); clear hg
 refine go (bw hl h0) fnil ?_
 refine fnq_flat (results_one (by rw [rdRes_tmp]; simp only [go_sem, hl]; first | done | rfl)) (by first | exact Nat.le_refl _ | omega | (simp only [lo_push, lo_setVar]; omega)) (by rfl)
theorem c147 (f : Fig) (st : St) : Cl EE (.func 147 [] []) [figPV f] st (.ret (iv (key 1 f))) st := by
 refine cl_fn (pr147 · _ _) fn147 1 rfl (by decide) (fun tm hl hg => ?_); have h0 : tg tm 0 = figPV f := (hg 0 (by decide)); clear hg
 refine go (bw hl h0) fnil ?_
 refine fnq_flat (results_one (by rw [rdRes_tmp]; simp only [go_sem, hl]; first | done | rfl)) (by first | exact Nat.le_refl _ | omega | (simp only [lo_push, lo_setVar]; omega)) (by rfl)
theorem c95 (f : Fig) (st : St) : Cl EE (.func 95 [] []) [figPV f] st (.ret (.bool (figB f))) st := by
 refine cl_fn (pr95 · _ _) fn95 1 rfl (by decide) (fun tm hl hg => ?_); have h0 : tg tm 0 = figPV f := (hg 0 (by decide)); clear hg
 cases hA : inB f.size 1 9
 ·have e : figB f = false := by simp [figB, hA]
  rw [e]
  refine go (bw3 hl h0 hA) (bw c122 fnil) ?_
  refine fnq_flat (results_one (by rw [rdRes_tmp]; simp only [go_sem, hl]; first | done | rfl)) (by first | exact Nat.le_refl _ | omega | (simp only [lo_push, lo_setVar]; omega)) (by rfl)
 ·cases hB : inB f.rank 1 5
  ·have e : figB f = false := by simp [figB, hB]
   rw [e]
   refine go (bw4 hl h0 hA hB) (bw c122 fnil) ?_
   refine fnq_flat (results_one (by rw [rdRes_tmp]; simp only [go_sem, hl]; first | done | rfl)) (by first | exact Nat.le_refl _ | omega | (simp only [lo_push, lo_setVar]; omega)) (by rfl)
  ·have e : figB f = inB f.eve 0 5 := by simp [figB, hA, hB]
   rw [e]
   refine go (bw4 hl h0 hA hB) (bw c122 fnil) ?_
   refine fnq_flat (results_one (by rw [rdRes_tmp]; simp only [go_sem, hl]; first | done | rfl)) (by first | exact Nat.le_refl _ | omega | (simp only [lo_push, lo_setVar]; omega)) (by rfl)
theorem c124 (f : Fig) (st : St) : Cl EE (.func 124 [] []) [figPV f] st (.ret (.bool (!figB f))) st := by
 refine cl_fn (pr124 · _ _) fn124 1 rfl (by decide) (fun tm hl hg => ?_); have h0 : tg tm 0 = figPV f := (hg 0 (by decide)); clear hg
 refine go (bw hl h0) (bw c95 fnil) ?_
 refine fnq_flat (results_one (by rw [rdRes_tmp]; simp only [go_sem, hl]; first | done | rfl)) (by first | exact Nat.le_refl _ | omega | (simp only [lo_push, lo_setVar]; omega)) (by rfl)
theorem c126 (c : CL) (F : PV) (hF : F.cells = [F]) (n : Int) (st : St) (b : Nat) (hb : hp st b = some (.var [iv c.room, iv c.depth, F])) (hd : inB c.depth 1 5 = true) : Cl EE (.func 126 [] [.ptr b 0]) [iv n] st (.ret (.bool (!inB n 0 (c.depth - 1)))) st := by
 refine cl_fn (pr126 · _ _) fn126 2 rfl (by decide) (fun tm hl hg => ?_); have h0 : tg tm 0 = iv n := (hg 0 (by decide)); have h1 : tg tm 1 = .ptr b 0 := (hg 1 (by decide)); clear hg
 simp only [inB, Bool.and_eq_true, decide_eq_true_eq] at hd
 have hw : IntKind.wrap .i64 (c.depth - 1) = c.depth - 1 := wrap_in (by unfold inI; omega)
 have hb' : hp { heap := st.heap, lo := st.heap.length } b = some (.var [iv c.room, iv c.depth, F]) := hb
 refine go (bw5 hl h0 h1 hb' hw) (bw c122 fnil) ?_
 refine fnq_flat (results_one (by rw [rdRes_tmp]; simp only [go_sem, hl]; first | done | rfl)) (by first | exact Nat.le_refl _ | omega | (simp only [lo_push, lo_setVar]; omega)) (by rfl)
theorem c110 (F : PV) (l : List Int) (hF : SlOf 1 encI F l) (hN : l.length < 1000) (hb : ∀ k, inI (l.take k).sum) (st : St) : Cl EE (.func 110 [] []) [F] st (.ret (iv l.sum)) st := by
 refine cl_fn (pr110 · _ _) fn110 1 rfl (by decide) (fun tm hl hg => ?_); have h0 : tg tm 0 = F := (hg 0 (by decide)); clear hg
 have hs := hF.slen
 refine go (bw3 hl h0 hs) fnil ?_
 refine wp_range l.length [3] (fun i vs st' => vs = [iv (l.take i).sum] ∧ st' = { heap := st.heap, lo := st.heap.length }) (by omega) (by simp only [go_sem, hl]) (by simp only [go_sem, hl]) (by simp only [go_sem, hl]) (by decide) ⟨by simp only [go_sem, hl]; rfl, rfl⟩ ?_ ?_
 ·rintro i hi tm1 st1 ⟨hv, rfl⟩ hS hia
  simp only [List.map_cons, List.map_nil, List.cons.injEq, and_true] at hv
  have hl1 : tm1.length = 17 := by rw [hS.1]; simp only [go_sem, hl]
  have h6 : tg tm1 6 = F := by rw [hS.2 6 (by decide)]; simp only [go_sem, hl]
  refine go (bw4 hl1 h6 hia hv) fnil ?_
  refine ⟨?_, rfl⟩
  have h3 := hb (i + 1)
  rw [List.take_succ_eq_append_getElem hi, List.sum_append_int, List.sum_singleton] at h3 ⊢
  simp only [go_sem, hl1, wrap_in h3]
 ·rintro tm1 st1 ⟨hv, rfl⟩ hS
  simp only [List.map_cons, List.map_nil, List.cons.injEq, and_true] at hv
  have hl1 : tm1.length = 17 := by rw [hS.1]; simp only [go_sem, hl]
  refine go (bw hl1 hv) fnil ?_
  refine fnq_flat ?_ (Nat.le_refl _) (by rfl)
  exact results_one (by rw [rdRes_tmp]; simp only [go_sem, hl1, List.take_length])
def idxI {α : Type} (p : α → Bool) (l : List α) : Int := if l.any p then (l.findIdx p : Int) else -1
theorem idxI_ge {α : Type} (p : α → Bool) (l : List α) : decide (idxI p l ≥ 0) = l.any p := by
 unfold idxI
 cases l.any p <;> simp
theorem idxI_at {α : Type} {p : α → Bool} {l : List α} {i : Nat} (hi : i < l.length) (h0 : ∀ k (hk : k < i), p (l[k]'(by omega)) = false) (h : p l[i] = true) : idxI p l = i := by
 unfold idxI
 have h1 : l.any p = true := List.any_eq_true.2 ⟨l[i], List.getElem_mem hi, h⟩
 rw [if_pos h1]
 congr 1
 rw [List.findIdx_eq hi]
 exact ⟨h, fun j hj => by simpa using h0 j hj⟩
theorem idxI_no {α : Type} {p : α → Bool} {l : List α} (h0 : ∀ k (hk : k < l.length), p l[k] = false) : idxI p l = -1 := by
 unfold idxI
 rw [if_neg]
 intro h
 obtain ⟨x, hx, h1⟩ := List.any_eq_true.1 h
 obtain ⟨k, hk, rfl⟩ := List.getElem_of_mem hx
 rw [h0 k hk] at h1
 cases h1
theorem c144 (F : PV) (l : List Fig) (hF : SlOf 3 encF F l) (hN : l.length < 1000) (g : Nat) (ga gc : List PV) (p : Fig → Bool) (st : St) (hg0 : ∀ st', st'.heap = st.heap → ∀ a ∈ l, Cl EE (.func g ga gc) [figPV a] st' (.ret (.bool (p a))) st') : Cl EE (.func 144 [] []) [F, .func g ga gc] st (.ret (iv (idxI p l))) st := by
 refine cl_fn (pr144 · _ _) fn144 2 rfl (by decide) (fun tm hl hg => ?_); have h0 : tg tm 0 = F := (hg 0 (by decide)); have h1 : tg tm 1 = .func g ga gc := (hg 1 (by decide)); clear hg
 have hs := hF.slen
 refine go (bw4 hl h0 h1 hs) fnil ?_
 refine wp_range l.length [] (fun i vs st' => st' = { heap := st.heap, lo := st.heap.length } ∧ ∀ k (hk : k < i) (hl : k < l.length), p l[k] = false) (by omega) (by simp only [go_sem, hl]) (by simp only [go_sem, hl]) (by simp only [go_sem, hl]) (by decide) ⟨rfl, fun k hk => absurd hk (by omega)⟩ ?_ ?_
 ·rintro i hi tm1 st1 ⟨rfl, hk⟩ hS hia
  have hl1 : tm1.length = 19 := by rw [hS.1]; simp only [go_sem, hl]
  have i0 : tg tm1 0 = F := by rw [hS.2 0 (by decide)]; simp only [go_sem, hl, h0]
  have i1 : tg tm1 1 = .func g ga gc := by rw [hS.2 1 (by decide)]; simp only [go_sem, hl, h1]
  have hb := hg0 { heap := st.heap, lo := st.heap.length } rfl l[i] (List.getElem_mem hi)
  cases hp : p l[i]
  ·rw [hp] at hb
   refine go (bw4 hl1 i0 i1 hia) (bw hb fnil) ?_
   refine ⟨rfl, fun k hk1 hk2 => ?_⟩
   by_cases hki : k = i
   ·subst hki; exact hp
   ·exact hk k (by omega) hk2
  ·rw [hp] at hb
   rw [idxI_at hi (fun k hk1 => hk k hk1 (by omega)) hp]
   refine go (bw4 hl1 i0 i1 hia) (bw hb fnil) ?_
   refine fnq_flat (results_one (by rw [rdRes_tmp]; simp only [go_sem, hl1]; first | done | rfl)) (by first | exact Nat.le_refl _ | omega | (simp only [lo_push, lo_setVar]; omega)) (by rfl)
 ·rintro tm1 st1 ⟨rfl, hk⟩ hS
  have hl1 : tm1.length = 19 := by rw [hS.1]; simp only [go_sem, hl]
  rw [idxI_no (fun k hk1 => hk k hk1 hk1)]
  refine go hl1 fnil ?_
  refine fnq_flat (results_one (by rw [rdRes_tmp]; simp only [go_sem, hl1]; first | done | rfl)) (by first | exact Nat.le_refl _ | omega | (simp only [lo_push, lo_setVar]; omega)) (by rfl)
theorem c123 (F : PV) (l : List Fig) (hF : SlOf 3 encF F l) (hN : l.length < 1000) (g : Nat) (ga gc : List PV) (p : Fig → Bool) (st : St) (hg0 : ∀ st', st'.heap = st.heap → ∀ a ∈ l, Cl EE (.func g ga gc) [figPV a] st' (.ret (.bool (p a))) st') : Cl EE (.func 123 [] []) [F, .func g ga gc] st (.ret (.bool (l.any p))) st := by
 refine cl_fn (pr123 · _ _) fn123 2 rfl (by decide) (fun tm hl hg => ?_); have h0 : tg tm 0 = F := (hg 0 (by decide)); have h1 : tg tm 1 = .func g ga gc := (hg 1 (by decide)); clear hg
 rw [← idxI_ge]
 refine go (bw3 hl h0 h1) (bw (c144 F l hF hN g ga gc p ⟨st.heap, st.heap.length⟩ hg0) fnil) ?_
 refine fnq_flat (results_one (by rw [rdRes_tmp]; simp only [go_sem, hl]; first | done | rfl)) (by first | exact Nat.le_refl _ | omega | (simp only [lo_push, lo_setVar]; omega)) (by rfl)
theorem c145 (F : PV) (l : List Int) (hF : SlOf 1 encI F l) (hN : l.length < 1000) (g : Nat) (ga gc : List PV) (p : Int → Bool) (st : St) (hg0 : ∀ st', st'.heap = st.heap → ∀ a ∈ l, Cl EE (.func g ga gc) [iv a] st' (.ret (.bool (p a))) st') : Cl EE (.func 145 [] []) [F, .func g ga gc] st (.ret (iv (idxI p l))) st := by
 refine cl_fn (pr145 · _ _) fn145 2 rfl (by decide) (fun tm hl hg => ?_); have h0 : tg tm 0 = F := (hg 0 (by decide)); have h1 : tg tm 1 = .func g ga gc := (hg 1 (by decide)); clear hg
 have hs := hF.slen
 refine go (bw4 hl h0 h1 hs) fnil ?_
 refine wp_range l.length [] (fun i vs st' => st' = { heap := st.heap, lo := st.heap.length } ∧ ∀ k (hk : k < i) (hl : k < l.length), p l[k] = false) (by omega) (by simp only [go_sem, hl]) (by simp only [go_sem, hl]) (by simp only [go_sem, hl]) (by decide) ⟨rfl, fun k hk => absurd hk (by omega)⟩ ?_ ?_
 ·rintro i hi tm1 st1 ⟨rfl, hk⟩ hS hia
  have hl1 : tm1.length = 19 := by rw [hS.1]; simp only [go_sem, hl]
  have i0 : tg tm1 0 = F := by rw [hS.2 0 (by decide)]; simp only [go_sem, hl, h0]
  have i1 : tg tm1 1 = .func g ga gc := by rw [hS.2 1 (by decide)]; simp only [go_sem, hl, h1]
  have hb := hg0 { heap := st.heap, lo := st.heap.length } rfl l[i] (List.getElem_mem hi)
  cases hp : p l[i]
  ·rw [hp] at hb
   refine go (bw4 hl1 i0 i1 hia) (bw hb fnil) ?_
   refine ⟨rfl, fun k hk1 hk2 => ?_⟩
   by_cases hki : k = i
   ·subst hki; exact hp
   ·exact hk k (by omega) hk2
  ·rw [hp] at hb
   rw [idxI_at hi (fun k hk1 => hk k hk1 (by omega)) hp]
   refine go (bw4 hl1 i0 i1 hia) (bw hb fnil) ?_
   refine fnq_flat (results_one (by rw [rdRes_tmp]; simp only [go_sem, hl1]; first | done | rfl)) (by first | exact Nat.le_refl _ | omega | (simp only [lo_push, lo_setVar]; omega)) (by rfl)
 ·rintro tm1 st1 ⟨rfl, hk⟩ hS
  have hl1 : tm1.length = 19 := by rw [hS.1]; simp only [go_sem, hl]
  rw [idxI_no (fun k hk1 => hk k hk1 hk1)]
  refine go hl1 fnil ?_
  refine fnq_flat (results_one (by rw [rdRes_tmp]; simp only [go_sem, hl1]; first | done | rfl)) (by first | exact Nat.le_refl _ | omega | (simp only [lo_push, lo_setVar]; omega)) (by rfl)
theorem c125 (F : PV) (l : List Int) (hF : SlOf 1 encI F l) (hN : l.length < 1000) (g : Nat) (ga gc : List PV) (p : Int → Bool) (st : St) (hg0 : ∀ st', st'.heap = st.heap → ∀ a ∈ l, Cl EE (.func g ga gc) [iv a] st' (.ret (.bool (p a))) st') : Cl EE (.func 125 [] []) [F, .func g ga gc] st (.ret (.bool (l.any p))) st := by
 refine cl_fn (pr125 · _ _) fn125 2 rfl (by decide) (fun tm hl hg => ?_); have h0 : tg tm 0 = F := (hg 0 (by decide)); have h1 : tg tm 1 = .func g ga gc := (hg 1 (by decide)); clear hg
 rw [← idxI_ge]
 refine go (bw3 hl h0 h1) (bw (c145 F l hF hN g ga gc p ⟨st.heap, st.heap.length⟩ hg0) fnil) ?_
 refine fnq_flat (results_one (by rw [rdRes_tmp]; simp only [go_sem, hl]; first | done | rfl)) (by first | exact Nat.le_refl _ | omega | (simp only [lo_push, lo_setVar]; omega)) (by rfl)
theorem c77 (c : CL) (F : PV) (hF : SlOf 3 encF F c.figs) (st : St) : Cl EE (.func 77 [] []) [clPV c F] st (.ret (.bool (listB c))) st := by
 have hs := hF.slen
 have hc := hF.cells
 refine cl_fn (pr77 · _ _) fn77 1 rfl (by decide) (fun tm hl hg => ?_); have h0 : tg tm 0 = clPV c F := (hg 0 (by decide)); clear hg
 cases hA : inB c.room 1 20
 ·have e : listB c = false := by simp [listB, hA]
  rw [e]
  refine go (bw3 hl h0 hA) (bw c122 fnil) ?_
  refine fnq_flat (results_one (by rw [rdRes_tmp]; simp only [go_sem, hl]; first | done | rfl)) (by first | exact Nat.le_refl _ | omega | (simp only [lo_push, lo_setVar]; omega)) (by rfl)
 ·cases hB : inB c.depth 1 5
  ·have e : listB c = false := by simp [listB, hB]
   rw [e]
   refine go (bw4 hl h0 hA hB) (bw c122 fnil) ?_
   refine fnq_flat (results_one (by rw [rdRes_tmp]; simp only [go_sem, hl]; first | done | rfl)) (by first | exact Nat.le_refl _ | omega | (simp only [lo_push, lo_setVar]; omega)) (by rfl)
  ·by_cases hC : c.figs.length ≤ 6
   ·have e : listB c = !(c.figs.any fun f => !figB f) := by
     simp [listB, hA, hB, hC, List.all_eq_not_any_not]
    have hC' : decide ((c.figs.length : Int) ≤ 6) = true := by simp; omega
    rw [e]
    refine go (bw6 hl h0 hA hB hC' hs) (bw3 c122 (fun st => c123 F c.figs hF (by omega) 124 [] [] (fun f => !figB f) st (fun st' _ a _ => c124 a st')) fnil) ?_
    refine fnq_flat (results_one (by rw [rdRes_tmp]; simp only [go_sem, hl]; first | done | rfl)) (by first | exact Nat.le_refl _ | omega | (simp only [lo_push, lo_setVar]; omega)) (by rfl)
   ·have e : listB c = false := by simp [listB, hC]
    have hC' : decide ((c.figs.length : Int) ≤ 6) = false := by simp; omega
    rw [e]
    refine go (bw6 hl h0 hA hB hC' hs) (bw c122 fnil) ?_
    refine fnq_flat (results_one (by rw [rdRes_tmp]; simp only [go_sem, hl]; first | done | rfl)) (by first | exact Nat.le_refl _ | omega | (simp only [lo_push, lo_setVar]; omega)) (by rfl)
theorem c78 (c : CL) (F P : PV) (p : List Int) (hF : SlOf 3 encF F c.figs) (hP : SlOf 1 encI P p) (hc : listB c = true) (st : St) : Cl EE (.func 78 [] []) [clPV c F, P] st (.ret (.bool (packB c p))) st := by
 have hs := hF.slen
 have hs2 := hP.slen
 have hcl := hF.cells
 simp only [listB, Bool.and_eq_true, decide_eq_true_eq] at hc
 refine cl_fn (pr78 · _ _) fn78 2 rfl (by decide) (fun tm hl hg => ?_); have h0 : tg tm 0 = clPV c F := (hg 0 (by decide)); have h1 : tg tm 1 = P := (hg 1 (by decide)); clear hg
 by_cases hA : p.length = c.figs.length
 ·have e : packB c p = !(p.any fun n => !inB n 0 (c.depth - 1)) := by simp [packB, hA, List.all_eq_not_any_not]
  have hA' : ((p.length : Int) == (c.figs.length : Int)) = true := by simp; omega
  rw [e]
  repeat (first | apply wp_seq | apply wp_region_ops | apply wp_dregion_ops | apply wp_block_seq | apply wp_block_region | apply wp_block_cond | apply wp_block_dregion | apply wp_scope | apply wp_ret | apply wp_skip | apply wp_exit | apply andThen_normal | apply andThen_ret | apply andThen_exit | apply andThen_panic | apply inBlock_panic | apply inBlock_normal | apply inBlock_ret | apply inBlock_same | (apply inBlock_other (by decide)) | apply wops_nil | (refine wops_one' (by simp only [go_sem, hl, h0, h1, hA', hs, hs2]; first | done | rfl) (by with_reducible rfl) (fun rec => by simp only [go_sem, hl, h0, h1, hA', hs, hs2]; with_reducible rfl) (by with_reducible rfl) ?_) | (refine wops_index (by simp only [go_sem, hl, h0, h1, hA', hs, hs2]; first | done | rfl) (by with_reducible rfl) (by simp only [go_sem, hl, h0, h1, hA', hs, hs2]; first | done | rfl) (by assumption) (by simp only [go_sem, hl, h0, h1, hA', hs, hs2]; first | done | rfl) (by first | assumption | omega) ?_) | (refine wops_indexI (by simp only [go_sem, hl, h0, h1, hA', hs, hs2]; first | done | rfl) (by with_reducible rfl) (by simp only [go_sem, hl, h0, h1, hA', hs, hs2]; first | done | rfl) (by assumption) (by simp only [go_sem, hl, h0, h1, hA', hs, hs2]; first | done | rfl) (by first | assumption | omega) (by first | assumption | omega) ?_) | (refine wopsD_pure' (by first | omega | (simp only [lo_push, lo_setVar, len_push, len_setVar]; omega)) (by simp only [go_sem, hl, h0, h1, hA', hs, hs2]; first | done | rfl) (by with_reducible rfl) (fun rec st1 he hh => by simp only [go_sem, hl, h0, h1, hA', hs, hs2, he, hh]; with_reducible rfl) ?_) | (refine wopsD_push (by first | omega | (simp only [lo_push, lo_setVar, len_push, len_setVar]; omega)) (by simp only [go_sem, hl, h0, h1, hA', hs, hs2]; first | done | rfl) (by with_reducible rfl) (fun rec st1 he => by simp only [go_sem, hl, h0, h1, hA', hs, hs2, he]; with_reducible rfl) ?_) | (refine wopsD_index (by first | omega | (simp only [lo_push, lo_setVar, len_push, len_setVar]; omega)) (by simp only [go_sem, hl, h0, h1, hA', hs, hs2]; first | done | rfl) (by with_reducible rfl) (by simp only [go_sem, hl, h0, h1, hA', hs, hs2]; first | done | rfl) (by assumption) (by simp only [go_sem, hl, h0, h1, hA', hs, hs2]; first | done | rfl) (by first | assumption | omega) ?_) | (refine wopsD_indexI (by first | omega | (simp only [lo_push, lo_setVar, len_push, len_setVar]; omega)) (by simp only [go_sem, hl, h0, h1, hA', hs, hs2]; first | done | rfl) (by with_reducible rfl) (by simp only [go_sem, hl, h0, h1, hA', hs, hs2]; first | done | rfl) (by assumption) (by simp only [go_sem, hl, h0, h1, hA', hs, hs2]; first | done | rfl) (by first | assumption | omega) (by first | assumption | omega) ?_) | (refine wopsD_skip' (by simp only [go_sem, hl, h0, h1, hA', hs, hs2]; first | done | rfl) (by with_reducible rfl) ?_) | (apply wopsD_nil; refine ⟨footOk_quiet (by rfl), ?_⟩) | (refine wops_panic (by simp only [go_sem, hl, h0, h1, hA', hs, hs2]; first | done | rfl) (by with_reducible rfl) (by simp only [go_sem, hl, h0, h1, hA', hs, hs2]; first | done | rfl) ?_) | (refine wops_skip' (by simp only [go_sem, hl, h0, h1, hA', hs, hs2]; first | done | rfl) (by with_reducible rfl) ?_) | (refine wp_condT (by simp only [go_sem, hl, h0, h1, hA', hs, hs2]; first | done | rfl) ?_) | (refine wp_condF (by simp only [go_sem, hl, h0, h1, hA', hs, hs2]; first | done | rfl) ?_) | (refine wopsD_call (by first | omega | (simp only [lo_push, lo_setVar, len_push, len_setVar]; omega)) (by simp only [go_sem, hl, h0, h1, hA', hs, hs2]; first | done | rfl) (by with_reducible rfl) (by simp only [go_sem, hl, h0, h1, hA', hs, hs2]; first | done | rfl) (fun st1 he => by simp only [go_sem, hl, h0, h1, hA', hs, hs2]; first | exact c125 P p hP (by omega) 126 [] _ (fun n => !inB n 0 (c.depth - 1)) _ (fun st' he a _ => c126 c F hcl a st' _ (by simp [hp, he, St.push]) hc.2.1)) ?_) | (refine wops_call' (by simp only [go_sem, hl, h0, h1, hA', hs, hs2]; first | done | rfl) (by with_reducible rfl) (by simp only [go_sem, hl, h0, h1, hA', hs, hs2]; first | done | rfl) (by simp only [go_sem, hl, h0, h1, hA', hs, hs2]; first | exact c125 P p hP (by omega) 126 [] _ (fun n => !inB n 0 (c.depth - 1)) _ (fun st' he a _ => c126 c F hcl a st' _ (by simp [hp, he, St.push]) hc.2.1)) ?_))
  refine fnq_flat (results_one (by rw [rdRes_tmp]; simp only [go_sem, hl]; first | done | rfl)) (by first | exact Nat.le_refl _ | omega | (simp only [lo_push, lo_setVar]; omega)) (by rfl)
 ·have e : packB c p = false := by simp [packB, hA]
  have hA' : ((p.length : Int) == (c.figs.length : Int)) = false := by simp; omega
  rw [e]
  refine go (bw6 hl h0 h1 hA' hs hs2) fnil ?_
  refine fnq_flat (results_one (by rw [rdRes_tmp]; simp only [go_sem, hl]; first | done | rfl)) (by first | exact Nat.le_refl _ | omega | (simp only [lo_push, lo_setVar]; omega)) (by rfl)
end Go.Den.Ch
end
section
namespace Go.Den.Ch
theorem layersL_take {p : List Int} {i : Nat} (h : i < p.length) : layersL (p.take (i + 1)) = max (layersL (p.take i)) (p[i] + 1) := by
 rw [List.take_succ_eq_append_getElem h, layersL, List.foldl_append]; rfl
theorem layersL_bound {p : List Int} {d : Int} (hd : 0 ≤ d) (h : ∀ x ∈ p, x < d) : layersL p ≤ d := by
 unfold layersL
 have : ∀ (p : List Int) (a : Int), (∀ x ∈ p, x < d) → a ≤ d → p.foldl (fun n x => max n (x + 1)) a ≤ d := by
  intro p
  induction p with
  | nil => intro a _ h; exact h
  | cons x p ih =>
   intro a h ha
   refine ih _ (fun y hy => h y (by simp [hy])) ?_
   have := h x (by simp)
   show max a (x + 1) ≤ d
   omega
 exact this p 0 h hd
theorem layersL_nonneg (p : List Int) : 0 ≤ layersL p := by
 unfold layersL
 have : ∀ (p : List Int) (a : Int), 0 ≤ a → 0 ≤ p.foldl (fun n x => max n (x + 1)) a := by
  intro p
  induction p with
  | nil => intro a h; exact h
  | cons x p ih => intro a ha; exact ih _ (by show 0 ≤ max a (x + 1); omega)
 exact this p 0 (Int.le_refl _)
theorem mm2 (a b : Int) : mm true (.int .i64 a) [.int .i64 b] = some (.int .i64 (max a b)) := by
 simp only [mm, if_true]
 rw [Int.max_def]
 congr 2
 by_cases h : b > a
 ·rw [if_pos h, if_pos (by omega)]
 ·rw [if_neg h]; split <;> omega
theorem mm2' (a b : Int) : mm false (.int .i64 a) [.int .i64 b] = some (.int .i64 (min a b)) := by
 simp only [mm, Bool.false_eq_true, if_false]
 rw [Int.min_def]
 congr 2
 by_cases h : b < a
 ·rw [if_pos h, if_neg (by omega)]
 ·rw [if_neg h]; split <;> omega
theorem c84 (c : CL) (F P : PV) (p : List Int) (hF : F.cells = [F]) (hP : SlOf 1 encI P p) (hN : p.length < 1000) (hb : ∀ x ∈ p, inI (x + 1)) (st : St) : Cl EE (.func 84 [] []) [paPV c F P] st (.ret (iv (layersL p))) st := by
 have hs := hP.slen
 refine cl_fn (pr84 · _ _) fn84 1 rfl (by decide) (fun tm hl hg => ?_); have h0 : tg tm 0 = paPV c F P := (hg 0 (by decide)); clear hg
 refine go (bw3 hl h0 hs) fnil ?_
 refine wp_range p.length [3] (fun i vs st' => vs = [iv (layersL (p.take i))] ∧ st.heap.length ≤ st'.lo) (by omega) (by simp only [go_sem, hl]) (by simp only [go_sem, hl]) (by simp only [go_sem, hl]) (by decide) ⟨by simp only [go_sem, hl]; rfl, by simp [lo_push]⟩ ?_ ?_
 ·rintro i hi tm1 st1 ⟨hv, hlo⟩ hS hia
  simp only [List.map_cons, List.map_nil, List.cons.injEq, and_true] at hv
  have hl1 : tm1.length = 19 := by rw [hS.1]; simp only [go_sem, hl]
  have i7 : tg tm1 7 = P := by rw [hS.2 7 (by decide)]; simp only [go_sem, hl]
  have hw : IntKind.wrap .i64 (p[i] + 1) = p[i] + 1 := wrap_in (hb _ (List.getElem_mem hi))
  refine go (bw6 hl1 i7 hia hv hw @mm2) fnil ?_
  rw [layersL_take hi]
  refine ⟨?_, hlo⟩
  simp only [go_sem, hl1]
 ·rintro tm1 st1 ⟨hv, hlo⟩ hS
  simp only [List.map_cons, List.map_nil, List.cons.injEq, and_true, List.take_length] at hv
  have hl1 : tm1.length = 19 := by rw [hS.1]; simp only [go_sem, hl]
  refine go (bw hl1 hv) fnil ?_
  refine fnq_flat (results_one (by rw [rdRes_tmp]; simp only [go_sem, hl1])) hlo (by rfl)
theorem encI_map (l : List Int) : l.flatMap encI = l.map (PV.int .i64) := by
 induction l with
 | nil => rfl
 | cons a l ih => simp [ih]
theorem layerL_take {fs : List Fig} {p : List Int} {n : Int} {i : Nat} (h : i < fs.length) (h' : i < p.length) : layerL (fs.take (i + 1)) (p.take (i + 1)) n = layerL (fs.take i) (p.take i) n ++ (if p[i] = n then [fs[i].size] else []) := by
 induction i generalizing fs p with
 | zero =>
  match fs, p, h, h' with
  | f :: fs, x :: p, _, _ => simp [layerL]
 | succ i ih =>
  match fs, p, h, h' with
  | f :: fs, x :: p, h, h' =>
   have := ih (fs := fs) (p := p) (by simpa using h) (by simpa using h')
   simp only [List.take_succ_cons, layerL, List.getElem_cons_succ, this]
   split <;> simp
theorem layerL_len : ∀ (fs : List Fig) (p : List Int) (n : Int) (i : Nat), fs.length ≤ i → (layerL fs p n).length ≤ i
 | [], p, n, i, h => by simp [layerL]
 | f :: fs, [], n, i, h => by simp [layerL]
 | f :: fs, x :: p, n, i, h => by
  have := layerL_len fs p n (i - 1) (by simp at h; omega)
  simp only [layerL]
  simp at h
  split <;> (try simp only [List.length_cons]) <;> omega
theorem c111 (c : CL) (F P : PV) (p : List Int) (n : Int) (hF : SlOf 3 encF F c.figs) (hP : SlOf 1 encI P p) (hN : c.figs.length < 1000) (hpl : p.length = c.figs.length) (st : St) : ClR EE (.func 111 [] []) [paPV c F P, iv n] st (RetS st 1 (layerL c.figs p n).length ((layerL c.figs p n).flatMap encI)) := by
 have hs := hF.slen
 have hFc := hF.cells
 have hPc := hP.cells
 refine clr_fn (pr111 · _ _) fn111 2 rfl (by decide) (fun tm hl hg => ?_); have h0 : tg tm 0 = paPV c F P := (hg 0 (by decide)); have h1 : tg tm 1 = iv n := (hg 1 (by decide)); clear hg
 refine go (bw4 hl h0 h1 hs) fnil ?_
 refine wp_range c.figs.length [5] (fun i vs st' => ∃ v, vs = [v] ∧ OwnS st.heap.length st' 1 v (layerL (c.figs.take i) (p.take i) n).length ((layerL (c.figs.take i) (p.take i) n).flatMap encI) ∧ st.heap.length ≤ st'.lo ∧ hp st' st.heap.length = some (.var [iv c.room, iv c.depth, F, P])) (by omega) (by simp only [go_sem, hl]) (by simp only [go_sem, hl]) (by simp only [go_sem, hl]) (by decide) ⟨_, by simp only [go_sem, hl], .nil, by simp [lo_push], by simp only [go_sem, hl]⟩ ?_ ?_
 ·rintro i hi tm1 st1 ⟨v, hv, hO, hlo, hb⟩ hS hia
  simp only [List.map_cons, List.map_nil, List.cons.injEq, and_true] at hv
  have hl1 : tm1.length = 31 := by rw [hS.1]; simp only [go_sem, hl]
  have i1 : tg tm1 1 = iv n := by rw [hS.2 1 (by decide)]; simp only [go_sem, hl, h1]
  have i2 : tg tm1 2 = .ptr st.heap.length 0 := by rw [hS.2 2 (by decide)]; simp only [go_sem, hl]
  have i10 : tg tm1 10 = F := by rw [hS.2 10 (by decide)]; simp only [go_sem, hl]
  have hlt := hp_lt hb
  refine go (bw9 hl1 i1 i2 i10 hia hv hb (neL hlt) (neA hlt)) fnil ?_
  rw [layerL_take hi (by omega)]
  have hll : (layerL (List.take i c.figs) (List.take i p) n).length ≤ i := layerL_len _ _ _ i (by simp; omega)
  by_cases hx : p[i] = n
  ·have hd : (p[i] == n) = true := by simp [hx]
   refine go (bw3 hl1 hv hd) fnil ?_
   refine wops_append rfl rfl (by simp only [go_sem, hl1, hv]; first | done | rfl) (by simp only [go_sem, hl1, hv]; first | done | rfl) ((hO.push.setVar (by simp [hp_push])).push) rfl (by first | omega | (simp only [len_push, len_setVar]; omega)) (by rfl) (by rfl) (by simp only [maxList]; omega) ?_
   intro v' st2 hO' hFr hk
   refine go hl1 fnil ?_
   refine ⟨v', by simp only [go_sem, hl1], by simpa [hx, share_int] using hO', ?_, hk _ _ (by simp only [go_sem, hb, neL hlt, neA hlt]) (by simp)⟩
   have := hFr.lo
   simp only [lo_push, lo_setVar] at this
   omega
  ·have hd : (p[i] == n) = false := by simp [hx]
   refine go (bw3 hl1 hv hd) fnil ?_
   refine ⟨v, by simp only [go_sem, hl1, hv], ?_, ?_, by simp only [go_sem, hb, neL hlt, neA hlt]⟩
   ·simpa [hx] using hO.push.setVar (by simp [hp_push])
   ·simp only [lo_push, lo_setVar]; omega
 ·rintro tm1 st1 ⟨v, hv, hO, hlo, hb⟩ hS
  simp only [List.map_cons, List.map_nil, List.cons.injEq, and_true, List.take_length] at hv
  rw [List.take_length, ← hpl, List.take_length] at hO
  have hl1 : tm1.length = 31 := by rw [hS.1]; simp only [go_sem, hl]
  refine go (bw hl1 hv) fnil ?_
  exact fnr_ret (results_one (by rw [rdRes_tmp]; simp only [go_sem, hl1])) (hO.finish hlo (fun m c hc => by simp only [List.mem_flatMap, List.mem_singleton] at hc; obtain ⟨a, _, rfl⟩ := hc; rfl))
theorem encI_low (l : List Int) (m : Nat) (c : PV) (hc : c ∈ l.flatMap encI) : PV.low m c = true := by
 simp only [List.mem_flatMap, List.mem_singleton] at hc
 obtain ⟨a, _, rfl⟩ := hc
 rfl
theorem slI {st st' : St} {l : List Int} {v : PV} (h : RetS st 1 l.length (l.flatMap encI) v st') : SlOf 1 encI v l := SlOf.of_sl h.sl rfl rfl (fun _ => rfl)
end Go.Den.Ch
end

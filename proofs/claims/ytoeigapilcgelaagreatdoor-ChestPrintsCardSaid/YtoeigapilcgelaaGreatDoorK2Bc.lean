/- Part of the proofs of laws of the package chest: the interpreter Den, its soundness, and contracts of the program's functions over it. Texts: ChK, ChL. -/
import Derived.Test.YtoeigapilcgelaaGreatDoorK2Bb
set_option linter.unusedSimpArgs false
set_option linter.unusedVariables false
section
namespace Go.Den.Ch
attribute [go_sem] undef
theorem mem_castL {l : List Nat} {x : Int} (h : x ∈ castL l) : ∃ k : Nat, k ∈ l ∧ x = k := by
 simp only [castL, List.mem_map] at h
 obtain ⟨k, hk, rfl⟩ := h
 exact ⟨k, hk, rfl⟩
theorem wantL_ok (c : CL) (e : Int) : OkF c.figs.length (wantL c e) := by
 intro x hx
 obtain ⟨k, hk, rfl⟩ := mem_castL hx
 simp only [List.mem_filter, List.mem_range] at hk
 omega
theorem troubleT_succ (c : CL) (p : List Int) (n : Nat) : troubleT c p (n + 1) = troubleT c p n + (outL p (wantL c n)).length := by
 rw [troubleT, List.range_succ, List.map_append, List.sum_append_int]; simp [troubleT]
theorem troubleT_bound (c : CL) (p : List Int) (n : Nat) : 0 ≤ troubleT c p n ∧ troubleT c p n ≤ n * p.length := by
 induction n with
 | zero => simp [troubleT]
 | succ n ih =>
  rw [troubleT_succ]
  have : (outL p (wantL c n)).length ≤ p.length := castL_len _ _
  have e : ((n + 1 : Nat) : Int) * p.length = n * p.length + p.length := by rw [Int.natCast_add, Int.add_mul]; simp
  omega
set_option maxHeartbeats 4000000 in
theorem c93 (c : CL) (F P : PV) (p : List Int) (hF : SlOf 3 encF F c.figs) (hP : SlOf 1 encI P p) (hN : c.figs.length ≤ 6) (hpl : p.length = c.figs.length) (st : St) : Cl EE (.func 93 [] []) [paPV c F P] st (.ret (iv (troubleL c p))) st := by
 have hFs := hF.slen
 have hFc := hF.cells
 have hPc := hP.cells
 refine cl_fn (pr93 · _ _) fn93 1 rfl (by decide) (fun tm hl hg => ?_); have h0 : tg tm 0 = paPV c F P := (hg 0 (by decide)); clear hg
 refine go (bw hl h0) fnil ?_
 refine wp_range 6 [3] (fun i vs st' => vs = [iv (troubleT c p i)] ∧ st.heap.length ≤ st'.lo ∧ st'.lo ≤ st'.heap.length ∧ hp st' st.heap.length = some (.var [iv c.room, iv c.depth, F, P])) (by omega) (by simp only [go_sem, hl]) (by rfl) (by simp only [go_sem, hl]) (by decide) ⟨by simp only [go_sem, hl]; rfl, by simp [lo_push], by simp only [lo_push, len_push]; omega, by simp only [go_sem]⟩ ?_ ?_
 ·rintro i hi tm1 st1 ⟨hv, hlo, hwf, hb⟩ hS hia
  simp only [List.map_cons, List.map_nil, List.cons.injEq, and_true] at hv
  have hl1 : tm1.length = 37 := (by rw [hS.1]; simp only [put_len, hl]); have i1 : tg tm1 1 = .ptr st.heap.length 0 := (by rw [hS.2 1 (by decide)]; simp only [go_sem, hl, h0]); clear hS
  have lb := hp_lt hb
  refine go (bw9 hl1 i1 hia hb hFs (neL lb) (neA lb) (ltL lb) (ltA lb)) fnil ?_
  refine wp_range c.figs.length [5] (fun k vs st' => ∃ v, vs = [v] ∧ OwnS st.heap.length st' 1 v (castL ((List.range k).filter (wantP c i))).length ((castL ((List.range k).filter (wantP c i))).flatMap encI) ∧ st.heap.length ≤ st'.lo ∧ st'.lo ≤ st'.heap.length ∧ hp st' st.heap.length = some (.var [iv c.room, iv c.depth, F, P])) (by omega) (by simp only [go_sem, hl1]) (by simp only [go_sem, hl1]) (by simp only [go_sem, hl1]) (by decide) ⟨_, by simp only [go_sem, hl1], .nil, hlo, hwf, hb⟩ ?_ ?_
  ·clear hb hlo hwf
   rintro k hk tm2 st2 ⟨v, hv2, hO, hlo, hwf, hb⟩ hS hka
   simp only [List.map_cons, List.map_nil, List.cons.injEq, and_true] at hv2
   have hl2 : tm2.length = 37 := (by rw [hS.1]; simp only [put_len, hl1]); have j4 : tg tm2 4 = iv i := (by rw [hS.2 4 (by decide)]; simp only [go_sem, hl1, i1, hia]); have j13 : tg tm2 13 = F := (by rw [hS.2 13 (by decide)]; simp only [go_sem, hl1, i1, hia]); clear hS
   have lb := hp_lt hb
   rw [castL_succ]
   have hll := castL_len (wantP c i) k
   have hget : wantP c i k = (c.figs[k].eve == (i : Int)) := by simp only [wantP, List.getElem?_eq_getElem hk]
   cases hx : (c.figs[k].eve == (i : Int))
   ·rw [hx] at hget
    refine go (bw11 hl2 j4 j13 hka hv2 hx hb (neL lb) (neA lb) (ltL lb) (ltA lb)) fnil ?_
    refine ⟨v, by simp only [go_sem, hl2, hv2], ?_, by simp only [lo_push, lo_setVar]; omega, by simp only [lo_push, lo_setVar, len_push, len_setVar]; omega, by simp only [go_sem, hb, neL lb, neA lb, ltL lb, ltA lb]⟩
    simpa [hget] using hO.push.setVar (by simp [hp_push])
   ·rw [hx] at hget
    refine go (bw11 hl2 j4 j13 hka hv2 hx hb (neL lb) (neA lb) (ltL lb) (ltA lb)) fnil ?_
    refine wops_append rfl rfl (by simp only [go_sem, hl2, hv2]; first | done | rfl) (by simp only [go_sem, hl2, hv2]; first | done | rfl) ((hO.push.setVar (by simp [hp_push])).push) rfl (by first | omega | (simp only [len_push, len_setVar]; omega)) (by rfl) (by rfl) (by simp only [maxList]; omega) ?_
    intro v' st3 hO' hFr hk3
    have f1 := hFr.lo
    have f2 := hFr.up
    have f3 := hFr.len
    simp only [lo_push, lo_setVar, len_push, len_setVar] at f1 f2 f3
    refine go hl2 fnil ?_
    refine ⟨v', by simp only [go_sem, hl2], by simpa [hget, share_int] using hO', by omega, by omega, hk3 _ _ (by simp only [go_sem, hb, neL lb, neA lb, ltL lb, ltA lb]) (by simp)⟩
  ·clear hb hlo hwf
   rintro tm2 st2 ⟨v, hv2, hO, hlo, hwf, hb⟩ hS
   simp only [List.map_cons, List.map_nil, List.cons.injEq, and_true] at hv2
   have hl2 : tm2.length = 37 := (by rw [hS.1]; simp only [put_len, hl1]); have j1 : tg tm2 1 = .ptr st.heap.length 0 := (by rw [hS.2 1 (by decide)]; simp only [go_sem, hl1, i1, hv]); have j3 : tg tm2 3 = iv (troubleT c p i) := (by rw [hS.2 3 (by decide)]; simp only [go_sem, hl1, i1, hv]); clear hS
   have hw := troubleT_bound c p (i + 1)
   have hsl : SlOf 1 encI v (wantL c i) := SlOf.of_sl hO.sl rfl rfl (fun _ => rfl)
   have hwl := castL_len (wantP c i) c.figs.length
   refine go (bw5 hl2 j1 j3 hv2 hb) fnil ?_
   refine wops_callR rfl rfl (by simp only [go_sem, hl2, hv2]; first | done | rfl) (by simp only [go_sem, hl2, hv2]; exact c91 c F P v p (wantL c i) hFc hP hsl (by omega) (by have : (wantL c i).length ≤ c.figs.length := hwl; omega) (by rw [hpl]; exact wantL_ok c i) _) ?_
   intro u st3 hR
   have hwr : IntKind.wrap .i64 (troubleT c p i + ((outL p (wantL c i)).length : Int)) = troubleT c p (i + 1) := by
    rw [← troubleT_succ]
    refine wrap_in ?_
    have e1 : ((i + 1 : Nat) : Int) * p.length ≤ 36 := by
     have : ((i + 1) * p.length : Nat) ≤ 6 * 6 := Nat.mul_le_mul (by omega) (by omega)
     have e2 : (((i + 1) * p.length : Nat) : Int) = ((i + 1 : Nat) : Int) * p.length := Int.natCast_mul _ _
     omega
    unfold inI; omega
   have hus := (slI hR).slen
   have r1 := hR.lo
   have r2 := hR.len
   refine go (bw4 hl2 j3 hus hwr) fnil ?_
   exact ⟨by simp only [go_sem, hl2], by omega, by omega, hR.hp hb⟩
 ·rintro tm1 st1 ⟨hv, hlo, hwf, hb⟩ hS
  simp only [List.map_cons, List.map_nil, List.cons.injEq, and_true] at hv
  have hl1 : tm1.length = 37 := (by rw [hS.1]; simp only [put_len, hl]); clear hS
  refine go (bw hl1 hv) fnil ?_
  exact fnq_flat (results_one (by rw [rdRes_tmp]; simp only [go_sem, hl1]; rfl)) hlo (by rfl)
def ltTr (c : CL) (a b : List Int) : Bool := decide (troubleL c a < troubleL c b)
theorem c92 (c : CL) (F P P2 : PV) (p p2 : List Int) (hc : OkL c) (hF : SlOf 3 encF F c.figs) (hp : OkP c p) (hp2 : OkP c p2) (hP : SlOf 1 encI P p) (hP2 : SlOf 1 encI P2 p2) (st : St) : Cl EE (.func 92 [] []) [paPV c F P, paPV c F P2] st (.ret (.bool (ltTr c p p2))) st := by
 have hFc := hF.cells
 have hPc := hP.cells
 have hPc2 := hP2.cells
 refine cl_fn (pr92 · _ _) fn92 2 rfl (by decide) (fun tm hl hg => ?_); have h0 : tg tm 0 = paPV c F P := (hg 0 (by decide)); have h1 : tg tm 1 = paPV c F P2 := (hg 1 (by decide)); clear hg
 refine go (bw3 hl h0 h1) (bw3 (c93 c F P p hF hP hc.len hp.len) (c93 c F P2 p2 hF hP2 hc.len hp2.len) fnil) ?_
 unfold ltTr
 refine fnq_flat (results_one (by rw [rdRes_tmp]; simp only [go_sem, hl]; first | done | rfl)) (by first | exact Nat.le_refl _ | omega | (simp only [lo_push, lo_setVar]; omega)) (by rfl)
def easeR (c : CL) : List Int × Int × Int := if listB c then (match bestF (ltTr c) (rightsL c) with | some p => (p, troubleL c p, 0) | none => ([], 0, 5)) else ([], 0, 2)
set_option maxHeartbeats 4000000 in
theorem c49 (c : CL) (F : PV) (hF : SlOf 3 encF F c.figs) (st : St) : ClR EE (.func 49 [] []) [clPV c F] st (fun v st' => ∃ P, v = .tuple [P, iv (easeR c).2.1, iv (easeR c).2.2] ∧ RetW st (easeR c).1.length ((easeR c).1.flatMap encI) P st') := by
 have hFc := hF.cells
 have hFi := hF.isCell
 refine clr_fn (pr49 · _ _) fn49 1 rfl (by decide) (fun tm hl hg => ?_); have h0 : tg tm 0 = clPV c F := (hg 0 (by decide)); clear hg
 cases hA : listB c
 ·have e : easeR c = ([], 0, 2) := by simp [easeR, hA]
  rw [e]
  refine go (bw3 hl h0 hA) (bw (c77 c F hF) fnil) ?_
  refine fnr_ret (v := .tuple [.nilslice, iv 0, iv 2]) (by simp only [results, rdResL, rdRes_tmp]; simp only [go_sem, hl]) ?_
  exact finish_slT rfl (by rfl) (by simp only [lo_push]; omega) (fun m => rfl)
 ·have hc := OkL.of hA
  refine go (bw3 hl h0 hA) (bw3 (c77 c F hF) (c82 c F) fnil) ?_
  have hb1 : hp ((({ heap := st.heap, lo := st.heap.length } : St).push (.var [iv c.room, iv c.depth, F])).push (.var [iv c.room, iv c.depth, F])) (st.heap.length + 1) = some (.var [iv c.room, iv c.depth, F]) := by simp only [go_sem]
  refine wops_callR rfl rfl (by simp only [go_sem, hl]; first | done | rfl) (by simp only [go_sem, hl]; exact c81 c F hFc hFi 129 [] [.ptr (st.heap.length + 1) 0] (.func 92 [] []) rfl (rightsL c) (ltTr c) (fun l => l = st.heap.length + 1) _ (fun l h => by subst h; simp only [len_push]; omega) (fun st' hx => iter129 hF hc (hx.hp hb1)) (fun st' _ x hx o ho vx vo ⟨P, e1, hP⟩ ⟨P2, e2, hP2⟩ => by subst e1; subst e2; exact c92 c F P P2 x o hc hF (rightsL_mem hx).1 (rightsL_mem ho).1 hP hP2 st')) ?_
  rintro v st1 ⟨cs, rfl, hO, hk, hlo⟩
  simp only [lo_push] at hlo
  have hk1 := hk.1
  simp only [len_push] at hk1
  have hwf1 : st1.lo ≤ st1.heap.length := by omega
  cases hb : bestF (ltTr c) (rightsL c) with
  | none =>
   have e : easeR c = ([], 0, 5) := by simp [easeR, hA, hb]
   rw [e]
   rw [hb] at hO
   simp only [OutP] at hO
   subst hO
   refine go (bw4 hl @isS @isN hb) fnil ?_
   refine fnr_ret (v := .tuple [.nilslice, iv 0, iv 5]) (by simp only [results, rdResL, rdRes_tmp]; simp only [go_sem, hl]) ?_
   exact finish_slT rfl (by rfl) (by simp only [lo_push, lo_setVar]; omega) (fun m => rfl)
  | some p =>
   have e : easeR c = (p, troubleL c p, 0) := by simp [easeR, hA, hb]
   rw [e]
   rw [hb] at hO
   obtain ⟨P, rfl, hP⟩ := hO
   have hPc := hP.cells
   have hPi := hP.isCell
   have hlen := hc.len
   have hp := (rightsL_mem (bestF_mem (ltTr c) (rightsL c) (Nat.le_refl _) (by rw [List.take_length]; exact hb))).1
   have hpl := hp.len
   refine go (bw6 hl @isS @isN hb hFi hPi) (bw (c93 c F P p hF hP hlen hpl) fnil) ?_
   refine fnr_ret (v := .tuple [P, iv (troubleL c p), iv 0]) (by simp only [results, rdResL, rdRes_tmp]; simp only [go_sem, hl]) ?_
   exact finish_slT hP.sl (by rfl) (by simp only [lo_push, lo_setVar]; omega) (fun m => ints_low p m)
def movP (p q : List Int) (i : Nat) : Bool := p.getD i 0 != q.getD i 0
def movedL (p q : List Int) : Int := (((List.range q.length).filter (movP p q)).length : Int)
set_option maxHeartbeats 1000000 in
theorem c98 (c : CL) (F P G : PV) (p q : List Int) (hF : F.cells = [F]) (hP : SlOf 1 encI P p) (hG : SlOf 1 encI G q) (hN : q.length < 1000) (hpq : q.length ≤ p.length) (st : St) : Cl EE (.func 98 [] []) [paPV c F P, G] st (.ret (iv (movedL p q))) st := by
 have hPc := hP.cells
 have hGs := hG.slen
 refine cl_fn (pr98 · _ _) fn98 2 rfl (by decide) (fun tm hl hg => ?_); have h0 : tg tm 0 = paPV c F P := (hg 0 (by decide)); have h1 : tg tm 1 = G := (hg 1 (by decide)); clear hg
 refine go (bw4 hl h0 h1 hGs) fnil ?_
 refine wp_range q.length [5] (fun i vs st' => vs = [iv (((List.range i).filter (movP p q)).length : Int)] ∧ st' = (({ heap := st.heap, lo := st.heap.length } : St).push (.var [iv c.room, iv c.depth, F, P]))) (by omega) (by simp only [go_sem, hl]) (by simp only [go_sem, hl]) (by simp only [go_sem, hl]) (by decide) ⟨by simp only [go_sem, hl]; rfl, by simp only [go_sem]⟩ ?_ ?_
 ·rintro i hi tm1 st1 ⟨hv, rfl⟩ hS hia
  simp only [List.map_cons, List.map_nil, List.cons.injEq, and_true] at hv
  have hl1 : tm1.length = 26 := (by rw [hS.1]; simp only [put_len, hl]); have i2 : tg tm1 2 = .ptr st.heap.length 0 := (by rw [hS.2 2 (by decide)]; simp only [go_sem, hl, h0]); have i8 : tg tm1 8 = G := (by rw [hS.2 8 (by decide)]; simp only [go_sem, hl, h0]); clear hS
  have hget : movP p q i = (p[i] != q[i]) := by simp only [movP, List.getD_eq_getElem?_getD, List.getElem?_eq_getElem hi, List.getElem?_eq_getElem (Nat.lt_of_lt_of_le hi hpq), Option.getD_some]
  have hle : ((List.range i).filter (movP p q)).length ≤ i := by have := List.length_filter_le (movP p q) (List.range i); simpa using this
  cases hx : (p[i] != q[i])
  ·rw [hx] at hget
   refine go (bw6 hl1 i2 i8 hia hv hx) fnil ?_
   refine ⟨?_, rfl⟩
   simp only [go_sem, hl1, hv]
   simp [List.filter_append, List.range_succ, hget]
  ·rw [hx] at hget
   have hw : IntKind.wrap .i64 ((((List.range i).filter (movP p q)).length : Int) + 1) = (((List.range i).filter (movP p q)).length : Int) + 1 := wrap_in (by unfold inI; omega)
   refine go (bw7 hl1 i2 i8 hia hv hx hw) fnil ?_
   refine ⟨?_, rfl⟩
   simp only [go_sem, hl1]
   simp [List.filter_append, List.range_succ, hget]
 ·rintro tm1 st1 ⟨hv, rfl⟩ hS
  simp only [List.map_cons, List.map_nil, List.cons.injEq, and_true] at hv
  have hl1 : tm1.length = 26 := (by rw [hS.1]; simp only [put_len, hl]); clear hS
  refine go (bw hl1 hv) fnil ?_
  exact fnq_flat (results_one (by rw [rdRes_tmp]; simp only [go_sem, hl1]; rfl)) (by simp only [lo_push]; omega) (by rfl)
def riseP (n : Nat) (l : List Int) (i : Nat) : Bool := inB (l.getD i 0) 0 ((n : Int) - 1) && !(decide (0 < i) && decide (l.getD i 0 ≤ l.getD (i - 1) 0))
def risingB (n : Nat) (l : List Int) : Bool := (List.range l.length).all (riseP n l)
set_option maxHeartbeats 1000000 in
theorem c89 (c : CL) (F G : PV) (l : List Int) (hF : SlOf 3 encF F c.figs) (hG : SlOf 1 encI G l) (hN : l.length < 1000) (hn : c.figs.length < 1000) (st : St) : Cl EE (.func 89 [] []) [clPV c F, G] st (.ret (.bool (risingB c.figs.length l))) st := by
 have hGs := hG.slen
 have hFs := hF.slen
 have hFc := hF.cells
 refine cl_fn (pr89 · _ _) fn89 2 rfl (by decide) (fun tm hl hg => ?_); have h0 : tg tm 0 = clPV c F := (hg 0 (by decide)); have h1 : tg tm 1 = G := (hg 1 (by decide)); clear hg
 refine go (bw4 hl h0 h1 hGs) fnil ?_
 have hwn : IntKind.wrap .i64 ((c.figs.length : Int) - 1) = (c.figs.length : Int) - 1 := wrap_in (by unfold inI; omega)
 refine wp_range l.length [] (fun i vs st' => (∀ k, k < i → riseP c.figs.length l k = true) ∧ st' = (({ heap := st.heap, lo := st.heap.length } : St).push (.var [iv c.room, iv c.depth, F]))) (by omega) (by simp only [go_sem, hl]) (by simp only [go_sem, hl]) (by simp only [go_sem, hl]) (by decide) ⟨fun k hk => absurd hk (by omega), by simp only [go_sem]⟩ ?_ ?_
 ·rintro i hi tm1 st1 ⟨hno, rfl⟩ hS hia
  have hl1 : tm1.length = 35 := (by rw [hS.1]; simp only [put_len, hl]); have i1 : tg tm1 1 = G := (by rw [hS.2 1 (by decide)]; simp only [go_sem, hl, h1]); have i2 : tg tm1 2 = .ptr st.heap.length 0 := (by rw [hS.2 2 (by decide)]; simp only [go_sem, hl, h1]); have i7 : tg tm1 7 = G := (by rw [hS.2 7 (by decide)]; simp only [go_sem, hl, h1]); clear hS
  have hgi : l.getD i 0 = l[i] := by rw [List.getD_eq_getElem?_getD, List.getElem?_eq_getElem hi]; rfl
  have bad : riseP c.figs.length l i = false → risingB c.figs.length l = false := fun h => by
   rw [risingB, List.all_eq_false]
   exact ⟨i, by simpa using hi, by simp [h]⟩
  have good : riseP c.figs.length l i = true → ∀ k, k < i + 1 → riseP c.figs.length l k = true := fun h k hk => by
   by_cases hki : k = i
   ·subst hki; exact h
   ·exact hno k (by omega)
  cases hA : inB l[i] 0 ((c.figs.length : Int) - 1)
  ·rw [bad (by simp only [riseP, hgi, hA, Bool.false_and])]
   refine go (bw8 hl1 i1 i2 i7 hia hFs hwn hA) (bw c122 fnil) ?_
   refine fnq_flat (results_one (by rw [rdRes_tmp]; simp only [go_sem, hl1]; first | done | rfl)) (by first | exact Nat.le_refl _ | omega | (simp only [lo_push, lo_setVar]; omega)) (by rfl)
  ·by_cases h0i : 0 < i
   ·have hd : decide ((i : Int) > 0) = true := by simp; omega
    have hw1 : IntKind.wrap .i64 ((i : Int) - 1) = ((i - 1 : Nat) : Int) := by rw [wrap_in (by unfold inI; omega)]; omega
    have hgj : l.getD (i - 1) 0 = l[i - 1] := by rw [List.getD_eq_getElem?_getD, List.getElem?_eq_getElem (by omega)]; rfl
    cases hB : decide (l[i] ≤ l[i - 1])
    ·refine go (bw11 hl1 i1 i2 i7 hia hFs hwn hA hd hw1 hB) (bw c122 fnil) ?_
     exact ⟨good (by simp only [riseP, hgi, hgj, hA, hB]; simp), rfl⟩
    ·rw [bad (by simp only [riseP, hgi, hgj, hA, hB]; simp [h0i])]
     refine go (bw11 hl1 i1 i2 i7 hia hFs hwn hA hd hw1 hB) (bw c122 fnil) ?_
     refine fnq_flat (results_one (by rw [rdRes_tmp]; simp only [go_sem, hl1]; first | done | rfl)) (by first | exact Nat.le_refl _ | omega | (simp only [lo_push, lo_setVar]; omega)) (by rfl)
   ·have hd : decide ((i : Int) > 0) = false := by simp; omega
    refine go (bw9 hl1 i1 i2 i7 hia hFs hwn hA hd) (bw c122 fnil) ?_
    exact ⟨good (by simp only [riseP, hgi, hA]; simp [h0i]), rfl⟩
 ·rintro tm1 st1 ⟨hno, rfl⟩ hS
  have hl1 : tm1.length = 35 := (by rw [hS.1]; simp only [put_len, hl]); clear hS
  have : risingB c.figs.length l = true := by
   rw [risingB, List.all_eq_true]
   intro k hk
   exact hno k (by simpa using hk)
  rw [this]
  refine go hl1 fnil ?_
  refine fnq_flat (results_one (by rw [rdRes_tmp]; simp only [go_sem, hl1]; first | done | rfl)) (by first | exact Nat.le_refl _ | omega | (simp only [lo_push, lo_setVar]; omega)) (by rfl)
end Go.Den.Ch
end
section
namespace Go.Den.Ch
theorem risingB_ok {n : Nat} {l : List Int} (h : risingB n l = true) : OkF n l := by
 intro x hx
 obtain ⟨i, hi, rfl⟩ := List.getElem_of_mem hx
 simp only [risingB, List.all_eq_true, List.mem_range] at h
 have h1 := h i hi
 have hgi : l.getD i 0 = l[i] := by rw [List.getD_eq_getElem?_getD, List.getElem?_eq_getElem hi]; rfl
 simp only [riseP, hgi, inB, Bool.and_eq_true, decide_eq_true_eq] at h1
 omega
def outR (c : CL) (p fs : List Int) : List Int × Int := if listB c && (packB c p && risingB c.figs.length fs) then (if (fault c p).isNone then (outL p fs, 0) else ([], 7)) else ([], 2)
set_option maxHeartbeats 4000000 in
theorem c44 (c : CL) (F P G : PV) (p fs : List Int) (hF : SlOf 3 encF F c.figs) (hP : SlOf 1 encI P p) (hG : SlOf 1 encI G fs) (hfs : fs.length < 1000) (st : St) : ClR EE (.func 44 [] []) [clPV c F, P, G] st (fun v st' => ∃ V, v = .tuple [V, iv (outR c p fs).2] ∧ RetW st (outR c p fs).1.length ((outR c p fs).1.flatMap encI) V st') := by
 have hFc := hF.cells
 have hFi := hF.isCell
 have hPc := hP.cells
 have hPi := hP.isCell
 refine clr_fn (pr44 · _ _) fn44 3 rfl (by decide) (fun tm hl hg => ?_); have h0 : tg tm 0 = clPV c F := (hg 0 (by decide)); have h1 : tg tm 1 = P := (hg 1 (by decide)); have h2 : tg tm 2 = G := (hg 2 (by decide)); clear hg
 cases hA : listB c
 ·have e : outR c p fs = ([], 2) := by simp [outR, hA]
  rw [e]
  refine go (bw5 hl h0 h1 h2 hA) (bw (c77 c F hF) fnil) ?_
  refine fnr_ret (v := .tuple [.nilslice, iv 2]) (by simp only [results, rdResL, rdRes_tmp]; simp only [go_sem, hl]) ?_
  exact finish_slT rfl (by rfl) (by simp only [lo_push]; omega) (fun m => rfl)
 ·have hc := OkL.of hA
  have hlen := hc.len
  cases hB : packB c p
  ·have e : outR c p fs = ([], 2) := by simp [outR, hA, hB]
   rw [e]
   refine go (bw6 hl h0 h1 h2 hA hB) (bw3 (c77 c F hF) (c78 c F P p hF hP hA) fnil) ?_
   refine fnr_ret (v := .tuple [.nilslice, iv 2]) (by simp only [results, rdResL, rdRes_tmp]; simp only [go_sem, hl]) ?_
   exact finish_slT rfl (by rfl) (by simp only [lo_push]; omega) (fun m => rfl)
  ·have hp := OkP.of hB
   have hpl := hp.len
   cases hC : risingB c.figs.length fs
   ·have e : outR c p fs = ([], 2) := by simp [outR, hC]
    rw [e]
    refine go (bw7 hl h0 h1 h2 hA hB hC) (bw4 (c77 c F hF) (c78 c F P p hF hP hA) (c89 c F G fs hF hG hfs (by omega)) fnil) ?_
    refine fnr_ret (v := .tuple [.nilslice, iv 2]) (by simp only [results, rdResL, rdRes_tmp]; simp only [go_sem, hl]) ?_
    exact finish_slT rfl (by rfl) (by simp only [lo_push]; omega) (fun m => rfl)
   ·cases hD : (fault c p).isNone
    ·have e : outR c p fs = ([], 7) := by simp only [outR, hA, hB, hC, hD]; rfl
     rw [e]
     refine go (bw11 hl h0 h1 h2 hA hB hC hD hFi hPi hPc) (bw5 (c77 c F hF) (c78 c F P p hF hP hA) (c89 c F G fs hF hG hfs (by omega)) (c90 c F P p hF hP hc hp) fnil) ?_
     refine fnr_ret (v := .tuple [.nilslice, iv 7]) (by simp only [results, rdResL, rdRes_tmp]; simp only [go_sem, hl]) ?_
     exact finish_slT rfl (by rfl) (by simp only [lo_push, lo_setVar]; omega) (fun m => rfl)
    ·have e : outR c p fs = (outL p fs, 0) := by simp only [outR, hA, hB, hC, hD]; rfl
     rw [e]
     refine go (bw11 hl h0 h1 h2 hA hB hC hD hFi hPi hPc) (bw5 (c77 c F hF) (c78 c F P p hF hP hA) (c89 c F G fs hF hG hfs (by omega)) (c90 c F P p hF hP hc hp) fnil) ?_
     refine wops_callR rfl rfl (by simp only [go_sem, hl, h2]; first | done | rfl) (by simp only [go_sem, hl, h2]; exact c91 c F P G p fs hFc hP hG (by omega) hfs (by rw [hpl]; exact risingB_ok hC) _) ?_
     intro v st1 hR
     have r1 := hR.lo
     have r2 := hR.len
     simp only [lo_push, lo_setVar, len_push, len_setVar] at r1 r2
     refine go hl fnil ?_
     refine fnr_ret (v := .tuple [v, iv 0]) (by simp only [results, rdResL, rdRes_tmp]; simp only [go_sem, hl]) ?_
     exact finish_slT hR.sl (by rfl) (by omega) (fun m => ints_low _ m)
def ltMv (q : List Int) (a b : List Int) : Bool := decide (movedL a q < movedL b q)
theorem c97 (c : CL) (F P P2 Q : PV) (p p2 q : List Int) (hF : F.cells = [F]) (hP : SlOf 1 encI P p) (hP2 : SlOf 1 encI P2 p2) (hQ : SlOf 1 encI Q q) (hq : q.length < 1000) (hpp : q.length ≤ p.length) (hpp2 : q.length ≤ p2.length) (st : St) (b : Nat) (hb : hp st b = some (.var [Q])) : Cl EE (.func 97 [] [.ptr b 0]) [paPV c F P, paPV c F P2] st (.ret (.bool (ltMv q p p2))) st := by
 have hPc := hP.cells
 have hPc2 := hP2.cells
 refine cl_fn (pr97 · _ _) fn97 3 rfl (by decide) (fun tm hl hg => ?_); have h0 : tg tm 0 = paPV c F P := (hg 0 (by decide)); have h1 : tg tm 1 = paPV c F P2 := (hg 1 (by decide)); have h2 : tg tm 2 = .ptr b 0 := (hg 2 (by decide)); clear hg
 have hb' : hp { heap := st.heap, lo := st.heap.length } b = some (.var [Q]) := hb
 have lb := hp_lt hb
 refine go (bw9 hl h0 h1 h2 hb' (neL lb) (neA lb) (ltL lb) (ltA lb)) (bw3 (c98 c F P Q p q hF hP hQ hq hpp) (c98 c F P2 Q p2 q hF hP2 hQ hq hpp2) fnil) ?_
 unfold ltMv
 refine fnq_flat (results_one (by rw [rdRes_tmp]; simp only [go_sem, hl]; first | done | rfl)) (by first | exact Nat.le_refl _ | omega | (simp only [lo_push, lo_setVar]; omega)) (by rfl)
theorem encF_cell : ∀ l : List Fig, (l.flatMap encF).all PV.isCell = true
 | [] => rfl
 | f :: l => by rw [List.flatMap_cons, List.all_append, encF_cell l]; rfl
theorem encF_share : ∀ l : List Fig, (l.flatMap encF).map PV.share = l.flatMap encF
 | [] => rfl
 | f :: l => by rw [List.flatMap_cons, List.map_append, encF_share l]; rfl
theorem encF_low (l : List Fig) (m : Nat) (c : PV) (hc : c ∈ l.flatMap encF) : PV.low m c = true := by
 simp only [List.mem_flatMap, List.mem_cons, List.not_mem_nil, or_false] at hc
 obtain ⟨a, _, rfl | rfl | rfl⟩ := hc <;> rfl
theorem c96 (F : PV) (l : List Fig) (hF : SlOf 3 encF F l) (hN : l.length < 1000) (st : St) : ClR EE (.func 96 [] []) [F] st (RetS st 3 l.length (l.flatMap encF)) := by
 have h := hF.sl
 refine clr_fn (pr96 · _ _) fn96 1 rfl (by decide) (fun tm hl hg => ?_); have h0 : tg tm 0 = F := (hg 0 (by decide)); clear hg
 cases F with
 | nilslice =>
  simp only [PV.sl, Option.some.injEq, Prod.mk.injEq] at h
  have : l = [] := by simpa using h.1.symm
  subst this
  refine go (bw hl h0) fnil ?_
  exact fnr_ret (results_one (v := .nilslice) (by rw [rdRes_tmp]; simp only [go_sem, hl])) (OwnS.nil.finish (by simp) (fun m c hc => by cases hc))
 | slice o n cs =>
  simp only [PV.sl, Option.some.injEq, Prod.mk.injEq] at h
  obtain ⟨rfl, rfl⟩ := h
  refine go (bw hl h0) fnil ?_
  have hO : OwnS st.heap.length ((⟨st.heap, st.heap.length⟩ : St).push (.tag true)) 3 (.slice (.tag st.heap.length 3) 0 []) 0 [] := ⟨by simp, .inr ⟨_, rfl, Nat.le_refl _, by rw [hp_push, if_pos rfl]⟩⟩
  refine wops_append rfl rfl (by simp only [go_sem, hl]; first | done | rfl) (by simp only [go_sem, hl, h0]; first | done | rfl) hO rfl (by simp only [len_push]; omega) (by rw [flatMap_len (sz := 3) (fun _ _ => rfl)]) (encF_cell l) (by simp only [maxList]; omega) ?_
  intro v' st2 hO' hFr hk
  refine go hl fnil ?_
  refine fnr_ret (results_one (v := v') (by rw [rdRes_tmp]; simp only [go_sem, hl])) (OwnS.finish (n := l.length) (cs := l.flatMap encF) ?_ ?_ (fun m c hc => encF_low l m c hc))
  ·have : List.map PV.share (List.flatMap encF l) = List.flatMap encF l := encF_share l
   simpa [this] using hO'
  ·have := hFr.lo
   simp only [lo_push] at this
   omega
 | _ => simp [PV.sl] at h
end Go.Den.Ch
end

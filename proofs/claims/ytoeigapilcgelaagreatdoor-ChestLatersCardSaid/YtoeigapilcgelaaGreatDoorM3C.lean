/- Part of the proofs of laws of the package chest: contracts of the document's functions. Texts: ChSc. -/
import Derived.Test.YtoeigapilcgelaaGreatDoorK3Ax
import Derived.Test.YtoeigapilcgelaaGreatDoorK3Aw
set_option linter.unusedSimpArgs false
set_option linter.unusedVariables false
section
namespace Go.Den
theorem finish_el {st st1 : St} {p : List Int} {b : Bool} (h : st.heap.length ≤ st1.lo) : finishCall st st1 (.tuple [Ch.elL p,.bool b]) = (.tuple [Ch.elL p,.bool b],st) := by
 cases p with
 | nil => exact finish_tuple h (by rfl)
 | cons x l =>
  have hl : lowL st.heap.length ((x :: l).flatMap Ch.encI) = true := lowL_of fun c hc => Ch.encI_low _ _ c hc
  unfold finishCall
  rw [if_pos h]
  simp only [letGo,freezeL,freeze1,retagL,retag1,PV.low,Ch.elL,hl,if_true,Option.map_some,List.length_nil,List.replicate_zero,List.append_nil]
theorem fnq_el {rs : List DRes} {st : St} {tm1 : List PV} {st1 : St} {p : List Int} {b : Bool} (hr : results tm1 st1.heap rs = some (.tuple [Ch.elL p,.bool b])) (h : st.heap.length ≤ st1.lo) : FnQ rs st (.ret (.tuple [Ch.elL p,.bool b])) st .ret tm1 st1 := by
 unfold FnQ
 exact ⟨_,hr,_,finish_el h,rfl⟩
end Go.Den
namespace Go.Den.Ch
theorem best_step {m : List Int → Int} {X : List (List Int)} {i : Nat} {o : List Int} (hi : i < X.length) (h : bestF (fun a b => decide (m a < m b)) (X.take (max i 1)) = some o) : bestF (fun a b => decide (m a < m b)) (X.take (max (i + 1) 1)) = some (if decide (m X[i] < m o) then X[i] else o) := by
 rw [show max (i + 1) 1 = i + 1 by omega,bestF_take _ X hi]
 cases i with
 | zero =>
  have e : bestF (fun a b => decide (m a < m b)) (X.take 0) = none := by simp [bestF]
  rw [show max 0 1 = 0 + 1 by rfl,bestF_take _ X hi,e] at h
  simp only [Option.some.injEq] at h
  subst h
  rw [e]
  simp
 | succ i =>
  rw [show max (i + 1) 1 = i + 1 by omega] at h
  rw [h]
  simp only
  split <;> rfl
theorem best_first {m : List Int → Int} {X : List (List Int)} (h : 0 < X.length) : bestF (fun a b => decide (m a < m b)) (X.take (max 0 1)) = some X[0] := by
 have e : bestF (fun a b => decide (m a < m b)) (X.take 0) = none := by simp [bestF]
 rw [show max 0 1 = 0 + 1 by rfl,bestF_take _ X h,e]
theorem best_last {m : List Int → Int} {X : List (List Int)} {o : List Int} (h0 : 0 < X.length) (h : bestF (fun a b => decide (m a < m b)) (X.take (max X.length 1)) = some o) : bestF (fun a b => decide (m a < m b)) X = some o := by
 rw [show max X.length 1 = X.length by omega,List.take_length] at h
 exact h
theorem right_in {c : CL} (hc : OkL c) {p : List Int} (hp : p ∈ rightsL c) : p.length = c.figs.length ∧ ∀ x ∈ p,0 ≤ x ∧ x < 5 := ⟨(mem_rights.1 hp).1.len,fun x hx => by
 have := (mem_rights.1 hp).1.rng x hx
 have := hc.d1
 omega⟩
set_option maxHeartbeats 8000000 in
theorem c35 (c : CL) (F : PV) (hF : SlOf 3 encF F c.figs) (hc : OkL c) (st : St) : Cl EE (.func 35 [] []) [clPV c F] st (.ret (.tuple [elL ((bestF ltLay (rightsL c)).getD []),.bool (bestF ltLay (rightsL c)).isSome])) st := by
 have hFc := hF.cells
 have hlen := hc.len
 refine cl_fn (pr35 · _ _) fn35 1 rfl (by decide) (fun tm hl hg => ?_);have h0 : tg tm 0 = clPV c F := (hg 0 (by decide));clear hg
 refine go (bw hl h0) fnil ?_
 refine wops_callR rfl rfl (by simp only [↓reduceIte,go_sem,hl];first | done | rfl) (by simp only [↓reduceIte,go_sem,hl];exact r34 c F hF hc _) ?_
 rintro v S1 ⟨hV,hK⟩
 have q1 := hK.2
 have q2 := hK.len
 try simp only [lo_push,len_push] at q1 q2
 have hVs := hV.slen
 have hmem : ∀ p ∈ rightsL c,p.length = c.figs.length ∧ ∀ x ∈ p,0 ≤ x ∧ x < 5 := fun p hp => right_in hc hp
 have hXl := rightsL_len hc
 generalize rightsL c = X at hV hVs hmem hXl
 cases d0 : ((X.length : Int) == 0)
 case true =>
  obtain rfl : X = [] := List.eq_nil_of_length_eq_zero (by have := beq_iff_eq.1 d0;omega)
  have e : bestF ltLay ([] : List (List Int)) = none := rfl
  rw [e]
  refine go (bw3 hl hVs d0) fnil ?_
  refine fnq_el (p := []) (results_two (v := .nilslice) (u := .bool false) ?_ ?_) (by first | omega | (simp only [lo_push,lo_setVar];omega))
  ·rw [rdRes_tmp];simp only [↓reduceIte,go_sem,hl]
  ·rw [rdRes_tmp];simp only [↓reduceIte,go_sem,hl]
 have h0X : 0 < X.length := by
  rw [beq_eq_false_iff_ne] at d0;omega
 have ec := fun p => el_cells p
 have ei := fun p => el_isCell p
 refine go (bw5 hl hVs d0 ec ei) fnil ?_
 refine wp_for [6,5] (fun i vs s => ∃ o,vs = [iv i,elL o] ∧ i ≤ X.length ∧ o ∈ X ∧ bestF ltLay (X.take (max i 1)) = some o ∧ s = S1) (fun i => X.length - i) ⟨X[0],by simp only [↓reduceIte,go_sem,hl];first | done | rfl,Nat.zero_le _,List.getElem_mem _,best_first (m := layersL) h0X,rfl⟩ ?_
 rintro i tm1 s1 ⟨o,hv,hi,ho,hbo,rfl⟩ hS
 simp only [List.map_cons,List.map_nil,List.cons.injEq,and_true] at hv
 obtain ⟨hv6,hv5⟩ := hv
 have hl1 : tm1.length = 34 := (by rw [hS.1];simp only [put_len,hl]);have i4 : tg tm1 4 = v := (by rw [hS.2 4 (by decide)];simp only [↓reduceIte,go_sem,hl,h0]);clear hS
 refine go (bw4 hl1 hv6 i4 hVs) fnil ?_
 refine ⟨decide ((i : Int) < X.length),by simp only [↓reduceIte,go_sem,hl1],fun hb => ?_,fun hb1 => ?_⟩
 ·have hlt := of_decide_eq_false hb
  obtain rfl : i = X.length := by omega
  have hbl : bestF ltLay X = some o := best_last (m := layersL) h0X hbo
  rw [hbl]
  refine go (bw hl1 hv5) fnil ?_
  refine fnq_el (p := o) (results_two (v := elL o) (u := .bool true) ?_ ?_) (by first | omega | (simp only [lo_push,lo_setVar];omega))
  ·rw [rdRes_tmp];simp only [↓reduceIte,go_sem,hl1]
  ·rw [rdRes_tmp];simp only [↓reduceIte,go_sem,hl1]
 have hlt : i < X.length := by have := of_decide_eq_true hb1;omega
 have hw1 : IntKind.wrap .i64 ((i : Int) + 1) = ((i + 1 : Nat) : Int) := wrap_nat (n := i + 1) (by omega)
 have g1 := hmem _ (List.getElem_mem hlt)
 have g2 := hmem o ho
 have ka := c29 (elL X[i]) X[i] (el_sl _) (by omega) (fun x hx => by have := g1.2 x hx;unfold inI;omega)
 have kb := c29 (elL o) o (el_sl _) (by omega) (fun x hx => by have := g2.2 x hx;unfold inI;omega)
 have hbs := best_step (m := layersL) hlt hbo
 refine ⟨by omega,?_⟩
 cases hx : decide (layersL X[i] < layersL o)
 ·rw [hx,if_neg (by simp)] at hbs
  refine go (bw8 hl1 hv6 hv5 i4 ec ei hw1 hx) (bw3 ka kb fnil) ?_
  exact ⟨o,by simp only [↓reduceIte,go_sem,hl1,hv5],by omega,ho,hbs,rfl⟩
 ·rw [hx,if_pos rfl] at hbs
  refine go (bw8 hl1 hv6 hv5 i4 ec ei hw1 hx) (bw3 ka kb fnil) ?_
  exact ⟨X[i],by simp only [↓reduceIte,go_sem,hl1],by omega,List.getElem_mem _,hbs,rfl⟩
set_option maxHeartbeats 8000000 in
theorem c51 (c : CL) (F P : PV) (p : List Int) (hF : SlOf 3 encF F c.figs) (hP : SlOf 1 encI P p) (hc : OkL c) (hp0 : p.length = c.figs.length) (st : St) : Cl EE (.func 51 [] []) [clPV c F,P] st (.ret (iv (troubleL c p))) st := by
 have hFc := hF.cells
 have hPs := hP.slen
 have hlen := hc.len
 refine cl_fn (pr51 · _ _) fn51 2 rfl (by decide) (fun tm hl hg => ?_);have h0 : tg tm 0 = clPV c F := (hg 0 (by decide));have h1 : tg tm 1 = P := (hg 1 (by decide));clear hg
 refine go (bw3 hl h0 h1) fnil ?_
 refine wp_for [6,5] (fun i vs s => vs = [iv i,iv (troubleT c p i)] ∧ i ≤ 6 ∧ Fr (st.heap.length + 1) (({ heap := st.heap,lo := st.heap.length } : St).push (.var [iv c.room,iv c.depth,F])) s) (fun i => 6 - i) ⟨by simp only [↓reduceIte,go_sem,hl];rfl,Nat.zero_le _,.refl _ _⟩ ?_
 rintro i tm1 s1 ⟨hv,hi,hFr⟩ hS
 simp only [List.map_cons,List.map_nil,List.cons.injEq,and_true] at hv
 obtain ⟨hv6,hv5⟩ := hv
 have hl1 : tm1.length = 20 := (by rw [hS.1];simp only [put_len,hl]);have i1 : tg tm1 1 = P := (by rw [hS.2 1 (by decide)];simp only [↓reduceIte,go_sem,hl,h1]);have i2 : tg tm1 2 = .ptr st.heap.length 0 := (by rw [hS.2 2 (by decide)];simp only [↓reduceIte,go_sem,hl,h1]);clear hS
 have b2 : hp s1 st.heap.length = some (.var [iv c.room,iv c.depth,F]) := (hFr.old _ (by omega)).trans (by simp only [↓reduceIte,go_sem])
 have m2 := hp_lt b2
 have w1 := hFr.len
 have w2 := hFr.lo
 have w3 := hFr.up
 simp only [lo_push,len_push] at w1 w2 w3
 refine go (bw hl1 hv6) fnil ?_
 refine ⟨decide ((i : Int) < 6),by simp only [↓reduceIte,go_sem,hl1],fun hb => ?_,fun hb1 => ?_⟩
 ·have hlt := of_decide_eq_false hb
  obtain rfl : i = 6 := by omega
  have e6 : troubleL c p = troubleT c p 6 := rfl
  rw [e6]
  refine go (bw hl1 hv5) fnil ?_
  refine fnq_flat (results_one (by rw [rdRes_tmp];simp only [↓reduceIte,go_sem,hl1];first | done | rfl)) (by first | exact Nat.le_refl _ | omega | (simp only [lo_push,lo_setVar];omega)) (by rfl)
 have hlt : i < 6 := by have := of_decide_eq_true hb1;omega
 have hw1 : IntKind.wrap .i64 ((i : Int) + 1) = ((i + 1 : Nat) : Int) := wrap_nat (n := i + 1) (by omega)
 refine ⟨by omega,?_⟩
 refine go (bw11 hl1 hv6 hv5 i1 i2 b2 (neL m2) (neA m2) (ltL m2) (ltA m2) m2) fnil ?_
 refine wops_callR rfl rfl (by simp only [↓reduceIte,go_sem,hl1];first | done | rfl) (by simp only [↓reduceIte,go_sem,hl1];exact c94 c F i hF (by omega) _) ?_
 intro v s2 hR
 have x1 := hR.lo
 have x2 := hR.len
 have hwl : (wantL c i).length ≤ c.figs.length := castL_len _ _
 have hok : OkF p.length (wantL c i) := by rw [hp0];exact risingB_ok (rising_cast _ _)
 refine go (bw hl1 i1) fnil ?_
 refine wops_callR rfl rfl (by simp only [↓reduceIte,go_sem,hl1,i1];first | done | rfl) (by simp only [↓reduceIte,go_sem,hl1,i1];exact c47 P v p (wantL c i) hP (slI hR) (by omega) (by omega) hok _) ?_
 intro w s3 hR2
 have y1 := hR2.lo
 have y2 := hR2.len
 have hVs := (slI hR2).slen
 have hol : (outL p (wantL c i)).length ≤ p.length := castL_len _ _
 have hsu := troubleT_succ c p i
 have hbd := troubleT_bound c p (i + 1)
 have hbd' : troubleT c p (i + 1) ≤ 6 * p.length := Int.le_trans hbd.2 (Int.mul_le_mul_of_nonneg_right (by omega) (by omega))
 have hw : IntKind.wrap .i64 (troubleT c p i + (outL p (wantL c i)).length) = troubleT c p (i + 1) := by rw [hsu] at hbd hbd' ⊢;exact wrap_in (by unfold inI;omega)
 have hx2 : HExt s1.heap s2.heap := hR.w.hext
 have hx3 : HExt s1.heap s3.heap := hx2.trans hR2.w.hext
 have hnew : Fr (st.heap.length + 1) (({ heap := st.heap,lo := st.heap.length } : St).push (.var [iv c.room,iv c.depth,F])) s3 := by
  refine ⟨by simp only [len_push];omega,by simp only [lo_push];omega,fun l hl => ?_,by simp only [lo_push];omega⟩
  have hx : hp s3 l = hp s1 l := hx3.2 l (by omega)
  rw [hx]
  exact hFr.old l hl
 refine go (bw7 hl1 i1 hv6 hv5 hVs hw hw1) fnil ?_
 exact ⟨by simp only [↓reduceIte,go_sem,hl1],by omega,hnew⟩
set_option maxHeartbeats 8000000 in
theorem c50 (c : CL) (F : PV) (hF : SlOf 3 encF F c.figs) (hc : OkL c) (st : St) : Cl EE (.func 50 [] []) [clPV c F] st (.ret (.tuple [elL ((bestF (ltTr c) (rightsL c)).getD []),.bool (bestF (ltTr c) (rightsL c)).isSome])) st := by
 have hFc := hF.cells
 have hFi := hF.isCell
 have hlen := hc.len
 refine cl_fn (pr50 · _ _) fn50 1 rfl (by decide) (fun tm hl hg => ?_);have h0 : tg tm 0 = clPV c F := (hg 0 (by decide));clear hg
 refine go (bw hl h0) fnil ?_
 refine wops_callR rfl rfl (by simp only [↓reduceIte,go_sem,hl];first | done | rfl) (by simp only [↓reduceIte,go_sem,hl];exact r34 c F hF hc _) ?_
 rintro v S1 ⟨hV,hK⟩
 have q1 := hK.2
 have q2 := hK.len
 try simp only [lo_push,len_push] at q1 q2
 have b1 := hK.hp (l := st.heap.length) (o := .var [iv c.room,iv c.depth,F]) (by simp only [↓reduceIte,go_sem])
 have m1 := hp_lt b1
 have hVs := hV.slen
 have hmem : ∀ p ∈ rightsL c,p.length = c.figs.length ∧ ∀ x ∈ p,0 ≤ x ∧ x < 5 := fun p hp => right_in hc hp
 have hXl := rightsL_len hc
 generalize rightsL c = X at hV hVs hmem hXl
 cases d0 : ((X.length : Int) == 0)
 case true =>
  obtain rfl : X = [] := List.eq_nil_of_length_eq_zero (by have := beq_iff_eq.1 d0;omega)
  have e : bestF (ltTr c) ([] : List (List Int)) = none := rfl
  rw [e]
  refine go (bw3 hl hVs d0) fnil ?_
  refine fnq_el (p := []) (results_two (v := .nilslice) (u := .bool false) ?_ ?_) (by first | omega | (simp only [lo_push,lo_setVar];omega))
  ·rw [rdRes_tmp];simp only [↓reduceIte,go_sem,hl]
  ·rw [rdRes_tmp];simp only [↓reduceIte,go_sem,hl]
 have h0X : 0 < X.length := by
  rw [beq_eq_false_iff_ne] at d0;omega
 have ec := fun p => el_cells p
 have ei := fun p => el_isCell p
 refine go (bw5 hl hVs d0 ec ei) fnil ?_
 refine wp_for [6,5] (fun i vs s => ∃ o,vs = [iv i,elL o] ∧ i ≤ X.length ∧ o ∈ X ∧ bestF (ltTr c) (X.take (max i 1)) = some o ∧ s = S1) (fun i => X.length - i) ⟨X[0],by simp only [↓reduceIte,go_sem,hl];first | done | rfl,Nat.zero_le _,List.getElem_mem _,best_first (m := troubleL c) h0X,rfl⟩ ?_
 rintro i tm1 s1 ⟨o,hv,hi,ho,hbo,rfl⟩ hS
 simp only [List.map_cons,List.map_nil,List.cons.injEq,and_true] at hv
 obtain ⟨hv6,hv5⟩ := hv
 have hl1 : tm1.length = 36 := (by rw [hS.1];simp only [put_len,hl]);have i1 : tg tm1 1 = .ptr st.heap.length 0 := (by rw [hS.2 1 (by decide)];simp only [↓reduceIte,go_sem,hl,h0]);have i4 : tg tm1 4 = v := (by rw [hS.2 4 (by decide)];simp only [↓reduceIte,go_sem,hl,h0]);clear hS
 refine go (bw4 hl1 hv6 i4 hVs) fnil ?_
 refine ⟨decide ((i : Int) < X.length),by simp only [↓reduceIte,go_sem,hl1],fun hb => ?_,fun hb1 => ?_⟩
 ·have hlt := of_decide_eq_false hb
  obtain rfl : i = X.length := by omega
  have hbl : bestF (ltTr c) X = some o := best_last (m := troubleL c) h0X hbo
  rw [hbl]
  refine go (bw hl1 hv5) fnil ?_
  refine fnq_el (p := o) (results_two (v := elL o) (u := .bool true) ?_ ?_) (by first | omega | (simp only [lo_push,lo_setVar];omega))
  ·rw [rdRes_tmp];simp only [↓reduceIte,go_sem,hl1]
  ·rw [rdRes_tmp];simp only [↓reduceIte,go_sem,hl1]
 have hlt : i < X.length := by have := of_decide_eq_true hb1;omega
 have hw1 : IntKind.wrap .i64 ((i : Int) + 1) = ((i + 1 : Nat) : Int) := wrap_nat (n := i + 1) (by omega)
 have g1 := hmem _ (List.getElem_mem hlt)
 have g2 := hmem o ho
 have ka := c51 c F (elL X[i]) X[i] hF (el_sl _) hc g1.1
 have kb := c51 c F (elL o) o hF (el_sl _) hc g2.1
 have hbs := best_step (m := troubleL c) hlt hbo
 refine ⟨by omega,?_⟩
 cases hx : decide (troubleL c X[i] < troubleL c o)
 ·rw [hx,if_neg (by simp)] at hbs
  refine go (bw17 hl1 hv6 hv5 i1 i4 b1 (neL m1) (neA m1) (ltL m1) (ltA m1) m1 ec ei hFc hFi hw1 hx) (bw3 ka kb fnil) ?_
  exact ⟨o,by simp only [↓reduceIte,go_sem,hl1,hv5],by omega,ho,hbs,rfl⟩
 ·rw [hx,if_pos rfl] at hbs
  refine go (bw17 hl1 hv6 hv5 i1 i4 b1 (neL m1) (neA m1) (ltL m1) (ltA m1) m1 ec ei hFc hFi hw1 hx) (bw3 ka kb fnil) ?_
  exact ⟨X[i],by simp only [↓reduceIte,go_sem,hl1],by omega,List.getElem_mem _,hbs,rfl⟩
end Go.Den.Ch
end

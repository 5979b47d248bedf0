/- Part of the proof that for every input the function ChestLaters returns true and each argument reads as it did. Texts: ChSd, ChSf. -/
import Derived.Test.YtoeigapilcgelaaGreatDoorM3C
set_option linter.unusedSimpArgs false
set_option linter.unusedVariables false
section
namespace Go.Den.Ch
theorem r57w (c : CL) (F : PV) (f : Fig) (hF : SlOf 3 encF F c.figs) (hN : c.figs.length < 1000) (st : St) : ClR EE (.func 57 [] []) [clPV c F,figPV f] st (fun v st' => ∃ F',v = clPV (withL c f) F' ∧ SlOf 3 encF F' (withL c f).figs ∧ Keep st st') := by
 obtain ⟨v,st',h1,P,e,hW⟩ := c57 c F f hF hN st
 exact ⟨v,st',h1,P,e,retF hW,keepW hW⟩
theorem with_okw {c : CL} {f : Fig} (hA : listB c = true) (hf : figB f = true) (hl : c.figs.length < 6) : listB (withL c f) = true := by
 simp only [listB,Bool.and_eq_true,decide_eq_true_eq] at hA ⊢
 exact ⟨hA.1,hA.2.1,by simp [withL];omega,by simp only [withL,List.all_append,hA.2.2.2,List.all_cons,List.all_nil,hf,Bool.and_self]⟩
theorem movedM_lew {p q : List Int} (h : q.length ≤ p.length) : movedM p q = movedL p q := by
 unfold movedM movedT movedL
 rw [Nat.min_eq_right h]
set_option maxHeartbeats 8000000 in
theorem c55 (c : CL) (F Q : PV) (q : List Int) (f : Fig) (hF : SlOf 3 encF F c.figs) (hQ : SlOf 1 encI Q q) (hcw : OkL (withL c f)) (hq : q.length ≤ c.figs.length) (st : St) : Cl EE (.func 55 [] []) [clPV c F,Q,figPV f] st (.ret (.tuple [elL ((bestF (ltMv q) (rightsL (withL c f))).getD []),.bool (bestF (ltMv q) (rightsL (withL c f))).isSome])) st := by
 have hFc := hF.cells
 have hFi := hF.isCell
 have hlw : (withL c f).figs.length = c.figs.length + 1 := by simp [withL]
 have hlen := hcw.len
 refine cl_fn (pr55 · _ _) fn55 3 rfl (by decide) (fun tm hl hg => ?_);have h0 : tg tm 0 = clPV c F := (hg 0 (by decide));have h1 : tg tm 1 = Q := (hg 1 (by decide));have h2 : tg tm 2 = figPV f := (hg 2 (by decide));clear hg
 refine go (bw6 hl h0 h1 h2 hFc hFi) fnil ?_
 refine wops_callR rfl rfl (by simp only [↓reduceIte,go_sem,hl];first | done | rfl) (by simp only [↓reduceIte,go_sem,hl];exact r57w c F f hF (by omega) _) ?_
 rintro u S0 ⟨X,rfl,hXF,hK0⟩
 have p1 := hK0.2
 have p2 := hK0.len
 try simp only [lo_push,len_push] at p1 p2
 refine go hl fnil ?_
 refine wops_callR rfl rfl (by simp only [↓reduceIte,go_sem,hl];first | done | rfl) (by simp only [↓reduceIte,go_sem,hl];exact r34 (withL c f) X hXF hcw _) ?_
 rintro v S1 ⟨hV,hK⟩
 have q1 := hK.2
 have q2 := hK.len
 try simp only [lo_push,len_push] at q1 q2
 have hVs := hV.slen
 have hmem : ∀ p ∈ rightsL (withL c f),p.length = c.figs.length + 1 ∧ ∀ x ∈ p,0 ≤ x ∧ x < 5 := fun p hp => by have := right_in hcw hp;rw [hlw] at this;exact this
 have hXl := rightsL_len hcw
 generalize rightsL (withL c f) = X at hV hVs hmem hXl
 cases d0 : ((X.length : Int) == 0)
 case true =>
  obtain rfl : X = [] := List.eq_nil_of_length_eq_zero (by have := beq_iff_eq.1 d0;omega)
  have e : bestF (ltMv q) ([] : List (List Int)) = none := rfl
  rw [e]
  refine go (bw3 hl hVs d0) fnil ?_
  refine fnq_el (p := []) (results_two (v := .nilslice) (u := .bool false) ?_ ?_) (by first | omega | (simp only [lo_push,lo_setVar];omega))
  ·rw [rdRes_tmp];simp only [↓reduceIte,go_sem,hl]
  ·rw [rdRes_tmp];simp only [↓reduceIte,go_sem,hl]
 have h0X : 0 < X.length := by
  rw [beq_eq_false_iff_ne] at d0;omega
 have ec := fun p => el_cells p
 have ei := fun p => el_isCell p
 refine go (bw5 hl hVs d0 ec ei) fnil ?_
 refine wp_for [10,9] (fun i vs s => ∃ o,vs = [iv i,elL o] ∧ i ≤ X.length ∧ o ∈ X ∧ bestF (ltMv q) (X.take (max i 1)) = some o ∧ s = S1) (fun i => X.length - i) ⟨X[0],by simp only [↓reduceIte,go_sem,hl];first | done | rfl,Nat.zero_le _,List.getElem_mem _,best_first (m := fun p => movedL p q) h0X,rfl⟩ ?_
 rintro i tm1 s1 ⟨o,hv,hi,ho,hbo,rfl⟩ hS
 simp only [List.map_cons,List.map_nil,List.cons.injEq,and_true] at hv
 obtain ⟨hv10,hv9⟩ := hv
 have hl1 : tm1.length = 42 := (by rw [hS.1];simp only [put_len,hl]);have i1 : tg tm1 1 = Q := (by rw [hS.2 1 (by decide)];simp only [↓reduceIte,go_sem,hl,h1]);have i8 : tg tm1 8 = v := (by rw [hS.2 8 (by decide)];simp only [↓reduceIte,go_sem,hl,h1]);clear hS
 refine go (bw4 hl1 hv10 i8 hVs) fnil ?_
 refine ⟨decide ((i : Int) < X.length),by simp only [↓reduceIte,go_sem,hl1],fun hb => ?_,fun hb1 => ?_⟩
 ·have hlt := of_decide_eq_false hb
  obtain rfl : i = X.length := by omega
  have hbl : bestF (ltMv q) X = some o := best_last (m := fun p => movedL p q) h0X hbo
  rw [hbl]
  refine go (bw hl1 hv9) fnil ?_
  refine fnq_el (p := o) (results_two (v := elL o) (u := .bool true) ?_ ?_) (by first | omega | (simp only [lo_push,lo_setVar];omega))
  ·rw [rdRes_tmp];simp only [↓reduceIte,go_sem,hl1]
  ·rw [rdRes_tmp];simp only [↓reduceIte,go_sem,hl1]
 have hlt : i < X.length := by have := of_decide_eq_true hb1;omega
 have hw1 : IntKind.wrap .i64 ((i : Int) + 1) = ((i + 1 : Nat) : Int) := wrap_nat (n := i + 1) (by omega)
 have g1 := hmem _ (List.getElem_mem hlt)
 have g2 := hmem o ho
 have ka := c56 (elL X[i]) Q X[i] q (el_sl _) hQ (by omega)
 have kb := c56 (elL o) Q o q (el_sl _) hQ (by omega)
 rw [movedM_lew (by omega)] at ka kb
 have hbs : bestF (ltMv q) (X.take (max (i + 1) 1)) = some (if decide (movedL X[i] q < movedL o q) then X[i] else o) := best_step (m := fun p => movedL p q) hlt hbo
 refine ⟨by omega,?_⟩
 cases hx : decide (movedL X[i] q < movedL o q)
 ·rw [hx,if_neg (by simp)] at hbs
  refine go (bw9 hl1 hv10 hv9 i1 i8 ec ei hw1 hx) (bw3 ka kb fnil) ?_
  exact ⟨o,by simp only [↓reduceIte,go_sem,hl1,hv9],by omega,ho,hbs,rfl⟩
 ·rw [hx,if_pos rfl] at hbs
  refine go (bw9 hl1 hv10 hv9 i1 i8 ec ei hw1 hx) (bw3 ka kb fnil) ?_
  exact ⟨X[i],by simp only [↓reduceIte,go_sem,hl1],by omega,List.getElem_mem _,hbs,rfl⟩
end Go.Den.Ch
end
section
namespace Go.Den.Ch
theorem fault_nn {c : CL} {p : List Int} : (fault c p).isNone = true ↔ fault c p = none := Option.isNone_iff_eq_none
set_option maxHeartbeats 16000000 in
theorem c12 (c : CL) (F Q : PV) (q : List Int) (f : Fig) (hF : SlOf 3 encF F c.figs) (hQ : SlOf 1 encI Q q) (st : St) : Cl EE (.func 12 [] []) [clPV c F,Q,figPV f] st (.ret (.bool true)) st := by
 have hFc := hF.cells
 have hFi := hF.isCell
 have hFs := hF.slen
 have hQs := hQ.slen
 have zf : (((2 : Int) != 0) = true) ∧ (((3 : Int) != 0) = true) ∧ (((2 : Int) == 2) = true) ∧ (((3 : Int) == 3) = true) := ⟨rfl,rfl,rfl,rfl⟩
 refine cl_fn (pr12 · _ _) fn12 3 rfl (by decide) (fun tm hl hg => ?_);have h0 : tg tm 0 = clPV c F := (hg 0 (by decide));have h1 : tg tm 1 = Q := (hg 1 (by decide));have h2 : tg tm 2 = figPV f := (hg 2 (by decide));clear hg
 have k30 := c30 c F hF
 cases d0 : decide (c.figs.length ≤ 8)
 ·refine go (bw5 hl h0 h1 h2 d0) (bw3 k30 c26 fnil) ?_
  refine fnq_flat (results_one (by rw [rdRes_tmp];simp only [↓reduceIte,go_sem,hl];first | done | rfl)) (by first | exact Nat.le_refl _ | omega | (simp only [lo_push,lo_setVar];omega)) (by rfl)
 have hn8 := of_decide_eq_true d0
 cases d1 : decide ((q.length : Int) > 8)
 case true =>
  refine go (bw7 hl h0 h1 h2 d0 hQs d1) (bw3 k30 c26 fnil) ?_
  refine fnq_flat (results_one (by rw [rdRes_tmp];simp only [↓reduceIte,go_sem,hl];first | done | rfl)) (by first | exact Nat.le_refl _ | omega | (simp only [lo_push,lo_setVar];omega)) (by rfl)
 have hq8 : q.length ≤ 8 := by have := of_decide_eq_false d1;omega
 have k33 := c33 c F hF (by omega)
 have k54 := c54 f
 refine go (bw7 hl h0 h1 h2 d0 hQs d1) (bw k30 fnil) ?_
 refine wops_callR rfl rfl (by simp only [↓reduceIte,go_sem,hl,h1];first | done | rfl) (by simp only [↓reduceIte,go_sem,hl,h1];exact r53 c F Q q f hF hQ _) ?_
 rintro v S1 ⟨P,rfl,hP,hK⟩
 have q1 := hK.2
 have q2 := hK.len
 try simp only [lo_push,len_push] at q1 q2
 have b1 := hK.hp (l := st.heap.length) (o := .var [iv c.room,iv c.depth,F]) (by simp only [↓reduceIte,go_sem])
 have b2 := hK.hp (l := st.heap.length + 1) (o := .var [iv f.size,iv f.rank,iv f.eve]) (by simp only [↓reduceIte,go_sem])
 have m1 := hp_lt b1
 have m2 := hp_lt b2
 have hPs := hP.slen
 have n0 : ((0 : Nat) : Int) = 0 := rfl
 have fin : ∀ e : Int,laterR c q f = ([],0,e) → P.slen = some 0 := fun e h => by rw [h] at hPs;exact hPs
 cases hA : listB c
 ·have e : laterR c q f = ([],0,2) := by simp [laterR,hA]
  have hPs' := fin _ e
  rw [e]
  refine go (bw19 hl h1 b1 b2 (neL m1) (neA m1) (ltL m1) (ltA m1) (neL m2) (neA m2) (ltL m2) (ltA m2) m1 m2 hA hPs' zs zf n0) (bw3 k33 c26 fnil) ?_
  refine fnq_flat (results_one (by rw [rdRes_tmp];simp only [↓reduceIte,go_sem,hl];first | done | rfl)) (by first | exact Nat.le_refl _ | omega | (simp only [lo_push,lo_setVar];omega)) (by rfl)
 have hc := OkL.of hA
 have k25 := c25 c F Q q hF hQ (by omega) ⟨hc.d0,hc.d1⟩
 cases hB : packB c q
 ·have e : laterR c q f = ([],0,2) := by simp [laterR,hA,hB]
  have hPs' := fin _ e
  rw [e]
  refine go (bw20 hl h1 b1 b2 (neL m1) (neA m1) (ltL m1) (ltA m1) (neL m2) (neA m2) (ltL m2) (ltA m2) m1 m2 hA hB hPs' zs zf n0) (bw4 k33 k25 c26 fnil) ?_
  refine fnq_flat (results_one (by rw [rdRes_tmp];simp only [↓reduceIte,go_sem,hl];first | done | rfl)) (by first | exact Nat.le_refl _ | omega | (simp only [lo_push,lo_setVar];omega)) (by rfl)
 have hq0 := OkP.of hB
 have hql := hq0.len
 cases hf : figB f
 ·have e : laterR c q f = ([],0,2) := by simp [laterR,hA,hB,hf]
  have hPs' := fin _ e
  rw [e]
  refine go (bw21 hl h1 b1 b2 (neL m1) (neA m1) (ltL m1) (ltA m1) (neL m2) (neA m2) (ltL m2) (ltA m2) m1 m2 hA hB hf hPs' zs zf n0) (bw5 k33 k25 k54 c26 fnil) ?_
  refine fnq_flat (results_one (by rw [rdRes_tmp];simp only [↓reduceIte,go_sem,hl];first | done | rfl)) (by first | exact Nat.le_refl _ | omega | (simp only [lo_push,lo_setVar];omega)) (by rfl)
 cases d3 : decide ((c.figs.length : Int) ≥ 6)
 case true =>
  have h6 : 6 ≤ c.figs.length := by have := of_decide_eq_true d3;omega
  have e : laterR c q f = ([],0,3) := by simp [laterR,hA,hB,hf,h6]
  have hPs' := fin _ e
  rw [e]
  refine go (bw23 hl h1 b1 b2 (neL m1) (neA m1) (ltL m1) (ltA m1) (neL m2) (neA m2) (ltL m2) (ltA m2) m1 m2 hA hB hf hFs d3 hPs' zs zf n0) (bw5 k33 k25 k54 c26 fnil) ?_
  refine fnq_flat (results_one (by rw [rdRes_tmp];simp only [↓reduceIte,go_sem,hl];first | done | rfl)) (by first | exact Nat.le_refl _ | omega | (simp only [lo_push,lo_setVar];omega)) (by rfl)
 have hl6 : c.figs.length < 6 := by have := of_decide_eq_false d3;omega
 have k46 := c46 c F Q q hF hQ hc hq0
 cases hn : (fault c q).isNone
 ·have e : laterR c q f = ([],0,7) := by simp [laterR,hA,hB,hf,hn,show ¬ 6 ≤ c.figs.length by omega]
  have hPs' := fin _ e
  rw [e]
  refine go (bw24 hl h1 b1 b2 (neL m1) (neA m1) (ltL m1) (ltA m1) (neL m2) (neA m2) (ltL m2) (ltA m2) m1 m2 hA hB hf hFs d3 hn hPs' zs zf n0) (bw6 k33 k25 k54 k46 c26 fnil) ?_
  refine fnq_flat (results_one (by rw [rdRes_tmp];simp only [↓reduceIte,go_sem,hl];first | done | rfl)) (by first | exact Nat.le_refl _ | omega | (simp only [lo_push,lo_setVar];omega)) (by rfl)
 have hX := OkL.of (with_okw hA hf hl6)
 have k55 := c55 c F Q q f hF hQ hX (by omega)
 have el : laterR c q f = match bestF (ltMv q) (rightsL (withL c f)) with | some p => (p,movedL p q,0) | none => ([],0,5) := by
  unfold laterR
  rw [hA,hB,hf,hn,if_neg (show ¬ 6 ≤ c.figs.length by omega)]
  rfl
 cases hb : bestF (ltMv q) (rightsL (withL c f)) with
 | none =>
  have e : laterR c q f = ([],0,5) := by rw [el,hb]
  have hPs' := fin _ e
  rw [hb] at k55
  rw [e]
  refine go (bw25 hl h1 b1 b2 (neL m1) (neA m1) (ltL m1) (ltA m1) (neL m2) (neA m2) (ltL m2) (ltA m2) m1 m2 hA hB hf hFs d3 hn hPs' zs n0 hFc hFi) (bw7 k33 k25 k54 k46 k55 c26 fnil) ?_
  refine fnq_flat (results_one (by rw [rdRes_tmp];simp only [↓reduceIte,go_sem,hl];first | done | rfl)) (by first | exact Nat.le_refl _ | omega | (simp only [lo_push,lo_setVar];omega)) (by rfl)
 | some o =>
  have e : laterR c q f = (o,movedL o q,0) := by rw [el,hb]
  rw [hb] at k55
  rw [e] at hP ⊢
  have ho := right_in hX (best_law (m := fun p => movedL p q) (rights_sorted _) hb).1
  have hlw : (withL c f).figs.length = c.figs.length + 1 := by simp [withL]
  have k36 := c36 P (elL o) o o hP (el_sl o) (by omega)
  have k56 := c56 (elL o) Q o q (el_sl o) hQ (by omega)
  rw [movedM_lew (by omega)] at k56
  have eo : (o == o) = true := by simp
  rw [eo] at k36
  refine go (bw24 hl h1 b1 b2 (neL m1) (neA m1) (ltL m1) (ltA m1) (neL m2) (neA m2) (ltL m2) (ltA m2) m1 m2 hA hB hf hFs d3 hn zs nee hFc hFi) (bw9 k33 k25 k54 k46 k55 k36 k56 c26 fnil) ?_
  refine fnq_flat (results_one (by rw [rdRes_tmp];simp only [↓reduceIte,go_sem,hl];first | done | rfl)) (by first | exact Nat.le_refl _ | omega | (simp only [lo_push,lo_setVar];omega)) (by rfl)
end Go.Den.Ch
end

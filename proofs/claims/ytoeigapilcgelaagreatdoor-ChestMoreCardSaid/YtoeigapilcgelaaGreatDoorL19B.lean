/- Part of the proof that for every input the function ChestMore returns true and each argument reads as it did. Texts: ChMr. -/
import Derived.Test.YtoeigapilcgelaaGreatDoorK6Aw
set_option linter.unusedSimpArgs false
set_option linter.unusedVariables false
section
namespace Go.Den.Ch
def wider (c : CL) (r d : Int) : CL := { c with room := r,depth := d }
theorem layer_out : ∀ (fs : List Fig) (p : List Int) (n : Int),(∀ x ∈ p,x ≠ n) → layerL fs p n = []
 | [],p,n,_ => by simp [layerL]
 | f :: fs,[],n,_ => by simp [layerL]
 | f :: fs,x :: p,n,h => by
  rw [layerL,if_neg (h x (by simp))]
  exact layer_out fs p n fun y hy => h y (by simp [hy])
theorem wider_mem {c : CL} (hc : OkL c) {r d : Int} (hr : c.room ≤ r) (h0 : 0 ≤ r) (hd : c.depth ≤ d) {p : List Int} (h : p ∈ rightsL c) : p ∈ rightsL (wider c r d) := by
 obtain ⟨h1,h2⟩ := mem_rights.1 h
 obtain ⟨a1,a2,a3,a4⟩ := fault_none hc h2
 refine mem_rights.2 ⟨⟨h1.len,fun x hx => ?_⟩,fault_of ?_ a2 a3 a4⟩
 ·have := h1.rng x hx
  have e : (wider c r d).depth = d := rfl
  rw [e];omega
 ·intro n hn0 hn
  have e1 : sumL (wider c r d) p n = sumL c p n := rfl
  have e2 : (wider c r d).room = r := rfl
  rw [e1,e2]
  by_cases hnd : n < c.depth
  ·have := a1 n hn0 hnd;omega
  ·have : sumL c p n = 0 := by
    unfold sumL
    rw [layer_out c.figs p n (fun x hx => by have := h1.rng x hx;omega)];rfl
   omega
theorem bef_ne {a b : List Int} (h : bef a b = true) : a ≠ b := fun e => by rw [e,bef_irr] at h;cases h
theorem sub_len : ∀ {a b : List (List Int)},a.Pairwise (fun x y => bef x y = true) → (∀ x ∈ a,x ∈ b) → a.length ≤ b.length
 | [],_,_,_ => Nat.zero_le _
 | x :: a,b,hp,h => by
  rw [List.pairwise_cons] at hp
  have hx := h x (by simp)
  have h1 := sub_len (a := a) (b := b.erase x) hp.2 (fun y hy => (List.mem_erase_of_ne (bef_ne (hp.1 y hy)).symm).2 (h y (by simp [hy])))
  have h2 := List.length_erase_of_mem hx
  have h3 : 0 < b.length := List.length_pos_of_mem hx
  simp only [List.length_cons]
  omega
theorem wider_list {c : CL} {r d : Int} (hA : listB c = true) (hr : c.room ≤ r) (hr2 : r ≤ 20) (hd : c.depth ≤ d) (hd2 : d ≤ 5) : listB (wider c r d) = true := by
 simp only [listB,inB,Bool.and_eq_true,decide_eq_true_eq] at hA ⊢
 refine ⟨?_,?_,hA.2.2⟩
 ·simp only [wider];omega
 ·simp only [wider];omega
set_option maxHeartbeats 16000000 in
theorem c19 (c : CL) (F P G : PV) (p fs : List Int) (w d : Int) (hF : SlOf 3 encF F c.figs) (hP : SlOf 1 encI P p) (hG : SlOf 1 encI G fs) (st : St) : Cl EE (.func 19 [] []) [clPV c F,P,iv w,iv d,G] st (.ret (.bool true)) st := by
 have hFc := hF.cells
 have hFi := hF.isCell
 have hFs := hF.slen
 have hPs := hP.slen
 have hGs := hG.slen
 refine cl_fn (pr19 · _ _) fn19 5 rfl (by decide) (fun tm hl hg => ?_);have h0 : tg tm 0 = clPV c F := (hg 0 (by decide));have h1 : tg tm 1 = P := (hg 1 (by decide));have h2 : tg tm 2 = iv w := (hg 2 (by decide));have h3 : tg tm 3 = iv d := (hg 3 (by decide));have h4 : tg tm 4 = G := (hg 4 (by decide));clear hg
 have k24 := c24 c F hF
 cases hA : listB c
 ·refine go (bw7 hl h0 h1 h2 h3 h4 hA) (bw3 k24 c26 fnil) ?_
  refine fnq_flat (results_one (by rw [rdRes_tmp];simp only [↓reduceIte,go_sem,hl];first | done | rfl)) (by first | exact Nat.le_refl _ | omega | (simp only [lo_push,lo_setVar];omega)) (by rfl)
 have hc := OkL.of hA
 have hlen := hc.len
 cases d1 : decide ((p.length : Int) > 8)
 case true =>
  refine go (bw9 hl h0 h1 h2 h3 h4 hA hPs d1) (bw3 k24 c26 fnil) ?_
  refine fnq_flat (results_one (by rw [rdRes_tmp];simp only [↓reduceIte,go_sem,hl];first | done | rfl)) (by first | exact Nat.le_refl _ | omega | (simp only [lo_push,lo_setVar];omega)) (by rfl)
 have hp8 : p.length ≤ 8 := by have := of_decide_eq_false d1;omega
 have k25 := c25 c F P p hF hP (by omega) ⟨hc.d0,hc.d1⟩
 cases hB : packB c p
 ·refine go (bw10 hl h0 h1 h2 h3 h4 hA hPs d1 hB) (bw4 k24 k25 c26 fnil) ?_
  refine fnq_flat (results_one (by rw [rdRes_tmp];simp only [↓reduceIte,go_sem,hl];first | done | rfl)) (by first | exact Nat.le_refl _ | omega | (simp only [lo_push,lo_setVar];omega)) (by rfl)
 cases d2 : decide (w < 0)
 case true =>
  refine go (bw11 hl h0 h1 h2 h3 h4 hA hPs d1 hB d2) (bw4 k24 k25 c26 fnil) ?_
  refine fnq_flat (results_one (by rw [rdRes_tmp];simp only [↓reduceIte,go_sem,hl];first | done | rfl)) (by first | exact Nat.le_refl _ | omega | (simp only [lo_push,lo_setVar];omega)) (by rfl)
 cases d3 : decide (w > 20)
 case true =>
  refine go (bw12 hl h0 h1 h2 h3 h4 hA hPs d1 hB d2 d3) (bw4 k24 k25 c26 fnil) ?_
  refine fnq_flat (results_one (by rw [rdRes_tmp];simp only [↓reduceIte,go_sem,hl];first | done | rfl)) (by first | exact Nat.le_refl _ | omega | (simp only [lo_push,lo_setVar];omega)) (by rfl)
 cases d4 : decide (d < 0)
 case true =>
  refine go (bw13 hl h0 h1 h2 h3 h4 hA hPs d1 hB d2 d3 d4) (bw4 k24 k25 c26 fnil) ?_
  refine fnq_flat (results_one (by rw [rdRes_tmp];simp only [↓reduceIte,go_sem,hl];first | done | rfl)) (by first | exact Nat.le_refl _ | omega | (simp only [lo_push,lo_setVar];omega)) (by rfl)
 cases d5 : decide (d > 5)
 case true =>
  refine go (bw14 hl h0 h1 h2 h3 h4 hA hPs d1 hB d2 d3 d4 d5) (bw4 k24 k25 c26 fnil) ?_
  refine fnq_flat (results_one (by rw [rdRes_tmp];simp only [↓reduceIte,go_sem,hl];first | done | rfl)) (by first | exact Nat.le_refl _ | omega | (simp only [lo_push,lo_setVar];omega)) (by rfl)
 cases d6 : decide ((fs.length : Int) > 8)
 case true =>
  refine go (bw16 hl h0 h1 h2 h3 h4 hA hPs d1 hB d2 d3 d4 d5 hGs d6) (bw4 k24 k25 c26 fnil) ?_
  refine fnq_flat (results_one (by rw [rdRes_tmp];simp only [↓reduceIte,go_sem,hl];first | done | rfl)) (by first | exact Nat.le_refl _ | omega | (simp only [lo_push,lo_setVar];omega)) (by rfl)
 have hf8 : fs.length ≤ 8 := by have := of_decide_eq_false d6;omega
 have k45 := c45 c F G fs hF hG (by omega) (by omega)
 cases hR : risingB c.figs.length fs
 ·refine go (bw17 hl h0 h1 h2 h3 h4 hA hPs d1 hB d2 d3 d4 d5 hGs d6 hR) (bw5 k24 k25 k45 c26 fnil) ?_
  refine fnq_flat (results_one (by rw [rdRes_tmp];simp only [↓reduceIte,go_sem,hl];first | done | rfl)) (by first | exact Nat.le_refl _ | omega | (simp only [lo_push,lo_setVar];omega)) (by rfl)
 have hfo := okr_of hR
 have hfl := ris_len hfo
 have hw0 := of_decide_eq_false d2
 have hw1 := of_decide_eq_false d3
 have hd0 := of_decide_eq_false d4
 have hd1 := of_decide_eq_false d5
 have hL := hA
 simp only [listB,inB,Bool.and_eq_true,decide_eq_true_eq] at hL
 have wr : IntKind.wrap .i64 (c.room + w) = c.room + w := wrap_in (by unfold inI;omega)
 have wd : IntKind.wrap .i64 (c.depth + d) = c.depth + d := wrap_in (by unfold inI;omega)
 obtain ⟨r',hr'⟩ : ∃ r',min 20 (c.room + w) = r' := ⟨_,rfl⟩
 obtain ⟨e',he'⟩ : ∃ e',min 5 (c.depth + d) = e' := ⟨_,rfl⟩
 have hX : listB (wider c r' e') = true := wider_list hA (by omega) (by omega) (by omega) (by omega)
 have hcx := OkL.of hX
 have hsub : ∀ q ∈ rightsL c,q ∈ rightsL (wider c r' e') := fun q hq => wider_mem hc (by omega) (by omega) (by omega) hq
 have hcnt := sub_len (rights_sorted c) hsub
 have k61 := c61 c F G fs hF hG hA hfo.rng (by omega)
 have k32 := r32 c F hF hA
 have k32x : ∀ st,Cl EE (.func 32 [] []) [.agg [iv r',iv e',F]] st (.ret (.tuple [iv (rightsL (wider c r' e')).length,iv 0])) st := r32 (wider c r' e') F hF hX
 have k37 := c37 c F P p hF hP hA (by omega)
 have k37x : ∀ st,Cl EE (.func 37 [] []) [.agg [iv r',iv e',F],P] st (.ret (.bool (fitsB (wider c r' e') p))) st := c37 (wider c r' e') F P p hF hP hX (by omega)
 refine go (bw25 hl h0 h1 h2 h3 h4 hA hPs d1 hB d2 d3 d4 d5 hGs d6 hR hFc hFi wr wd @mm2' hr' he' undef_e) (bw4 k24 k25 k45 fnil) ?_
 refine wopsD_set (v := undef) (l := st.heap.length + 1) (ob := .var [iv r',iv c.depth,F]) (by simp only [lo_push,lo_setVar,len_push,len_setVar];omega) (by simp only [len_push,len_setVar];omega) rfl rfl (fun rec st3 he hh => by simp only [↓reduceIte,go_sem,hl,hh,he,hFc,hFi]) ?_
 refine go hl fnil ?_
 refine wopsD_set (v := undef) (l := st.heap.length + 1) (ob := .var [iv r',iv e',F]) (by simp only [lo_push,lo_setVar,len_push,len_setVar];omega) (by simp only [len_push,len_setVar];omega) rfl rfl (fun rec st3 he hh => by simp only [↓reduceIte,go_sem,hl,hh,he,hFc,hFi]) ?_
 apply wopsD_nil
 refine ⟨?_,?_⟩
 ·simp only [footOk,List.all_cons,List.all_nil,List.getElem?_cons_zero,List.getElem?_cons_succ,Bool.and_true]
  simp only [footOf]
  simp only [↓reduceIte,go_sem,hl]
  have hq : ∀ l,clash l Foot.quiet = false := fun _ => rfl
  have hq1 : clash st.heap.length (.st (st.heap.length + 1)) = false := by simp [clash]
  simp only [List.all_cons,List.all_nil,List.getElem?_cons_zero,List.getElem?_cons_succ,hq,hq1,Bool.not_false,Bool.and_self]
 refine go (bw3 hl hFc hFi) (bw3 k32 k32x fnil) ?_
 refine wops_callR rfl rfl (by simp only [↓reduceIte,go_sem,hl];first | done | rfl) (by simp only [↓reduceIte,go_sem,hl];exact r31 c F hF _) ?_
 rintro v S1 ⟨B,rfl,hB1,hK⟩
 have q1 := hK.2
 have q2 := hK.len
 try simp only [lo_push,len_push,lo_setVar,len_setVar] at q1 q2
 have b1 := hK.hp (l := st.heap.length) (o := .var [iv c.room,iv c.depth,F]) (by simp only [↓reduceIte,go_sem])
 have b2 := hK.hp (l := st.heap.length + 1) (o := .var [iv r',iv e',F]) (by simp only [↓reduceIte,go_sem])
 have m1 := hp_lt b1
 have m2 := hp_lt b2
 have ex : clPV (wider c r' e') F = .agg [iv r',iv e',F] := rfl
 have r31x := r31 (wider c r' e') F hF
 rw [ex] at r31x
 refine go (bw15 hl b1 b2 (neL m1) (neA m1) (ltL m1) (ltA m1) (neL m2) (neA m2) (ltL m2) (ltA m2) m1 m2 hFc hFi) fnil ?_
 refine wops_callR rfl rfl (by simp only [↓reduceIte,go_sem,hl];first | done | rfl) (by simp only [↓reduceIte,go_sem,hl];exact r31x _) ?_
 rintro u S2 ⟨B2,rfl,hB2,hK2⟩
 have q3 := hK2.2
 have q4 := hK2.len
 have g1 := hK2.hp b1
 have g2 := hK2.hp b2
 have n1 := hp_lt g1
 have n2 := hp_lt g2
 have y1 : decide (((rightsL c).length : Int) < 0) = false := by rw [decide_eq_false_iff_not];omega
 have y2 : decide (((rightsL (wider c r' e')).length : Int) < (rightsL c).length) = false := by rw [decide_eq_false_iff_not];omega
 have hfit : fitsB c p = true → fitsB (wider c r' e') p = true := fun h => fits_mem.2 (hsub p (fits_mem.1 h))
 have hbest : ((bestR c).2.2 = 5) ∨ ((bestR c).2.2 = 0 ∧ (bestR (wider c r' e')).2.2 = 0 ∧ decide ((bestR (wider c r' e')).2.1 ≤ (bestR c).2.1) = true ∧ canB c fs = true) := by
  cases hb : bestF ltLay (rightsL c) with
  | none => exact .inl (by simp [bestR,hA,hb])
  | some b =>
   have h1 := (best_law (m := layersL) (rights_sorted c) hb).1
   cases hb2 : bestF ltLay (rightsL (wider c r' e')) with
   | none => have := hsub b h1;rw [best_none hb2] at this;cases this
   | some b2 =>
    have h2 := (best_law (m := layersL) (rights_sorted _) hb2).2 b (hsub b h1)
    refine .inr ⟨by simp [bestR,hA,hb],by simp [bestR,hX,hb2],?_,all_can hA (List.ne_nil_of_mem h1) hfo⟩
    simp only [bestR,hA,hX,hb,hb2,if_true]
    exact decide_eq_true h2.1
 have tail : ∀ f1 f2 : Bool,fitsB c p = f1 → fitsB (wider c r' e') p = f2 → (f1 = true → f2 = true) := fun f1 f2 h1 h2 h3 => by rw [← h2];exact hfit (by rw [h1];exact h3)
 rcases hbest with e | ⟨e,e2,e3,e4⟩
 ·rw [e]
  cases f1 : fitsB c p
  ·refine go (bw21 hl h1 h4 g1 g2 (neL n1) (neA n1) (ltL n1) (ltA n1) (neL n2) (neA n2) (ltL n2) (ltA n2) n1 n2 hFc hFi zs y1 y2 f1) (bw5 k61 k37 k37x c26 fnil) ?_
   refine fnq_flat (results_one (by rw [rdRes_tmp];simp only [↓reduceIte,go_sem,hl];first | done | rfl)) (by first | exact Nat.le_refl _ | omega | (simp only [lo_push,lo_setVar];omega)) (by rfl)
  ·have f2 := hfit f1
   refine go (bw22 hl h1 h4 g1 g2 (neL n1) (neA n1) (ltL n1) (ltA n1) (neL n2) (neA n2) (ltL n2) (ltA n2) n1 n2 hFc hFi zs y1 y2 f1 f2) (bw5 k61 k37 k37x c26 fnil) ?_
   refine fnq_flat (results_one (by rw [rdRes_tmp];simp only [↓reduceIte,go_sem,hl];first | done | rfl)) (by first | exact Nat.le_refl _ | omega | (simp only [lo_push,lo_setVar];omega)) (by rfl)
 ·rw [e,e2]
  cases f1 : fitsB c p
  ·refine go (bw23 hl h1 h4 g1 g2 (neL n1) (neA n1) (ltL n1) (ltA n1) (neL n2) (neA n2) (ltL n2) (ltA n2) n1 n2 hFc hFi zs y1 y2 f1 e3 e4) (bw5 k61 k37 k37x c26 fnil) ?_
   refine fnq_flat (results_one (by rw [rdRes_tmp];simp only [↓reduceIte,go_sem,hl];first | done | rfl)) (by first | exact Nat.le_refl _ | omega | (simp only [lo_push,lo_setVar];omega)) (by rfl)
  ·have f2 := hfit f1
   refine go (bw24 hl h1 h4 g1 g2 (neL n1) (neA n1) (ltL n1) (ltA n1) (neL n2) (neA n2) (ltL n2) (ltA n2) n1 n2 hFc hFi zs y1 y2 f1 f2 e3 e4) (bw5 k61 k37 k37x c26 fnil) ?_
   refine fnq_flat (results_one (by rw [rdRes_tmp];simp only [↓reduceIte,go_sem,hl];first | done | rfl)) (by first | exact Nat.le_refl _ | omega | (simp only [lo_push,lo_setVar];omega)) (by rfl)
end Go.Den.Ch
end

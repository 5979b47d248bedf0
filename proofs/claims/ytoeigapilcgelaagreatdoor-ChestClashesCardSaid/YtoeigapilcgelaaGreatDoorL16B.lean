/- Part of the proof that for every input the function ChestClashes returns true and each argument reads as it did. Texts: ChSk. -/
import Derived.Test.YtoeigapilcgelaaGreatDoorK5Ax
set_option linter.unusedSimpArgs false
set_option linter.unusedVariables false
section
namespace Go.Den
theorem wp_while {E : Env} {tm : List PV} {st : St} {Q : Ex → List PV → St → Prop} {c k j : Nat} {cnd body : DCode} (vs : List Nat) (J : Nat → List PV → St → Prop) (mu : Nat → Nat)
  (init : J 0 (vs.map (tg tm)) st)
  (step : ∀ i tm1 st1,J i (vs.map (tg tm1)) st1 → Same (writes cnd ++ writes body) tm tm1 →
   Wp E cnd (andThen (fun tm2 st2 => ∃ b,tg tm2 c = .bool b ∧ (b = false → Q .normal tm2 st2) ∧ (b = true → mu (i + 1) < mu i ∧
    Wp E body (inBlock j (andThen (fun tm4 st4 => J (i + 1) (vs.map (tg tm4)) st4) (inBlock k Q))) tm2 st2)) (inBlock k Q)) tm1 st1) :
  Wp E (.block k (.loop (.seq (.seq cnd (.cond (.t c) .skip (.exit k))) (.block j body)))) Q tm st := by
 apply wp_block
 have hS : ∀ tm1 tm2,Same (writes (.seq (.seq cnd (.cond (.t c) .skip (.exit k))) (.block j body))) tm1 tm2 → Same (writes cnd ++ writes body) tm1 tm2 := fun tm1 tm2 h => h.mono fun i hi => by simpa [writes] using hi
 refine wp_loopF (fun m tm1 st1 => ∃ i,m = mu i ∧ J i (vs.map (tg tm1)) st1) ?_ (mu 0) ⟨0,rfl,init⟩
 rintro m tm1 st1 ⟨i,rfl,hJ⟩ hs
 apply wp_seq
 apply wp_seq
 refine (step i tm1 st1 hJ (hS _ _ hs)).mono (andThen_mono ?_ ?_)
 ·rintro tm2 st2 ⟨b,hb,h1,h2⟩
  refine wp_cond hb ?_
  cases b
  ·simp only [Bool.false_eq_true,if_false]
   apply wp_exit
   apply andThen_exit
   apply andThen_exit
   apply inBlock_same
   exact h1 rfl
  ·simp only [if_true]
   apply wp_skip
   apply andThen_normal
   obtain ⟨h3,h4⟩ := h2 rfl
   apply wp_block
   refine h4.mono (inBlock_mono ?_)
   intro e tm st h
   cases e with
   | normal => rw [andThen_eq_normal] at h ⊢;exact ⟨mu (i + 1),h3,i + 1,rfl,h⟩
   | ret => rw [andThen_eq_ret] at h ⊢;exact h
   | panic v => rw [andThen_eq_panic] at h ⊢;exact h
   | exit x => rw [andThen_eq_exit] at h ⊢;exact h
 ·intro e tm2 st2 he h
  cases e with
  | normal => exact absurd rfl he
  | ret => rw [andThen_eq_ret,andThen_eq_ret];exact h
  | exit i => rw [andThen_eq_exit,andThen_eq_exit];exact h
  | panic v => rw [andThen_eq_panic,andThen_eq_panic];exact h
end Go.Den
namespace Go.Den.Ch
def combS (n : Nat) : Nat → Nat → List (List Int)
 | 0,_ => [[]]
 | k + 1,f => (List.range (n - f)).flatMap fun (d : Nat) => (combS n k (f + d + 1)).map fun l => ((f + d : Nat) : Int) :: l
theorem mem_combS {n : Nat} {l : List Int} : ∀ {k f : Nat},l ∈ combS n k f ↔ l.length = k ∧ l.Pairwise (· < ·) ∧ ∀ x ∈ l,(f : Int) ≤ x ∧ x < n := by
 intro k
 induction k generalizing l with
 | zero =>
  intro f
  rw [combS,List.mem_singleton]
  constructor
  ·rintro rfl;exact ⟨rfl,List.Pairwise.nil,fun _ h => by cases h⟩
  ·rintro ⟨h,_⟩;exact List.eq_nil_of_length_eq_zero h
 | succ k ih =>
  intro f
  rw [combS,List.mem_flatMap]
  constructor
  ·rintro ⟨d,hd,h⟩
   rw [List.mem_range] at hd
   rw [List.mem_map] at h
   obtain ⟨t,ht,rfl⟩ := h
   obtain ⟨h1,h2,h3⟩ := ih.1 ht
   refine ⟨by simp [h1],List.pairwise_cons.2 ⟨fun x hx => by have := h3 x hx;omega,h2⟩,fun x hx => ?_⟩
   rcases List.mem_cons.1 hx with rfl | hx
   ·omega
   ·have := h3 x hx;omega
  ·rintro ⟨h1,h2,h3⟩
   cases l with
   | nil => simp at h1
   | cons x t =>
    rw [List.pairwise_cons] at h2
    have hx := h3 x (by simp)
    have e : ((f + (x.toNat - f) : Nat) : Int) = x := by omega
    refine ⟨x.toNat - f,List.mem_range.2 (by omega),List.mem_map.2 ⟨t,ih.2 ⟨by simpa using h1,h2.2,fun y hy => ?_⟩,by rw [e]⟩⟩
    have := h2.1 y hy
    have := h3 y (by simp [hy])
    omega
theorem combS_sorted {n : Nat} : ∀ (k f : Nat),(combS n k f).Pairwise (fun a b => bef a b = true)
 | 0,f => List.pairwise_singleton _ _
 | k + 1,f => by
  rw [combS]
  refine List.pairwise_flatMap.2 ⟨fun d _ => ?_,List.Pairwise.imp ?_ (List.pairwise_lt_range (n := n - f))⟩
  ·rw [List.pairwise_map]
   exact (combS_sorted k (f + d + 1)).imp fun h => by simp only [bef,if_true];exact h
  ·intro a b hab x hx y hy
   rw [List.mem_map] at hx hy
   obtain ⟨t,_,rfl⟩ := hx
   obtain ⟨u,_,rfl⟩ := hy
   exact bef_lt (l := []) (by omega)
theorem comb_eq (n k : Nat) : combS n k 0 = combL n k [] 0 := by
 refine sorted_ext (combS_sorted k 0) (comb_sorted k [] 0) fun l => ?_
 rw [mem_combS,mem_comb]
 constructor
 ·rintro ⟨h1,h2,h3⟩;exact ⟨l,rfl,h1,h2,h3⟩
 ·rintro ⟨t,rfl,h1,h2,h3⟩;exact ⟨h1,h2,h3⟩
theorem combS_len {n : Nat} (hn : n ≤ 6) : ∀ (k f : Nat),(combS n k f).length ≤ 6 ^ k
 | 0,f => by simp [combS]
 | k + 1,f => by
  rw [combS]
  have h1 := flat_len (f := fun (d : Nat) => (combS n k (f + d + 1)).map fun l => ((f + d : Nat) : Int) :: l) (d := 6 ^ k) (List.range (n - f)) (fun d _ => by rw [List.length_map];exact combS_len hn k _)
  rw [List.length_range] at h1
  rw [Nat.pow_succ,Nat.mul_comm (6 ^ k) 6]
  exact Nat.le_trans h1 (Nat.mul_le_mul_right _ (by omega))
def cmT (n k f d : Nat) : List (List Int) := (List.range d).flatMap fun (d : Nat) => (combS n k (f + d + 1)).map fun l => ((f + d : Nat) : Int) :: l
theorem cmT_succ (n k f d : Nat) : cmT n k f (d + 1) = cmT n k f d ++ (combS n k (f + d + 1)).map fun l => ((f + d : Nat) : Int) :: l := by
 unfold cmT
 rw [List.range_succ,List.flatMap_append];simp
theorem cmT_len {n : Nat} (hn : n ≤ 6) {k f d : Nat} (hk : k ≤ 5) (hd : d ≤ 6) : (cmT n k f d).length ≤ 46656 := by
 have h1 := flat_len (f := fun (d : Nat) => (combS n k (f + d + 1)).map fun l => ((f + d : Nat) : Int) :: l) (d := 7776) (List.range d) (fun d _ => by
  rw [List.length_map]
  have h2 := combS_len hn k (f + d + 1)
  have h3 : 6 ^ k ≤ 6 ^ 5 := Nat.pow_le_pow_right (by omega) hk
  have h4 : (6 : Nat) ^ 5 = 7776 := by decide
  omega)
 rw [List.length_range] at h1
 have h5 : d * 7776 ≤ 6 * 7776 := Nat.mul_le_mul_right _ hd
 unfold cmT
 omega
set_option maxHeartbeats 16000000 in
theorem c112 (n : Nat) (hn : n ≤ 6) : ∀ (k f : Nat),k ≤ 6 → f ≤ n → ∀ st,ClR EE (.func 112 [] []) [iv f,iv n,iv k] st (RetS st 1 (combS n k f).length ((combS n k f).flatMap encL))
 | 0,f,_,_,st => by
  have z : ((0 : Nat) : Int) = 0 := rfl
  refine clr_fn (pr112 · _ _) fn112 3 rfl (by decide) (fun tm hl hg => ?_);have h0 : tg tm 0 = iv f := (hg 0 (by decide));have h1 : tg tm 1 = iv n := (hg 1 (by decide));have h2 : tg tm 2 = iv ((0 : Nat) : Int) := (hg 2 (by decide));clear hg
  refine go (bw6 hl h0 h1 h2 z zs) fnil ?_
  refine fnr_ret (results_one (v := .slice (.tag st.heap.length 1) 1 [.nilslice]) (by rw [rdRes_tmp];simp only [↓reduceIte,go_sem,hl])) (OwnS.finish (n := 1) (cs := [.nilslice]) ⟨rfl,.inr ⟨st.heap.length,rfl,Nat.le_refl _,by simp only [↓reduceIte,go_sem]⟩⟩ (by simp only [lo_push];omega) (fun m c hc => by rw [List.mem_singleton.1 hc];rfl))
 | k + 1,f,hk,hf,st => by
  have ec := fun p => el_cells p
  have ei := fun p => el_isCell p
  have e6 : (6 : Nat) ^ 6 = 46656 := by decide
  have z : (((k + 1 : Nat) : Int) == 0) = false := by rw [beq_eq_false_iff_ne];omega
  have hwk : IntKind.wrap .i64 (((k + 1 : Nat) : Int) - 1) = (k : Int) := by rw [wrap_in (by unfold inI;omega)];omega
  refine clr_fn (pr112 · _ _) fn112 3 rfl (by decide) (fun tm hl hg => ?_);have h0 : tg tm 0 = iv f := (hg 0 (by decide));have h1 : tg tm 1 = iv n := (hg 1 (by decide));have h2 : tg tm 2 = iv ((k + 1 : Nat) : Int) := (hg 2 (by decide));clear hg
  refine go (bw5 hl h0 h1 h2 z) fnil ?_
  refine wp_for [8,7] (fun d vs s => ∃ w,vs = [iv ((f + d : Nat) : Int),w] ∧ d ≤ n - f ∧ OwnS st.heap.length s 1 w (cmT n k f d).length ((cmT n k f d).flatMap encL) ∧ Fr st.heap.length ({ heap := st.heap,lo := st.heap.length } : St) s) (fun d => n - f - d) ⟨_,by simp only [↓reduceIte,go_sem,hl,h0];first | done | rfl,Nat.zero_le _,.nil,.refl _ _⟩ ?_
  rintro d tm1 s1 ⟨w,hv,hd,hO,hFr⟩ hS
  simp only [List.map_cons,List.map_nil,List.cons.injEq,and_true] at hv
  obtain ⟨hv8,hv7⟩ := hv
  have hl1 : tm1.length = 43 := (by rw [hS.1];simp only [put_len,hl]);have i1 : tg tm1 1 = iv n := (by rw [hS.2 1 (by decide)];simp only [↓reduceIte,go_sem,hl,h1,h2]);have i2 : tg tm1 2 = iv ((k + 1 : Nat) : Int) := (by rw [hS.2 2 (by decide)];simp only [↓reduceIte,go_sem,hl,h1,h2]);clear hS
  have w1 := hFr.len
  have w2 := hFr.lo
  simp only at w1 w2
  refine go (bw3 hl1 hv8 i1) fnil ?_
  refine ⟨decide (((f + d : Nat) : Int) < n),by simp only [↓reduceIte,go_sem,hl1],fun hb => ?_,fun hb1 => ?_⟩
  ·have hlt := of_decide_eq_false hb
   obtain rfl : d = n - f := by omega
   have e : cmT n k f (n - f) = combS n (k + 1) f := by rw [cmT,combS]
   rw [e] at hO
   refine go (bw hl1 hv7) fnil ?_
   exact fnr_ret (results_one (v := w) (by rw [rdRes_tmp];simp only [↓reduceIte,go_sem,hl1])) (hO.finish (by omega) (fun m c hc => encL_low _ m c hc))
  have hlt : f + d < n := by have := of_decide_eq_true hb1;omega
  have hw1 : IntKind.wrap .i64 (((f + d : Nat) : Int) + 1) = ((f + d + 1 : Nat) : Int) := wrap_nat (n := f + d + 1) (by omega)
  refine ⟨by omega,?_⟩
  refine go (bw6 hl1 hv8 i1 i2 hw1 hwk) fnil ?_
  refine wops_callR rfl rfl (by simp only [↓reduceIte,go_sem,hl1,i1];first | done | rfl) (by simp only [↓reduceIte,go_sem,hl1,i1];exact c112 n hn k (f + d + 1) (by omega) (by omega) _) ?_
  intro V s2 hR
  have x1 := hR.lo
  have x2 := hR.len
  have hV := slL hR
  have hVs := hV.slen
  have hO2 := hO.hext hR.w.hext
  have hFr2 : Fr st.heap.length ({ heap := st.heap,lo := st.heap.length } : St) s2 := hFr.trans (hR.fr.mono (by omega))
  have hcl := combS_len hn k (f + d + 1)
  have h6 : 6 ^ k ≤ 6 ^ 6 := Nat.pow_le_pow_right (by omega) (by omega)
  have hcm := cmT_len hn (k := k) (f := f) (d := d) (by omega) (by omega)
  have hsd := cmT_succ n k f d
  have hLm : ∀ l ∈ combS n k (f + d + 1),l.length = k := fun l hl => (mem_combS.1 hl).1
  generalize combS n k (f + d + 1) = L at hV hVs hcl hsd hLm
  refine go hl1 fnil ?_
  refine wp_for [10,7] (fun i vs s => ∃ w,vs = [iv i,w] ∧ i ≤ L.length ∧ OwnS st.heap.length s 1 w (cmT n k f d ++ (L.take i).map fun l => ((f + d : Nat) : Int) :: l).length ((cmT n k f d ++ (L.take i).map fun l => ((f + d : Nat) : Int) :: l).flatMap encL) ∧ Fr st.heap.length ({ heap := st.heap,lo := st.heap.length } : St) s) (fun i => L.length - i) ⟨w,by simp only [↓reduceIte,go_sem,hl1,hv7];first | done | rfl,Nat.zero_le _,by simpa using hO2,hFr2⟩ ?_
  clear hO hFr hO2 hFr2 hv7 w1 w2 x1 x2
  rintro i tm3 s3 ⟨w,hv,hi,hO,hFr⟩ hS
  simp only [List.map_cons,List.map_nil,List.cons.injEq,and_true] at hv
  obtain ⟨hv10,hv7⟩ := hv
  have hl3 : tm3.length = 43 := (by rw [hS.1];simp only [put_len,hl1]);have k8 : tg tm3 8 = iv ((f + d : Nat) : Int) := (by rw [hS.2 8 (by decide)];simp only [↓reduceIte,go_sem,hl1,hv8]);have k9 : tg tm3 9 = V := (by rw [hS.2 9 (by decide)];simp only [↓reduceIte,go_sem,hl1,hv8]);clear hS
  have w1 := hFr.len
  have w2 := hFr.lo
  have w3 := hFr.up
  simp only at w1 w2 w3
  refine go (bw4 hl3 hv10 k9 hVs) fnil ?_
  refine ⟨decide ((i : Int) < L.length),by simp only [↓reduceIte,go_sem,hl3],fun hb => ?_,fun hb1 => ?_⟩
  ·have hlt2 := of_decide_eq_false hb
   obtain rfl : i = L.length := by omega
   rw [List.take_length,← hsd] at hO
   refine go (bw3 hl3 k8 hw1) fnil ?_
   exact ⟨w,by simp only [↓reduceIte,go_sem,hl3,hv7];first | done | rfl,by omega,hO,hFr⟩
  have hlt2 : i < L.length := by have := of_decide_eq_true hb1;omega
  have hw2 : IntKind.wrap .i64 ((i : Int) + 1) = ((i + 1 : Nat) : Int) := wrap_nat (n := i + 1) (by omega)
  have hsu : (L.take (i + 1)).map (fun l => ((f + d : Nat) : Int) :: l) = (L.take i).map (fun l => ((f + d : Nat) : Int) :: l) ++ [((f + d : Nat) : Int) :: L[i]] := by rw [List.take_succ_eq_append_getElem hlt2,List.map_append];rfl
  have hLl := hLm _ (List.getElem_mem hlt2)
  have hU1 : OwnS s3.heap.length (s3.push (.tag true)) 1 (.slice (.tag s3.heap.length 1) 1 [iv ((f + d : Nat) : Int)]) 1 [iv ((f + d : Nat) : Int)] := ⟨rfl,.inr ⟨s3.heap.length,rfl,Nat.le_refl _,by simp only [↓reduceIte,go_sem]⟩⟩
  refine ⟨by omega,?_⟩
  refine go (bw7 hl3 hv10 hv7 k8 k9 ec ei) fnil ?_
  refine wops_append (m := s3.heap.length) rfl rfl (by simp only [↓reduceIte,go_sem,hl3];first | done | rfl) (by simp only [↓reduceIte,go_sem,hl3];first | done | rfl) hU1 (el_sl L[i]).sl (by simp only [len_push];omega) (flatMap_len (fun _ _ => rfl)) (encI_cell _) (by simp only [maxList];omega) ?_
  intro u2 s5 hU2 hF2 hg2
  rw [encI_share] at hU2
  have y1 := hF2.len
  have y2 := hF2.lo
  have y3 := hF2.up
  simp only [lo_push,len_push] at y1 y2 y3
  have hF5 : Fr s3.heap.length s3 s5 := ((Fr.refl _ _).push (Nat.le_refl _)).trans hF2
  have hO5 := hO.hext hF5.hext
  have hFr5 : Fr st.heap.length ({ heap := st.heap,lo := st.heap.length } : St) s5 := hFr.trans (hF5.mono (by omega))
  have hU : SlOf 1 encI u2 (((f + d : Nat) : Int) :: L[i]) := SlOf.of_sl hU2.sl (by simp [Nat.add_comm]) (by simp) (fun _ => rfl)
  have hsh : u2.share = elL (((f + d : Nat) : Int) :: L[i]) := share_own hU2 (by simp [Nat.add_comm]) (by simp) (by simp)
  have uc := hU.cells
  have ui := hU.isCell
  refine go (bw4 hl3 hv7 uc ui) fnil ?_
  refine wops_append (m := st.heap.length) rfl rfl (by simp only [↓reduceIte,go_sem,hl3,hv7];first | done | rfl) (by simp only [↓reduceIte,go_sem,hl3];first | done | rfl) hO5.push rfl (by simp only [len_push];omega) (by rfl) (by simp only [List.all_cons,List.all_nil,hsh,el_isCell,Bool.and_true]) (by simp only [maxList,List.length_append,List.length_map,List.length_take];omega) ?_
  intro w' s6 hO' hFr' hk'
  refine go (bw3 hl3 hv10 hw2) fnil ?_
  exact ⟨w',by simp only [↓reduceIte,go_sem,hl3],by omega,by rw [hsu];simpa [hsh,el_share,Nat.add_assoc] using hO',(hFr5.push (by omega)).trans hFr'⟩
theorem clash_at {c : CL} {k i : Nat} (hi : i < (combS c.figs.length k 0).length) (h : canB c (combS c.figs.length k 0)[i] = false) (h2 : ∀ j,∀ hj : j < (combS c.figs.length k 0).length,j < i → canB c (combS c.figs.length k 0)[j] = true) : clashF c k [] 0 = some (combS c.figs.length k 0)[i] := by
 rw [clashF,← comb_eq]
 refine List.find?_eq_some_iff_append.2 ⟨by simp [badB,h],(combS c.figs.length k 0).take i,(combS c.figs.length k 0).drop (i + 1),?_,fun a ha => ?_⟩
 ·rw [List.getElem_cons_drop,List.take_append_drop]
 ·obtain ⟨j,hj,rfl⟩ := List.getElem_of_mem ha
  rw [List.length_take] at hj
  rw [List.getElem_take]
  simp [badB,h2 j (by omega) (by omega)]
theorem clash_no {c : CL} {k : Nat} (h : ∀ j,∀ hj : j < (combS c.figs.length k 0).length,canB c (combS c.figs.length k 0)[j] = true) : clashF c k [] 0 = none := by
 rw [clashF,← comb_eq]
 refine List.find?_eq_none.2 fun a ha => ?_
 obtain ⟨j,hj,rfl⟩ := List.getElem_of_mem ha
 simp [badB,h j hj]
theorem clash_zero {c : CL} (hA : listB c = true) : clashF c 0 [] 0 = none := by
 have := can_nil (room_pos hA)
 simp [clashF,combL,badB,this]
set_option maxHeartbeats 16000000 in
theorem c65 (c : CL) (F : PV) (hF : SlOf 3 encF F c.figs) (hA : listB c = true) (st : St) : Cl EE (.func 65 [] []) [clPV c F] st (.ret (.tuple [elL (((List.range (c.figs.length + 1)).findSome? fun many => clashF c many [] 0).getD []),.bool ((List.range (c.figs.length + 1)).findSome? fun many => clashF c many [] 0).isSome])) st := by
 have hFc := hF.cells
 have hFi := hF.isCell
 have hFs := hF.slen
 have hlen := (OkL.of hA).len
 have ec := fun p => el_cells p
 have ei := fun p => el_isCell p
 have e6 : (6 : Nat) ^ 6 = 46656 := by decide
 have z0 : ((0 : Nat) : Int) = 0 := rfl
 refine cl_fn (pr65 · _ _) fn65 1 rfl (by decide) (fun tm hl hg => ?_);have h0 : tg tm 0 = clPV c F := (hg 0 (by decide));clear hg
 refine go (bw hl h0) fnil ?_
 refine wp_for [4] (fun t vs s => vs = [iv ((t + 1 : Nat) : Int)] ∧ t ≤ c.figs.length ∧ (∀ j ≤ t,clashF c j [] 0 = none) ∧ Fr (st.heap.length + 1) (({ heap := st.heap,lo := st.heap.length } : St).push (.var [iv c.room,iv c.depth,F])) s) (fun t => c.figs.length - t) ⟨by simp only [↓reduceIte,go_sem,hl];first | done | rfl,Nat.zero_le _,(fun j hj => by rw [show j = 0 by omega];exact clash_zero hA),.refl _ _⟩ ?_
 rintro t tm1 s1 ⟨hv,ht,hno,hFr⟩ hS
 simp only [List.map_cons,List.map_nil,List.cons.injEq,and_true] at hv
 have hl1 : tm1.length = 36 := (by rw [hS.1];simp only [put_len,hl]);have i1 : tg tm1 1 = .ptr st.heap.length 0 := (by rw [hS.2 1 (by decide)];simp only [↓reduceIte,go_sem,hl,h0]);clear hS
 have b1 : hp s1 st.heap.length = some (.var [iv c.room,iv c.depth,F]) := (hFr.old _ (by omega)).trans (by simp only [↓reduceIte,go_sem])
 have m1 := hp_lt b1
 have w1 := hFr.len
 have w2 := hFr.lo
 have w3 := hFr.up
 simp only [lo_push,len_push] at w1 w2 w3
 refine go (bw10 hl1 hv i1 b1 (neL m1) (neA m1) (ltL m1) (ltA m1) m1 hFs) fnil ?_
 refine ⟨decide (((t + 1 : Nat) : Int) ≤ c.figs.length),by simp only [↓reduceIte,go_sem,hl1],fun hb => ?_,fun hb1 => ?_⟩
 ·have hlt := of_decide_eq_false hb
  have e : ((List.range (c.figs.length + 1)).findSome? fun many => clashF c many [] 0) = none := List.findSome?_eq_none_iff.2 fun j hj => hno j (by rw [List.mem_range] at hj;omega)
  rw [e]
  refine go hl1 fnil ?_
  refine fnq_el (p := []) (results_two (v := .nilslice) (u := .bool false) ?_ ?_) (by first | omega | (simp only [lo_push,lo_setVar];omega))
  ·rw [rdRes_tmp];simp only [↓reduceIte,go_sem,hl1]
  ·rw [rdRes_tmp];simp only [↓reduceIte,go_sem,hl1]
 have hlt : t + 1 ≤ c.figs.length := by have := of_decide_eq_true hb1;omega
 have hw1 : IntKind.wrap .i64 (((t + 1 : Nat) : Int) + 1) = ((t + 1 + 1 : Nat) : Int) := wrap_nat (n := t + 1 + 1) (by omega)
 have k112 := c112 c.figs.length hlen (t + 1) 0 (by omega) (Nat.zero_le _)
 rw [z0] at k112
 refine ⟨by omega,?_⟩
 refine go (bw10 hl1 hv i1 b1 (neL m1) (neA m1) (ltL m1) (ltA m1) m1 hFs) fnil ?_
 refine wops_callR rfl rfl (by simp only [↓reduceIte,go_sem,hl1];first | done | rfl) (by simp only [↓reduceIte,go_sem,hl1];exact k112 _) ?_
 intro V s2 hR
 have x1 := hR.lo
 have x2 := hR.len
 have hV := slL hR
 have hVs := hV.slen
 have b2 := hR.hp b1
 have m2 := hp_lt b2
 have hFr2 : Fr (st.heap.length + 1) (({ heap := st.heap,lo := st.heap.length } : St).push (.var [iv c.room,iv c.depth,F])) s2 := hFr.trans (hR.fr.mono (by omega))
 have hcl := combS_len hlen (t + 1) 0
 have h6 : 6 ^ (t + 1) ≤ 6 ^ 6 := Nat.pow_le_pow_right (by omega) (by omega)
 refine go hl1 fnil ?_
 refine wp_for [6] (fun i vs s => vs = [iv i] ∧ i ≤ (combS c.figs.length (t + 1) 0).length ∧ (∀ j,∀ hj : j < (combS c.figs.length (t + 1) 0).length,j < i → canB c (combS c.figs.length (t + 1) 0)[j] = true) ∧ s = s2) (fun i => (combS c.figs.length (t + 1) 0).length - i) ⟨by simp only [↓reduceIte,go_sem,hl1];first | done | rfl,Nat.zero_le _,(fun j _ hj => absurd hj (by omega)),rfl⟩ ?_
 rintro i tm2 s3 ⟨hv2,hi,hno2,rfl⟩ hS
 simp only [List.map_cons,List.map_nil,List.cons.injEq,and_true] at hv2
 have hl2 : tm2.length = 36 := (by rw [hS.1];simp only [put_len,hl1]);have j1 : tg tm2 1 = .ptr st.heap.length 0 := (by rw [hS.2 1 (by decide)];simp only [↓reduceIte,go_sem,hl1,i1,hv]);have j4 : tg tm2 4 = iv ((t + 1 : Nat) : Int) := (by rw [hS.2 4 (by decide)];simp only [↓reduceIte,go_sem,hl1,i1,hv]);have j5 : tg tm2 5 = V := (by rw [hS.2 5 (by decide)];simp only [↓reduceIte,go_sem,hl1,i1,hv]);clear hS
 refine go (bw4 hl2 hv2 j5 hVs) fnil ?_
 refine ⟨decide ((i : Int) < (combS c.figs.length (t + 1) 0).length),by simp only [↓reduceIte,go_sem,hl2],fun hb => ?_,fun hb2 => ?_⟩
 ·have hlt2 := of_decide_eq_false hb
  refine go (bw3 hl2 j4 hw1) fnil ?_
  refine ⟨by simp only [↓reduceIte,go_sem,hl2],by omega,fun j hj => ?_,hFr2⟩
  by_cases hjt : j ≤ t
  ·exact hno j hjt
  ·obtain rfl : j = t + 1 := by omega
   exact clash_no fun j hj => hno2 j hj (by omega)
 have hlt2 : i < (combS c.figs.length (t + 1) 0).length := by have := of_decide_eq_true hb2;omega
 have hw2 : IntKind.wrap .i64 ((i : Int) + 1) = ((i + 1 : Nat) : Int) := wrap_nat (n := i + 1) (by omega)
 have hcm := mem_combS.1 (List.getElem_mem hlt2)
 have k113 := c113 c F (elL (combS c.figs.length (t + 1) 0)[i]) (combS c.figs.length (t + 1) 0)[i] hF (el_sl _) hA (fun x hx => by have := hcm.2.2 x hx;omega) (by omega)
 refine ⟨by omega,?_⟩
 cases x3 : canB c (combS c.figs.length (t + 1) 0)[i]
 ·rw [x3] at k113
  have e : ((List.range (c.figs.length + 1)).findSome? fun many => clashF c many [] 0) = some (combS c.figs.length (t + 1) 0)[i] := range_some (i := t + 1) (by omega) (fun k hk => hno k (by omega)) (clash_at hlt2 x3 hno2)
  rw [e]
  refine go (bw14 hl2 hv2 j1 j5 b2 (neL m2) (neA m2) (ltL m2) (ltA m2) m2 ec ei hFc hFi) (bw k113 fnil) ?_
  refine fnq_el (p := (combS c.figs.length (t + 1) 0)[i]) (results_two (v := elL (combS c.figs.length (t + 1) 0)[i]) (u := .bool true) ?_ ?_) (by first | omega | (simp only [lo_push,lo_setVar];omega))
  ·rw [rdRes_tmp];simp only [↓reduceIte,go_sem,hl2]
  ·rw [rdRes_tmp];simp only [↓reduceIte,go_sem,hl2]
 ·rw [x3] at k113
  refine go (bw15 hl2 hv2 j1 j5 b2 (neL m2) (neA m2) (ltL m2) (ltA m2) m2 ec ei hFc hFi hw2) (bw k113 fnil) ?_
  refine ⟨by simp only [↓reduceIte,go_sem,hl2],by omega,fun j hj hji => ?_,rfl⟩
  by_cases hje : j = i
  ·subst hje;exact x3
  ·exact hno2 j hj (by omega)
set_option maxHeartbeats 16000000 in
theorem c64 (c : CL) (F : PV) (hF : SlOf 3 encF F c.figs) (hA : listB c = true) (st : St) : Cl EE (.func 64 [] []) [clPV c F] st (.ret (iv (roomT c (rightsL (wideL c))))) st := by
 have hFc := hF.cells
 have hFi := hF.isCell
 have hc := OkL.of hA
 have hlen := hc.len
 have hd1 : 1 ≤ c.depth := by
  simp only [listB,inB,Bool.and_eq_true,decide_eq_true_eq] at hA
  omega
 have hrl := fun r h0 => room_law hc hd1 (r := r) h0
 obtain ⟨hm1,hm2,hm3⟩ := room_most hc hd1
 have hbd := sum_bound (l := sizesL c) (b := 9) (by omega) (fun x hx => by
  obtain ⟨f,hf,rfl⟩ := List.mem_map.1 hx
  have := hc.size hf;omega)
 have hsl : (sizesL c).length = c.figs.length := by simp [sizesL]
 generalize roomT c (rightsL (wideL c)) = R at hrl hm2 hm3
 obtain ⟨N,rfl⟩ : ∃ N : Nat,R = N := ⟨R.toNat,by omega⟩
 refine cl_fn (pr64 · _ _) fn64 1 rfl (by decide) (fun tm hl hg => ?_);have h0 : tg tm 0 = clPV c F := (hg 0 (by decide));clear hg
 refine go (bw hl h0) fnil ?_
 refine wp_while [3] (fun i vs s => vs = [iv i] ∧ i ≤ N ∧ Fr (st.heap.length + 1) (({ heap := st.heap,lo := st.heap.length } : St).push (.var [iv c.room,iv c.depth,F])) s) (fun i => N - i) ⟨by simp only [↓reduceIte,go_sem,hl];first | done | rfl,Nat.zero_le _,.refl _ _⟩ ?_
 rintro i tm1 s1 ⟨hv,hi,hFr⟩ hS
 simp only [List.map_cons,List.map_nil,List.cons.injEq,and_true] at hv
 have hl1 : tm1.length = 13 := (by rw [hS.1];simp only [put_len,hl]);have i1 : tg tm1 1 = .ptr st.heap.length 0 := (by rw [hS.2 1 (by decide)];simp only [↓reduceIte,go_sem,hl,h0]);clear hS
 have b1 : hp s1 st.heap.length = some (.var [iv c.room,iv c.depth,F]) := (hFr.old _ (by omega)).trans (by simp only [↓reduceIte,go_sem])
 have m1 := hp_lt b1
 have w1 := hFr.len
 have w2 := hFr.lo
 have w3 := hFr.up
 simp only [lo_push,len_push] at w1 w2 w3
 refine go (bw9 hl1 hv i1 b1 (neL m1) (neA m1) (ltL m1) (ltA m1) m1) fnil ?_
 refine wops_callR rfl rfl (by simp only [↓reduceIte,go_sem,hl1];first | done | rfl) (by simp only [↓reduceIte,go_sem,hl1];exact c66 c F (i : Int) hF _) ?_
 rintro v s2 ⟨F',rfl,hF',hK⟩
 have q1 := hK.2
 have q2 := hK.len
 refine go hl1 fnil ?_
 refine wops_callR rfl rfl (by simp only [↓reduceIte,go_sem,hl1];first | done | rfl) (by simp only [↓reduceIte,go_sem,hl1];exact r34 (roomy c i) F' hF' (hc.roomy i) _) ?_
 rintro V s3 ⟨hV,hK2⟩
 have q3 := hK2.2
 have q4 := hK2.len
 have hVs := hV.slen
 have hx3 : HExt s1.heap s3.heap := hK.1.trans hK2.1
 have hnew : Fr (st.heap.length + 1) (({ heap := st.heap,lo := st.heap.length } : St).push (.var [iv c.room,iv c.depth,F])) s3 := by
  refine ⟨by simp only [len_push];omega,by simp only [lo_push];omega,fun l hl => ?_,by simp only [lo_push];omega⟩
  have hx : hp s3 l = hp s1 l := hx3.2 l (by omega)
  rw [hx]
  exact hFr.old l hl
 have hri := hrl i (by omega)
 refine go (bw hl1 hVs) fnil ?_
 refine ⟨((rightsL (roomy c i)).length : Int) == 0,by simp only [↓reduceIte,go_sem,hl1],fun hb => ?_,fun hb1 => ?_⟩
 ·have hne : rightsL (roomy c i) ≠ [] := fun h => by rw [h] at hb;cases hb
  have := hri.1 hne
  obtain rfl : i = N := by omega
  refine go (bw hl1 hv) fnil ?_
  refine fnq_flat (results_one (by rw [rdRes_tmp];simp only [↓reduceIte,go_sem,hl1];first | done | rfl)) (by first | exact Nat.le_refl _ | omega | (simp only [lo_push,lo_setVar];omega)) (by rfl)
 ·have he : rightsL (roomy c i) = [] := List.eq_nil_of_length_eq_zero (by have := beq_iff_eq.1 hb1;omega)
  have hlt : i < N := by
   apply Nat.not_le.1
   intro hle
   exact hri.2 (by omega) he
  have hw1 : IntKind.wrap .i64 ((i : Int) + 1) = ((i + 1 : Nat) : Int) := wrap_nat (n := i + 1) (by omega)
  refine ⟨by omega,?_⟩
  refine go (bw3 hl1 hv hw1) fnil ?_
  exact ⟨by simp only [↓reduceIte,go_sem,hl1],by omega,hnew⟩
set_option maxHeartbeats 16000000 in
theorem c16 (c : CL) (F : PV) (hF : SlOf 3 encF F c.figs) (st : St) : Cl EE (.func 16 [] []) [clPV c F] st (.ret (.bool true)) st := by
 have hFc := hF.cells
 have hFi := hF.isCell
 have hFs := hF.slen
 refine cl_fn (pr16 · _ _) fn16 1 rfl (by decide) (fun tm hl hg => ?_);have h0 : tg tm 0 = clPV c F := (hg 0 (by decide));clear hg
 have k30 := c30 c F hF
 cases d0 : decide (c.figs.length ≤ 8)
 ·refine go (bw3 hl h0 d0) (bw3 k30 c26 fnil) ?_
  refine fnq_flat (results_one (by rw [rdRes_tmp];simp only [↓reduceIte,go_sem,hl];first | done | rfl)) (by first | exact Nat.le_refl _ | omega | (simp only [lo_push,lo_setVar];omega)) (by rfl)
 have hn8 := of_decide_eq_true d0
 have k33 := c33 c F hF (by omega)
 have k63 := c63 c F hF
 refine go (bw3 hl h0 d0) (bw k30 fnil) ?_
 refine wops_callR rfl rfl (by simp only [↓reduceIte,go_sem,hl];first | done | rfl) (by simp only [↓reduceIte,go_sem,hl];exact r62 c F hF _) ?_
 rintro v S1 ⟨P,rfl,hP,hK⟩
 have q1 := hK.2
 have q2 := hK.len
 try simp only [lo_push,len_push] at q1 q2
 have b1 := hK.hp (l := st.heap.length) (o := .var [iv c.room,iv c.depth,F]) (by simp only [↓reduceIte,go_sem])
 have m1 := hp_lt b1
 have hPs := hP.slen
 have e22 : ((2 : Int) == 2) = true := rfl
 have n0 : ((0 : Nat) : Int) = 0 := rfl
 cases hA : listB c
 ·have e : clashR c = ([],2) := by simp [clashR,hA]
  have e2 : roomR c = (0,2) := by simp [roomR,hA]
  rw [e2] at k63
  rw [e] at hPs ⊢
  have hPs' : P.slen = some 0 := hPs
  refine go (bw14 hl b1 (neL m1) (neA m1) (ltL m1) (ltA m1) m1 hA hPs' zs e22 n0 hFc hFi) (bw4 k63 k33 c26 fnil) ?_
  refine fnq_flat (results_one (by rw [rdRes_tmp];simp only [↓reduceIte,go_sem,hl];first | done | rfl)) (by first | exact Nat.le_refl _ | omega | (simp only [lo_push,lo_setVar];omega)) (by rfl)
 have hc := OkL.of hA
 have hlen := hc.len
 have e2 : roomR c = (roomT c (rightsL (wideL c)),0) := by simp [roomR,hA]
 rw [e2] at k63
 have k64 := c64 c F hF hA
 have k65 := c65 c F hF hA
 generalize roomT c (rightsL (wideL c)) = R at k63 k64
 cases hb : (List.range (c.figs.length + 1)).findSome? fun many => clashF c many [] 0 with
 | none =>
  have e : clashR c = ([],5) := by simp [clashR,hA,hb]
  rw [hb] at k65
  rw [e] at hPs ⊢
  have hPs' : P.slen = some 0 := hPs
  refine go (bw14 hl b1 (neL m1) (neA m1) (ltL m1) (ltA m1) m1 hA hPs' zs nne n0 hFc hFi) (bw6 k63 k33 k64 k65 c26 fnil) ?_
  refine fnq_flat (results_one (by rw [rdRes_tmp];simp only [↓reduceIte,go_sem,hl];first | done | rfl)) (by first | exact Nat.le_refl _ | omega | (simp only [lo_push,lo_setVar];omega)) (by rfl)
 | some o =>
  have e : clashR c = (o,0) := by simp [clashR,hA,hb]
  rw [hb] at k65
  rw [e] at hP ⊢
  have hol : o.length ≤ 6 := by
   rcases clash_law hA with ⟨_,h,_⟩ | ⟨_,l,h,h2,_⟩
   ·rw [e] at h;cases h
   ·rw [e] at h
    cases h
    have := ris_len h2
    omega
  have k36 := c36 P (elL o) o o hP (el_sl o) (by omega)
  have eo : (o == o) = true := by simp
  rw [eo] at k36
  refine go (bw12 hl b1 (neL m1) (neA m1) (ltL m1) (ltA m1) m1 hA zs nne hFc hFi) (bw7 k63 k33 k64 k65 k36 c26 fnil) ?_
  refine fnq_flat (results_one (by rw [rdRes_tmp];simp only [↓reduceIte,go_sem,hl];first | done | rfl)) (by first | exact Nat.le_refl _ | omega | (simp only [lo_push,lo_setVar];omega)) (by rfl)
end Go.Den.Ch
end

/- Part of the proof that for every input the function ChestTrue returns true and each argument reads as it did. Texts: ChTr, ChTs. -/
import Derived.Test.YtoeigapilcgelaaGreatDoorK2Bq
set_option linter.unusedSimpArgs false
set_option linter.unusedVariables false
section
namespace Go.Den
theorem wp_seqJ {E : Env} {A B : DCode} {Q : Ex → List PV → St → Prop} {tm : List PV} {st : St} (J : List PV → St → Prop) (h : Wp E A (andThen J Q) tm st) (k : ∀ tm st, J tm st → Wp E B Q tm st) : Wp E (.seq A B) Q tm st := wp_seq (h.mono (andThen_mono k (fun _ _ _ _ h => h)))
end Go.Den
namespace Go.Den.Ch
def Sp (n : Nat) (X : List (List Int)) (s : List (Int × Int)) : Prop := s.length = n ∧ ∀ k < n, (∃ p ∈ X, p.getD k 0 = (s.getD k (0, 0)).1) ∧ (∃ p ∈ X, p.getD k 0 = (s.getD k (0, 0)).2) ∧ ∀ p ∈ X, (s.getD k (0, 0)).1 ≤ p.getD k 0 ∧ p.getD k 0 ≤ (s.getD k (0, 0)).2
theorem updS_getD : ∀ (s : List (Int × Int)) (p : List Int) (k : Nat), s.length = p.length → k < p.length → (updS s p).getD k (0, 0) = (min (s.getD k (0, 0)).1 (p.getD k 0), max (s.getD k (0, 0)).2 (p.getD k 0))
 | [], [], _, _, h => absurd h (by simp)
 | a :: s, n :: p, 0, _, _ => rfl
 | a :: s, n :: p, k + 1, h, hk => by
  simp only [updS, List.getD_cons_succ]
  exact updS_getD s p k (by simpa using h) (by simpa using hk)
theorem sp_one {n : Nat} {p : List Int} (hp : p.length = n) : Sp n [p] (dupS p) := by
 refine ⟨by simp [dupS, hp], fun k hk => ?_⟩
 have e : (dupS p).getD k (0, 0) = (p.getD k 0, p.getD k 0) := by
  rw [List.getD_eq_getElem?_getD, List.getD_eq_getElem?_getD, dupS, List.getElem?_map, List.getElem?_eq_getElem (by omega)]; rfl
 rw [e]
 exact ⟨⟨p, by simp, rfl⟩, ⟨p, by simp, rfl⟩, fun q hq => by rw [List.mem_singleton.1 hq]; exact ⟨Int.le_refl _, Int.le_refl _⟩⟩
theorem sp_step {n : Nat} {X : List (List Int)} {s : List (Int × Int)} {p : List Int} (h : Sp n X s) (hp : p.length = n) : Sp n (X ++ [p]) (updS s p) := by
 have hl := h.1
 refine ⟨by rw [updS_len _ _ (by omega), hp], fun k hk => ?_⟩
 rw [updS_getD s p k (by omega) (by omega)]
 obtain ⟨⟨a, ha, ea⟩, ⟨b, hb, eb⟩, hall⟩ := h.2 k hk
 refine ⟨?_, ?_, fun q hq => ?_⟩
 ·by_cases hm : (s.getD k (0, 0)).1 ≤ p.getD k 0
  ·exact ⟨a, by simp [ha], by simp only; omega⟩
  ·exact ⟨p, by simp, by simp only; omega⟩
 ·by_cases hm : p.getD k 0 ≤ (s.getD k (0, 0)).2
  ·exact ⟨b, by simp [hb], by simp only; omega⟩
  ·exact ⟨p, by simp, by simp only; omega⟩
 ·simp only
  rcases List.mem_append.1 hq with hq | hq
  ·have := hall q hq; omega
  ·rw [List.mem_singleton.1 hq]; omega
theorem sp_fold {n : Nat} : ∀ (Y X : List (List Int)) (s : List (Int × Int)), Sp n X s → (∀ p ∈ Y, p.length = n) → ∃ s', Y.foldl (fun acc p => match acc with | none => some (dupS p) | some s => some (updS s p)) (some s) = some s' ∧ Sp n (X ++ Y) s'
 | [], X, s, h, _ => ⟨s, rfl, by rw [List.append_nil]; exact h⟩
 | p :: Y, X, s, h, hY => by
  obtain ⟨s', e, h'⟩ := sp_fold Y (X ++ [p]) (updS s p) (sp_step h (hY p (by simp))) (fun q hq => hY q (by simp [hq]))
  exact ⟨s', e, by simpa using h'⟩
theorem known_sp {n : Nat} {X : List (List Int)} (hX : ∀ p ∈ X, p.length = n) (h0 : X ≠ []) : ∃ s, knownX X = some s ∧ Sp n X s := by
 cases X with
 | nil => exact absurd rfl h0
 | cons p X =>
  obtain ⟨s', e, h'⟩ := sp_fold X [p] (dupS p) (sp_one (hX p (by simp))) (fun q hq => hX q (by simp [hq]))
  exact ⟨s', e, h'⟩
theorem same_iff {X : List (List Int)} {a b : Nat} : sameG X a b = true ↔ ∀ p ∈ X, p.getD a 0 = p.getD b 0 := by
 simp only [sameG, Bool.not_eq_true', List.any_eq_false, difG, bne_iff_ne, ne_eq, Decidable.not_not]
theorem layersL_snoc (p : List Int) (x : Int) : layersL (p ++ [x]) = max (layersL p) (x + 1) := by simp only [layersL, List.foldl_append, List.foldl_cons, List.foldl_nil]
theorem getD_app {g : List Int} {x : Int} {i n : Nat} (hg : g.length = n) : (g ++ [x]).getD i 0 = if i < n then g.getD i 0 else if i = n then x else 0 := by
 rw [List.getD_eq_getElem?_getD, List.getD_eq_getElem?_getD]
 by_cases h : i < n
 ·rw [if_pos h, List.getElem?_append_left (by omega)]
 ·rw [if_neg h, List.getElem?_append_right (by omega), hg]
  by_cases h2 : i = n
  ·rw [if_pos h2, h2]; simp
  ·rw [if_neg h2]
   rw [List.getElem?_eq_none (by simp; omega)]; rfl
structure Grp (X : List (List Int)) (n : Nat) : Prop where
 rng : ∀ i < n, 0 ≤ (grpT X n).1.getD i 0 ∧ (grpT X n).1.getD i 0 < (grpT X n).2
 lay : layersL (grpT X n).1 = (grpT X n).2
 eq : ∀ i < n, ∀ j < n, (grpT X n).1.getD i 0 = (grpT X n).1.getD j 0 ↔ sameG X i j = true
theorem grp_step {X : List (List Int)} {n : Nat} {x m : Int} (h : Grp X n) (e : grpT X (n + 1) = ((grpT X n).1 ++ [x], m)) (h1 : 0 ≤ x ∧ x < m) (h2 : max (grpT X n).2 (x + 1) = m) (h3 : ∀ i < n, (grpT X n).1.getD i 0 = x ↔ sameG X i n = true) : Grp X (n + 1) := by
 have hl := (grpT_len X n).1
 have hsym : ∀ a b, sameG X a b = true ↔ sameG X b a = true := fun a b => by
  rw [same_iff, same_iff]; exact ⟨fun h p hp => (h p hp).symm, fun h p hp => (h p hp).symm⟩
 constructor
 ·intro i hi
  rw [e]
  simp only
  rw [getD_app hl]
  by_cases hin : i < n
  ·rw [if_pos hin]
   have := h.rng i hin
   omega
  ·rw [if_neg hin, if_pos (by omega)]; exact h1
 ·rw [e]
  simp only
  rw [layersL_snoc, h.lay, h2]
 ·intro i hi j hj
  rw [e]
  simp only
  rw [getD_app hl, getD_app hl]
  by_cases hin : i < n
  ·rw [if_pos hin]
   by_cases hjn : j < n
   ·rw [if_pos hjn]; exact h.eq i hin j hjn
   ·obtain rfl : j = n := by omega
    rw [if_neg hjn, if_pos rfl]; exact h3 i hin
  ·obtain rfl : i = n := by omega
   rw [if_neg hin, if_pos rfl]
   by_cases hjn : j < i
   ·rw [if_pos hjn, hsym, ← h3 j hjn]; exact eq_comm
   ·obtain rfl : j = i := by omega
    rw [if_neg hjn, if_pos rfl]
    rw [same_iff]
    exact ⟨fun _ _ _ => rfl, fun _ => rfl⟩
theorem grp_all (X : List (List Int)) : ∀ n, Grp X n
 | 0 => ⟨fun i hi => absurd hi (by omega), rfl, fun i hi => absurd hi (by omega)⟩
 | n + 1 => by
  have h := grp_all X n
  have hl := grpT_len X n
  have e := grpT_succ X n
  cases hf : (List.range n).find? (sameG X n) with
  | some b =>
   have e2 : grpT X (n + 1) = ((grpT X n).1 ++ [(grpT X n).1.getD b 0], (grpT X n).2) := by rw [e]; unfold grpStep; rw [hf]
   have hb := List.mem_of_find?_eq_some hf
   have hs := List.find?_some hf
   rw [List.mem_range] at hb
   have hr := h.rng b hb
   refine grp_step h e2 hr (by omega) (fun i hi => ?_)
   rw [h.eq i hi b hb, same_iff, same_iff]
   rw [same_iff] at hs
   exact ⟨fun h p hp => (h p hp).trans (hs p hp).symm, fun h p hp => (h p hp).trans (hs p hp)⟩
  | none =>
   have e2 : grpT X (n + 1) = ((grpT X n).1 ++ [(grpT X n).2], (grpT X n).2 + 1) := by rw [e]; unfold grpStep; rw [hf]
   have hn := List.find?_eq_none.1 hf
   refine grp_step h e2 (by omega) (by omega) (fun i hi => ?_)
   have hr := h.rng i hi
   constructor
   ·intro hh; omega
   ·intro hh
    refine absurd ?_ (hn i (List.mem_range.2 hi))
    rw [same_iff] at hh ⊢
    exact fun p hp => (hh p hp).symm
theorem grp_take (X : List (List Int)) (i : Nat) : ∀ n, i ≤ n → (grpT X n).1.take i = (grpT X i).1
 | 0, h => by
  obtain rfl : i = 0 := by omega
  rfl
 | n + 1, h => by
  by_cases hi : i = n + 1
  ·subst hi
   have := (grpT_len X (n + 1)).1
   rw [List.take_of_length_le (by omega)]
  ·rw [← grp_take X i n (by omega), grpT_succ]
   have := (grpT_len X n).1
   unfold grpStep
   split <;> exact List.take_append_of_le_length (by omega)
theorem grp_at (X : List (List Int)) {i n : Nat} (hi : i < n) : (grpT X n).1.getD i 0 ≤ layersL ((grpT X n).1.take i) := by
 have h1 := grp_take X (i + 1) n (by omega)
 have h2 := grp_take X i n (by omega)
 have h3 : (grpT X n).1.getD i 0 = (grpT X (i + 1)).1.getD i 0 := by
  rw [← h1, List.getD_eq_getElem?_getD, List.getD_eq_getElem?_getD, List.getElem?_take, if_pos (by omega)]
 have hl := grpT_len X i
 rw [h2, (grp_all X i).lay, h3, grpT_succ]
 unfold grpStep
 split
 ·rename_i b hf
  have hb := List.mem_of_find?_eq_some hf
  rw [List.mem_range] at hb
  have := (grp_all X i).rng b hb
  simp only
  rw [getD_app hl.1, if_neg (by omega), if_pos rfl]
  omega
 ·simp only
  rw [getD_app hl.1, if_neg (by omega), if_pos rfl]
  omega
theorem below_law {c : CL} (hc : OkL c) {p : List Int} (hp : p ∈ rightsL c) {i j : Nat} (hi : i < c.figs.length) (hj : j < c.figs.length) (h : c.figs[i].rank > c.figs[j].rank ∨ c.figs[i].eve < c.figs[j].eve) : p.getD i 0 ≤ p.getD j 0 := by
 obtain ⟨h1, h2⟩ := mem_rights.1 hp
 obtain ⟨_, _, n0, n1⟩ := fault_none hc h2
 have hl := h1.len
 rw [getD_in (show i < p.length by omega), getD_in (show j < p.length by omega)]
 apply Int.not_lt.1
 intro hlt
 have a0 := n0 j i _ _ _ _ (List.getElem?_eq_getElem (by omega)) (List.getElem?_eq_getElem (by omega)) (List.getElem?_eq_getElem hj) (List.getElem?_eq_getElem hi) hlt
 have a1 := n1 j i _ _ _ _ (List.getElem?_eq_getElem (by omega)) (List.getElem?_eq_getElem (by omega)) (List.getElem?_eq_getElem hj) (List.getElem?_eq_getElem hi) hlt
 simp only [key, if_true, Nat.one_ne_zero, if_false] at a0 a1
 omega
end Go.Den.Ch
end
section
namespace Go.Den.Ch
set_option maxHeartbeats 32000000 in
theorem c7 (c : CL) (F P : PV) (p : List Int) (hF : SlOf 3 encF F c.figs) (hP : SlOf 1 encI P p) (st : St) : Cl EE (.func 7 [] []) [clPV c F, P] st (.ret (.bool true)) st := by
 have hFc := hF.cells
 have hFi := hF.isCell
 have hFs := hF.slen
 have hPs := hP.slen
 refine cl_fn (pr7 · _ _) fn7 2 rfl (by decide) (fun tm hl hg => ?_); have h0 : tg tm 0 = clPV c F := (hg 0 (by decide)); have h1 : tg tm 1 = P := (hg 1 (by decide)); clear hg
 have k24 := c24 c F hF
 cases hA : listB c
 ·refine go (bw4 hl h0 h1 hA) (bw3 k24 c26 fnil) ?_
  refine fnq_flat (results_one (by rw [rdRes_tmp]; simp only [↓reduceIte, go_sem, hl]; first | done | rfl)) (by first | exact Nat.le_refl _ | omega | (simp only [lo_push, lo_setVar]; omega)) (by rfl)
 have hc := OkL.of hA
 have hlen := hc.len
 cases d1 : decide ((p.length : Int) > 8)
 case true =>
  refine go (bw6 hl h0 h1 hA hPs d1) (bw3 k24 c26 fnil) ?_
  refine fnq_flat (results_one (by rw [rdRes_tmp]; simp only [↓reduceIte, go_sem, hl]; first | done | rfl)) (by first | exact Nat.le_refl _ | omega | (simp only [lo_push, lo_setVar]; omega)) (by rfl)
 have hp8 : p.length ≤ 8 := by have := of_decide_eq_false d1; omega
 have k25 := c25 c F P p hF hP (by omega) ⟨hc.d0, hc.d1⟩
 cases hB : packB c p
 ·refine go (bw7 hl h0 h1 hA hPs d1 hB) (bw4 k24 k25 c26 fnil) ?_
  refine fnq_flat (results_one (by rw [rdRes_tmp]; simp only [↓reduceIte, go_sem, hl]; first | done | rfl)) (by first | exact Nat.le_refl _ | omega | (simp only [lo_push, lo_setVar]; omega)) (by rfl)
 have hpl := (OkP.of hB).len
 have k37 := c37 c F P p hF hP hA (by omega)
 refine go (bw7 hl h0 h1 hA hPs d1 hB) (bw3 k24 k25 fnil) ?_
 refine wops_callR rfl rfl (by simp only [↓reduceIte, go_sem, hl]; first | done | rfl) (by simp only [↓reduceIte, go_sem, hl]; exact r39 c F hF _) ?_
 rintro v S1 ⟨K, rfl, hK, hk1⟩
 have q1 := hk1.2
 have q2 := hk1.len
 try simp only [lo_push, len_push] at q1 q2
 have b1 := hk1.hp (l := st.heap.length) (o := .var [iv c.room, iv c.depth, F]) (by simp only [↓reduceIte, go_sem])
 have m1 := hp_lt b1
 refine go (bw7 hl b1 (neL m1) (neA m1) (ltL m1) (ltA m1) m1) fnil ?_
 refine wops_callR rfl rfl (by simp only [↓reduceIte, go_sem, hl]; first | done | rfl) (by simp only [↓reduceIte, go_sem, hl]; exact r40 c F hF _) ?_
 rintro w S2 ⟨G, rfl, hG, hk2⟩
 have q3 := hk2.2
 have q4 := hk2.len
 have b2 := hk2.hp b1
 have m2 := hp_lt b2
 by_cases hX : rightsL c = []
 ·have e1 : knownR c = ([], 7) := by simp [knownR, hA, hX, knownX]
  have e2 : groupsR c = ([], 7) := by simp [groupsR, hA, hX]
  have hi : fitsB c p = false := by
   cases h : fitsB c p with
   | false => rfl
   | true => rw [fits_mem, hX] at h; cases h
  rw [e1, e2]
  refine go (bw10 hl h1 b2 (neL m2) (neA m2) (ltL m2) (ltA m2) m2 zs hi) (bw3 k37 c26 fnil) ?_
  refine fnq_flat (results_one (by rw [rdRes_tmp]; simp only [↓reduceIte, go_sem, hl]; first | done | rfl)) (by first | exact Nat.le_refl _ | omega | (simp only [lo_push, lo_setVar]; omega)) (by rfl)
 obtain ⟨s, es, hsp⟩ := known_sp (X := rightsL c) (n := c.figs.length) (fun q hq => (mem_rights.1 hq).1.len) hX
 have hgr := grp_all (rightsL c) c.figs.length
 have hgt := fun i hi => grp_at (rightsL c) (n := c.figs.length) (i := i) hi
 have hgl := (grpT_len (rightsL c) c.figs.length).1
 have hgl2 := (grpT_len (rightsL c) c.figs.length).2
 have e1 : knownR c = (s, 0) := by simp [knownR, hA, es]
 have e2 : groupsR c = ((grpT (rightsL c) c.figs.length).1, 0) := by simp [groupsR, hA, hX, groupsL]
 rw [e1] at hK ⊢
 rw [e2] at hG ⊢
 have hsr : ∀ i < c.figs.length, 0 ≤ (s.getD i (0, 0)).1 ∧ (s.getD i (0, 0)).1 ≤ (s.getD i (0, 0)).2 ∧ (s.getD i (0, 0)).2 < c.depth := fun i hi => by
  obtain ⟨⟨a, ha, ea⟩, ⟨b, hb, eb⟩, hall⟩ := hsp.2 i hi
  have ra := (mem_rights.1 ha).1
  have rb := (mem_rights.1 hb).1
  have h1 := ra.rng _ (List.getElem_mem (show i < a.length by have := ra.len; omega))
  have h2 := rb.rng _ (List.getElem_mem (show i < b.length by have := rb.len; omega))
  have h3 := hall a ha
  rw [getD_in (show i < a.length by have := ra.len; omega)] at ea h3
  rw [getD_in (show i < b.length by have := rb.len; omega)] at eb
  omega
 have hin : fitsB c p = true → ∀ i < c.figs.length, (s.getD i (0, 0)).1 ≤ p.getD i 0 ∧ p.getD i 0 ≤ (s.getD i (0, 0)).2 := fun h i hi => (hsp.2 i hi).2.2 p (fits_mem.1 h)
 have hse : ∀ i < c.figs.length, ∀ j < c.figs.length, sameG (rightsL c) i j = true → s.getD i (0, 0) = s.getD j (0, 0) ∧ (fitsB c p = true → p.getD i 0 = p.getD j 0) := fun i hi j hj h => by
  rw [same_iff] at h
  obtain ⟨⟨a, ha, ea⟩, ⟨b, hb, eb⟩, hall⟩ := hsp.2 i hi
  obtain ⟨⟨a', ha', ea'⟩, ⟨b', hb', eb'⟩, hall'⟩ := hsp.2 j hj
  refine ⟨Prod.ext ?_ ?_, fun hf => h p (fits_mem.1 hf)⟩
  ·have h1 := (hall' a ha).1; have h2 := h a ha
   have h3 := (hall a' ha').1; have h4 := h a' ha'
   omega
  ·have h1 := (hall' b hb).2; have h2 := h b hb
   have h3 := (hall b' hb').2; have h4 := h b' hb'
   omega
 have hbl : ∀ i, ∀ hi : i < c.figs.length, ∀ j, ∀ hj : j < c.figs.length, (c.figs[i].rank > c.figs[j].rank ∨ c.figs[i].eve < c.figs[j].eve) → (s.getD i (0, 0)).1 ≤ (s.getD j (0, 0)).1 ∧ (s.getD i (0, 0)).2 ≤ (s.getD j (0, 0)).2 := fun i hi j hj h => by
  obtain ⟨⟨a, ha, ea⟩, ⟨b, hb, eb⟩, hall⟩ := hsp.2 i hi
  obtain ⟨⟨a', ha', ea'⟩, ⟨b', hb', eb'⟩, hall'⟩ := hsp.2 j hj
  have h1 := below_law hc ha' hi hj h
  have h2 := below_law hc hb hi hj h
  have h3 := hall a' ha'
  have h4 := hall' b hb
  omega
 have hsl : s.length = c.figs.length := hsp.1
 generalize hgn : (grpT (rightsL c) c.figs.length).1 = g at hG hgr hgt hgl ⊢
 have hgq : ∀ i < c.figs.length, ∀ j < c.figs.length, g.getD i 0 = g.getD j 0 → sameG (rightsL c) i j = true := fun i hi j hj h => (hgr.eq i hi j hj).1 (by rw [hgn]; exact h)
 have hgp : ∀ i < c.figs.length, 0 ≤ g.getD i 0 ∧ g.getD i 0 ≤ 6 := fun i hi => by have := hgr.rng i hi; rw [hgn] at this; omega
 clear hgr hsp hgl2
 have hKs := hK.slen
 have hGs := hG.slen
 have hKs' : K.slen = some c.figs.length := by rw [hKs, hsl]
 have hGs' : G.slen = some c.figs.length := by rw [hGs, hgl]
 clear hKs hGs
 refine go (bw13 hl h1 b2 (neL m2) (neA m2) (ltL m2) (ltA m2) m2 hFs hKs' hGs' zs nne) (bw k37 fnil) ?_
 refine wp_for [11] (fun i vs S => vs = [iv i] ∧ i ≤ c.figs.length ∧ Fr S2.heap.length S2 S) (fun i => c.figs.length - i) ⟨by simp only [↓reduceIte, go_sem, hl]; first | done | rfl, Nat.zero_le _, .refl _ _⟩ ?_
 rintro i tm1 s1 ⟨hv, hi1, hFr⟩ hS
 simp only [List.map_cons, List.map_nil, List.cons.injEq, and_true] at hv
 have hl1 : tm1.length = 241 := (by rw [hS.1]; simp only [put_len, hl]); have i1 : tg tm1 1 = P := (by rw [hS.2 1 (by decide)]; simp only [↓reduceIte, go_sem, hl, h1]); have i2 : tg tm1 2 = .ptr st.heap.length 0 := (by rw [hS.2 2 (by decide)]; simp only [↓reduceIte, go_sem, hl, h1]); have i5 : tg tm1 5 = K := (by rw [hS.2 5 (by decide)]; simp only [↓reduceIte, go_sem, hl, h1]); have i7 : tg tm1 7 = G := (by rw [hS.2 7 (by decide)]; simp only [↓reduceIte, go_sem, hl, h1]); have i9 : tg tm1 9 = .bool (fitsB c p) := (by rw [hS.2 9 (by decide)]; simp only [↓reduceIte, go_sem, hl, h1]); have i10 : tg tm1 10 = iv c.figs.length := (by rw [hS.2 10 (by decide)]; simp only [↓reduceIte, go_sem, hl, h1]); clear hS
 have b3 : hp s1 st.heap.length = some (.var [iv c.room, iv c.depth, F]) := (hFr.old _ m2).trans b2
 have m3 := hp_lt b3
 have w1 := hFr.len
 have w2 := hFr.lo
 have w3 := hFr.up
 refine go (bw3 hl1 hv i10) fnil ?_
 refine ⟨decide ((i : Int) < c.figs.length), by simp only [↓reduceIte, go_sem, hl1], fun hb => ?_, fun hb1 => ?_⟩
 ·refine go hl1 (bw c26 fnil) ?_
  refine fnq_flat (results_one (by rw [rdRes_tmp]; simp only [↓reduceIte, go_sem, hl1]; first | done | rfl)) (by first | exact Nat.le_refl _ | omega | (simp only [lo_push, lo_setVar]; omega)) (by rfl)
 have hlt : i < c.figs.length := by have := of_decide_eq_true hb1; omega
 have hw1 : IntKind.wrap .i64 ((i : Int) + 1) = ((i + 1 : Nat) : Int) := wrap_nat (n := i + 1) (by omega)
 have his : i < s.length := by omega
 have hig : i < g.length := by omega
 have hip : i < p.length := by omega
 refine ⟨by omega, ?_⟩
 refine wp_seqJ (fun tm S => tm.length = 241 ∧ tg tm 1 = P ∧ tg tm 2 = .ptr st.heap.length 0 ∧ tg tm 5 = K ∧ tg tm 7 = G ∧ tg tm 9 = .bool (fitsB c p) ∧ tg tm 10 = iv c.figs.length ∧ tg tm 11 = iv i ∧ S = s1) ?_ ?_
 ·
  have hr := hsr i hlt
  have hge : s.getD i (0, 0) = s[i] := by rw [List.getD_eq_getElem?_getD, List.getElem?_eq_getElem his]; rfl
  rw [hge] at hr
  have hgi := hgp i hlt
  have hgi2 := hgt i hlt
  rw [getD_in hig] at hgi hgi2
  have x1 : decide (s[i].1 < 0) = false := by rw [decide_eq_false_iff_not]; omega
  have x2 : decide (s[i].1 > s[i].2) = false := by rw [decide_eq_false_iff_not]; omega
  have x3 : decide (s[i].2 ≥ c.depth) = false := by rw [decide_eq_false_iff_not]; omega
  have x4 : decide (g[i] < 0) = false := by rw [decide_eq_false_iff_not]; omega
  have x5 : decide (g[i] > layersL (g.take i)) = false := by rw [decide_eq_false_iff_not]; omega
  refine go (bw18 hl1 hv i1 i2 i5 i7 i9 i10 b3 (neL m3) (neA m3) (ltL m3) (ltA m3) m3 x1 x2 x3 x4) fnil ?_
  refine wopsD_slice (n := 0) (m := i) (by first | omega | (simp only [lo_push, lo_setVar, len_push, len_setVar]; omega)) (by simp only [↓reduceIte, go_sem, hl1, hv, i7, x1, x2, x3, x4]; first | done | rfl) (by with_reducible rfl) (by simp only [↓reduceIte, go_sem, hl1, i7]; first | done | rfl) hG (by simp only [bound]; simp only [↓reduceIte, go_sem, hl1, hv]; simp) (by rfl) (Nat.zero_le _) (by omega) (fun G' hG' => ?_)
  simp only [Nat.sub_zero, List.drop_zero] at hG'
  have k29 := c29 G' (g.take i) hG' (by rw [List.length_take]; omega) (fun x hx => by
   obtain ⟨k, hk, rfl⟩ := List.getElem_of_mem (List.mem_of_mem_take hx)
   have := hgp k (by omega)
   rw [getD_in hk] at this
   unfold inI; omega)
  cases hi : fitsB c p
  ·rw [hi] at i9
   refine go (bw19 hl1 hv i1 i2 i5 i7 i9 i10 b3 (neL m3) (neA m3) (ltL m3) (ltA m3) m3 x1 x2 x3 x4 x5) (bw k29 fnil) ?_
   exact ⟨by simp only [↓reduceIte, go_sem, hl1], by simp only [↓reduceIte, go_sem, hl1, i1], by simp only [↓reduceIte, go_sem, hl1, i2], by simp only [↓reduceIte, go_sem, hl1, i5], by simp only [↓reduceIte, go_sem, hl1, i7], by simp only [↓reduceIte, go_sem, hl1, i9], by simp only [↓reduceIte, go_sem, hl1, i10], by simp only [↓reduceIte, go_sem, hl1, hv], rfl⟩
  ·have hpi := hin hi i hlt
   rw [hge, getD_in hip] at hpi
   have x6 : decide (p[i] < s[i].1) = false := by rw [decide_eq_false_iff_not]; omega
   have x7 : decide (p[i] > s[i].2) = false := by rw [decide_eq_false_iff_not]; omega
   rw [hi] at i9
   refine go (bw21 hl1 hv i1 i2 i5 i7 i9 i10 b3 (neL m3) (neA m3) (ltL m3) (ltA m3) m3 x1 x2 x3 x4 x5 x6 x7) (bw k29 fnil) ?_
   exact ⟨by simp only [↓reduceIte, go_sem, hl1], by simp only [↓reduceIte, go_sem, hl1, i1], by simp only [↓reduceIte, go_sem, hl1, i2], by simp only [↓reduceIte, go_sem, hl1, i5], by simp only [↓reduceIte, go_sem, hl1, i7], by simp only [↓reduceIte, go_sem, hl1, i9], by simp only [↓reduceIte, go_sem, hl1, i10], by simp only [↓reduceIte, go_sem, hl1, hv], rfl⟩
 clear i1 i2 i5 i7 i9 i10 hv hl1
 rintro tm1 s1' ⟨hl1, i1, i2, i5, i7, i9, i10, hv, rfl⟩
 refine go hl1 fnil ?_
 refine wp_for [12] (fun j vs S => vs = [iv j] ∧ j ≤ c.figs.length ∧ Fr S2.heap.length S2 S) (fun j => c.figs.length - j) ⟨by simp only [↓reduceIte, go_sem, hl1]; first | done | rfl, Nat.zero_le _, hFr⟩ ?_
 clear b3 m3 w1 w2 w3 hFr
 rintro j tm2 s2 ⟨hv2, hj1, hFr⟩ hS
 simp only [List.map_cons, List.map_nil, List.cons.injEq, and_true] at hv2
 have hl2 : tm2.length = 241 := (by rw [hS.1]; simp only [put_len, hl1]); have j1 : tg tm2 1 = P := (by rw [hS.2 1 (by decide)]; simp only [↓reduceIte, go_sem, hl1, i1, i2, i5, i7, i9, i10, hv]); have j2 : tg tm2 2 = .ptr st.heap.length 0 := (by rw [hS.2 2 (by decide)]; simp only [↓reduceIte, go_sem, hl1, i1, i2, i5, i7, i9, i10, hv]); have j5 : tg tm2 5 = K := (by rw [hS.2 5 (by decide)]; simp only [↓reduceIte, go_sem, hl1, i1, i2, i5, i7, i9, i10, hv]); have j7 : tg tm2 7 = G := (by rw [hS.2 7 (by decide)]; simp only [↓reduceIte, go_sem, hl1, i1, i2, i5, i7, i9, i10, hv]); have j9 : tg tm2 9 = .bool (fitsB c p) := (by rw [hS.2 9 (by decide)]; simp only [↓reduceIte, go_sem, hl1, i1, i2, i5, i7, i9, i10, hv]); have j10 : tg tm2 10 = iv c.figs.length := (by rw [hS.2 10 (by decide)]; simp only [↓reduceIte, go_sem, hl1, i1, i2, i5, i7, i9, i10, hv]); have j11 : tg tm2 11 = iv i := (by rw [hS.2 11 (by decide)]; simp only [↓reduceIte, go_sem, hl1, i1, i2, i5, i7, i9, i10, hv]); clear hS
 have b3 : hp s2 st.heap.length = some (.var [iv c.room, iv c.depth, F]) := (hFr.old _ m2).trans b2
 have m3 := hp_lt b3
 have w1 := hFr.len
 have w2 := hFr.lo
 have w3 := hFr.up
 refine go (bw3 hl2 hv2 j10) fnil ?_
 refine ⟨decide ((j : Int) < c.figs.length), by simp only [↓reduceIte, go_sem, hl2], fun hb => ?_, fun hb2 => ?_⟩
 ·refine go (bw3 hl2 j11 hw1) fnil ?_
  exact ⟨by simp only [↓reduceIte, go_sem, hl2], by omega, hFr⟩
 have hjt : j < c.figs.length := by have := of_decide_eq_true hb2; omega
 have hw2 : IntKind.wrap .i64 ((j : Int) + 1) = ((j + 1 : Nat) : Int) := wrap_nat (n := j + 1) (by omega)
 have hjs : j < s.length := by omega
 have hjg : j < g.length := by omega
 have hjp : j < p.length := by omega
 refine ⟨by omega, ?_⟩
 have hge : s.getD i (0, 0) = s[i] := by rw [List.getD_eq_getElem?_getD, List.getElem?_eq_getElem his]; rfl
 have hgj : s.getD j (0, 0) = s[j] := by rw [List.getD_eq_getElem?_getD, List.getElem?_eq_getElem hjs]; rfl
 refine wp_seqJ (fun tm S => tm.length = 241 ∧ tg tm 2 = .ptr st.heap.length 0 ∧ tg tm 5 = K ∧ tg tm 11 = iv i ∧ tg tm 12 = iv j ∧ S = s2) ?_ ?_
 ·
  cases hx : (g[i] == g[j])
  ·refine go (bw10 hl2 hv2 j1 j2 j5 j7 j9 j10 j11 hx) fnil ?_
   exact ⟨by simp only [↓reduceIte, go_sem, hl2], by simp only [↓reduceIte, go_sem, hl2, j2], by simp only [↓reduceIte, go_sem, hl2, j5], by simp only [↓reduceIte, go_sem, hl2, j11], by simp only [↓reduceIte, go_sem, hl2, hv2], rfl⟩
  ·have hq := hse i hlt j hjt (hgq i hlt j hjt (by rw [getD_in hig, getD_in hjg]; exact beq_iff_eq.1 hx))
   rw [hge, hgj, getD_in hip, getD_in hjp] at hq
   have hy : ([s[i].1, s[i].2] == [s[j].1, s[j].2]) = true := by rw [hq.1]; simp
   cases hi : fitsB c p
   ·rw [hi] at j9
    refine go (bw11 hl2 hv2 j1 j2 j5 j7 j9 j10 j11 hx hy) fnil ?_
    exact ⟨by simp only [↓reduceIte, go_sem, hl2], by simp only [↓reduceIte, go_sem, hl2, j2], by simp only [↓reduceIte, go_sem, hl2, j5], by simp only [↓reduceIte, go_sem, hl2, j11], by simp only [↓reduceIte, go_sem, hl2, hv2], rfl⟩
   ·have hz : (p[i] != p[j]) = false := by rw [hq.2 hi]; simp
    rw [hi] at j9
    refine go (bw12 hl2 hv2 j1 j2 j5 j7 j9 j10 j11 hx hy hz) fnil ?_
    exact ⟨by simp only [↓reduceIte, go_sem, hl2], by simp only [↓reduceIte, go_sem, hl2, j2], by simp only [↓reduceIte, go_sem, hl2, j5], by simp only [↓reduceIte, go_sem, hl2, j11], by simp only [↓reduceIte, go_sem, hl2, hv2], rfl⟩
 clear j1 j2 j5 j7 j9 j10 j11 hv2 hl2
 rintro tm2 s2' ⟨hl2, j2, j5, j11, hv2, rfl⟩
 refine go (bw12 hl2 hv2 j2 j5 j11 b3 (neL m3) (neA m3) (ltL m3) (ltA m3) m3 undef_e) fnil ?_
 refine wopsD_set (v := undef) (l := s2'.heap.length) (ob := .var [iv c.figs[i].size, iv c.figs[i].rank, iv c.figs[i].eve]) (by simp only [lo_push, len_push]; omega) (by simp only [len_push]; omega) rfl rfl (fun rec st3 he hh => by simp only [↓reduceIte, go_sem, hl2, hh, he]) ?_
 refine wopsD_set (v := undef) (l := s2'.heap.length + 1) (ob := .var [iv c.figs[j].size, iv c.figs[j].rank, iv c.figs[j].eve]) (by simp only [lo_push, lo_setVar, len_push, len_setVar]; omega) (by simp only [len_push, len_setVar]; omega) rfl rfl (fun rec st3 he hh => by simp only [↓reduceIte, go_sem, hl2, hh, he]) ?_
 apply wopsD_nil
 refine ⟨?_, ?_⟩
 ·simp only [footOk, List.all_cons, List.all_nil, List.getElem?_cons_zero, List.getElem?_cons_succ, Bool.and_true]
  simp only [footOf]
  simp only [↓reduceIte, go_sem, hl2, j2]
  have hq : ∀ l, clash l Foot.quiet = false := fun _ => rfl
  have hq1 : clash st.heap.length (.st (s2'.heap.length)) = false := by simp [clash]; omega
  have hq2 : clash st.heap.length (.st (s2'.heap.length + 1)) = false := by simp [clash]; omega
  simp only [List.all_cons, List.all_nil, List.getElem?_cons_zero, List.getElem?_cons_succ, hq, hq1, hq2, Bool.not_false, Bool.and_self]
 have hFr2 : ∀ a b, Fr S2.heap.length S2 (setVar (setVar ((s2'.push (.var [iv 0, iv 0, iv 0])).push (.var [iv 0, iv 0, iv 0])) s2'.heap.length a) (s2'.heap.length + 1) b) := fun a b => ((((hFr.push (by omega)).push (by simp only [len_push]; omega)).setVar (by omega)).setVar (by omega))
 have hbq := hbl i hlt j hjt
 rw [hge, hgj] at hbq
 cases y1 : decide (c.figs[i].rank > c.figs[j].rank)
 ·cases y2 : decide (c.figs[i].eve < c.figs[j].eve)
  ·refine go (bw7 hl2 hv2 j5 j11 y1 y2 hw2) fnil ?_
   exact ⟨by simp only [↓reduceIte, go_sem, hl2], by omega, hFr2 _ _⟩
  ·have hb := hbq (.inr (of_decide_eq_true y2))
   have y3 : decide (s[i].1 > s[j].1) = false := by rw [decide_eq_false_iff_not]; omega
   have y4 : decide (s[i].2 > s[j].2) = false := by rw [decide_eq_false_iff_not]; omega
   refine go (bw9 hl2 hv2 j5 j11 y1 y2 y3 y4 hw2) fnil ?_
   exact ⟨by simp only [↓reduceIte, go_sem, hl2], by omega, hFr2 _ _⟩
 ·have hb := hbq (.inl (of_decide_eq_true y1))
  have y3 : decide (s[i].1 > s[j].1) = false := by rw [decide_eq_false_iff_not]; omega
  have y4 : decide (s[i].2 > s[j].2) = false := by rw [decide_eq_false_iff_not]; omega
  refine go (bw8 hl2 hv2 j5 j11 y1 y3 y4 hw2) fnil ?_
  exact ⟨by simp only [↓reduceIte, go_sem, hl2], by omega, hFr2 _ _⟩
end Go.Den.Ch
end

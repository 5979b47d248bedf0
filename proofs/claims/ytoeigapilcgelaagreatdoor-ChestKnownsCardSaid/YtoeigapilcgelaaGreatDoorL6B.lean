/- Part of the proof that for every input the function ChestKnowns returns true and each argument reads as it did. Texts: ChTr, ChSg, ChSh. -/
import Derived.Test.YtoeigapilcgelaaGreatDoorK3Aw
import Derived.Test.YtoeigapilcgelaaGreatDoorK3Ax
set_option linter.unusedSimpArgs false
set_option linter.unusedVariables false
section
namespace Go.Den
theorem wp_seqJ {E : Env} {A B : DCode} {Q : Ex → List PV → St → Prop} {tm : List PV} {st : St} (J : List PV → St → Prop) (h : Wp E A (andThen J Q) tm st) (k : ∀ tm st,J tm st → Wp E B Q tm st) : Wp E (.seq A B) Q tm st := wp_seq (h.mono (andThen_mono k (fun _ _ _ _ h => h)))
end Go.Den
namespace Go.Den.Ch
def Sp (n : Nat) (X : List (List Int)) (s : List (Int × Int)) : Prop := s.length = n ∧ ∀ k < n,(∃ p ∈ X,p.getD k 0 = (s.getD k (0,0)).1) ∧ (∃ p ∈ X,p.getD k 0 = (s.getD k (0,0)).2) ∧ ∀ p ∈ X,(s.getD k (0,0)).1 ≤ p.getD k 0 ∧ p.getD k 0 ≤ (s.getD k (0,0)).2
theorem updS_getD : ∀ (s : List (Int × Int)) (p : List Int) (k : Nat),s.length = p.length → k < p.length → (updS s p).getD k (0,0) = (min (s.getD k (0,0)).1 (p.getD k 0),max (s.getD k (0,0)).2 (p.getD k 0))
 | [],[],_,_,h => absurd h (by simp)
 | a :: s,n :: p,0,_,_ => rfl
 | a :: s,n :: p,k + 1,h,hk => by
  simp only [updS,List.getD_cons_succ]
  exact updS_getD s p k (by simpa using h) (by simpa using hk)
theorem sp_one {n : Nat} {p : List Int} (hp : p.length = n) : Sp n [p] (dupS p) := by
 refine ⟨by simp [dupS,hp],fun k hk => ?_⟩
 have e : (dupS p).getD k (0,0) = (p.getD k 0,p.getD k 0) := by
  rw [List.getD_eq_getElem?_getD,List.getD_eq_getElem?_getD,dupS,List.getElem?_map,List.getElem?_eq_getElem (by omega)];rfl
 rw [e]
 exact ⟨⟨p,by simp,rfl⟩,⟨p,by simp,rfl⟩,fun q hq => by rw [List.mem_singleton.1 hq];exact ⟨Int.le_refl _,Int.le_refl _⟩⟩
theorem sp_step {n : Nat} {X : List (List Int)} {s : List (Int × Int)} {p : List Int} (h : Sp n X s) (hp : p.length = n) : Sp n (X ++ [p]) (updS s p) := by
 have hl := h.1
 refine ⟨by rw [updS_len _ _ (by omega),hp],fun k hk => ?_⟩
 rw [updS_getD s p k (by omega) (by omega)]
 obtain ⟨⟨a,ha,ea⟩,⟨b,hb,eb⟩,hall⟩ := h.2 k hk
 refine ⟨?_,?_,fun q hq => ?_⟩
 ·by_cases hm : (s.getD k (0,0)).1 ≤ p.getD k 0
  ·exact ⟨a,by simp [ha],by simp only;omega⟩
  ·exact ⟨p,by simp,by simp only;omega⟩
 ·by_cases hm : p.getD k 0 ≤ (s.getD k (0,0)).2
  ·exact ⟨b,by simp [hb],by simp only;omega⟩
  ·exact ⟨p,by simp,by simp only;omega⟩
 ·simp only
  rcases List.mem_append.1 hq with hq | hq
  ·have := hall q hq;omega
  ·rw [List.mem_singleton.1 hq];omega
theorem sp_fold {n : Nat} : ∀ (Y X : List (List Int)) (s : List (Int × Int)),Sp n X s → (∀ p ∈ Y,p.length = n) → ∃ s',Y.foldl (fun acc p => match acc with | none => some (dupS p) | some s => some (updS s p)) (some s) = some s' ∧ Sp n (X ++ Y) s'
 | [],X,s,h,_ => ⟨s,rfl,by rw [List.append_nil];exact h⟩
 | p :: Y,X,s,h,hY => by
  obtain ⟨s',e,h'⟩ := sp_fold Y (X ++ [p]) (updS s p) (sp_step h (hY p (by simp))) (fun q hq => hY q (by simp [hq]))
  exact ⟨s',e,by simpa using h'⟩
theorem known_sp {n : Nat} {X : List (List Int)} (hX : ∀ p ∈ X,p.length = n) (h0 : X ≠ []) : ∃ s,knownX X = some s ∧ Sp n X s := by
 cases X with
 | nil => exact absurd rfl h0
 | cons p X =>
  obtain ⟨s',e,h'⟩ := sp_fold X [p] (dupS p) (sp_one (hX p (by simp))) (fun q hq => hX q (by simp [hq]))
  exact ⟨s',e,h'⟩
theorem same_iff {X : List (List Int)} {a b : Nat} : sameG X a b = true ↔ ∀ p ∈ X,p.getD a 0 = p.getD b 0 := by
 simp only [sameG,Bool.not_eq_true',List.any_eq_false,difG,bne_iff_ne,ne_eq,Decidable.not_not]
theorem layersL_snoc (p : List Int) (x : Int) : layersL (p ++ [x]) = max (layersL p) (x + 1) := by simp only [layersL,List.foldl_append,List.foldl_cons,List.foldl_nil]
theorem getD_app {g : List Int} {x : Int} {i n : Nat} (hg : g.length = n) : (g ++ [x]).getD i 0 = if i < n then g.getD i 0 else if i = n then x else 0 := by
 rw [List.getD_eq_getElem?_getD,List.getD_eq_getElem?_getD]
 by_cases h : i < n
 ·rw [if_pos h,List.getElem?_append_left (by omega)]
 ·rw [if_neg h,List.getElem?_append_right (by omega),hg]
  by_cases h2 : i = n
  ·rw [if_pos h2,h2];simp
  ·rw [if_neg h2]
   rw [List.getElem?_eq_none (by simp;omega)];rfl
structure Grp (X : List (List Int)) (n : Nat) : Prop where
 rng : ∀ i < n,0 ≤ (grpT X n).1.getD i 0 ∧ (grpT X n).1.getD i 0 < (grpT X n).2
 lay : layersL (grpT X n).1 = (grpT X n).2
 eq : ∀ i < n,∀ j < n,(grpT X n).1.getD i 0 = (grpT X n).1.getD j 0 ↔ sameG X i j = true
theorem grp_step {X : List (List Int)} {n : Nat} {x m : Int} (h : Grp X n) (e : grpT X (n + 1) = ((grpT X n).1 ++ [x],m)) (h1 : 0 ≤ x ∧ x < m) (h2 : max (grpT X n).2 (x + 1) = m) (h3 : ∀ i < n,(grpT X n).1.getD i 0 = x ↔ sameG X i n = true) : Grp X (n + 1) := by
 have hl := (grpT_len X n).1
 have hsym : ∀ a b,sameG X a b = true ↔ sameG X b a = true := fun a b => by
  rw [same_iff,same_iff];exact ⟨fun h p hp => (h p hp).symm,fun h p hp => (h p hp).symm⟩
 constructor
 ·intro i hi
  rw [e]
  simp only
  rw [getD_app hl]
  by_cases hin : i < n
  ·rw [if_pos hin]
   have := h.rng i hin
   omega
  ·rw [if_neg hin,if_pos (by omega)];exact h1
 ·rw [e]
  simp only
  rw [layersL_snoc,h.lay,h2]
 ·intro i hi j hj
  rw [e]
  simp only
  rw [getD_app hl,getD_app hl]
  by_cases hin : i < n
  ·rw [if_pos hin]
   by_cases hjn : j < n
   ·rw [if_pos hjn];exact h.eq i hin j hjn
   ·obtain rfl : j = n := by omega
    rw [if_neg hjn,if_pos rfl];exact h3 i hin
  ·obtain rfl : i = n := by omega
   rw [if_neg hin,if_pos rfl]
   by_cases hjn : j < i
   ·rw [if_pos hjn,hsym,← h3 j hjn];exact eq_comm
   ·obtain rfl : j = i := by omega
    rw [if_neg hjn,if_pos rfl]
    rw [same_iff]
    exact ⟨fun _ _ _ => rfl,fun _ => rfl⟩
theorem grp_all (X : List (List Int)) : ∀ n,Grp X n
 | 0 => ⟨fun i hi => absurd hi (by omega),rfl,fun i hi => absurd hi (by omega)⟩
 | n + 1 => by
  have h := grp_all X n
  have hl := grpT_len X n
  have e := grpT_succ X n
  cases hf : (List.range n).find? (sameG X n) with
  | some b =>
   have e2 : grpT X (n + 1) = ((grpT X n).1 ++ [(grpT X n).1.getD b 0],(grpT X n).2) := by rw [e];unfold grpStep;rw [hf]
   have hb := List.mem_of_find?_eq_some hf
   have hs := List.find?_some hf
   rw [List.mem_range] at hb
   have hr := h.rng b hb
   refine grp_step h e2 hr (by omega) (fun i hi => ?_)
   rw [h.eq i hi b hb,same_iff,same_iff]
   rw [same_iff] at hs
   exact ⟨fun h p hp => (h p hp).trans (hs p hp).symm,fun h p hp => (h p hp).trans (hs p hp)⟩
  | none =>
   have e2 : grpT X (n + 1) = ((grpT X n).1 ++ [(grpT X n).2],(grpT X n).2 + 1) := by rw [e];unfold grpStep;rw [hf]
   have hn := List.find?_eq_none.1 hf
   refine grp_step h e2 (by omega) (by omega) (fun i hi => ?_)
   have hr := h.rng i hi
   constructor
   ·intro hh;omega
   ·intro hh
    refine absurd ?_ (hn i (List.mem_range.2 hi))
    rw [same_iff] at hh ⊢
    exact fun p hp => (hh p hp).symm
theorem grp_take (X : List (List Int)) (i : Nat) : ∀ n,i ≤ n → (grpT X n).1.take i = (grpT X i).1
 | 0,h => by
  obtain rfl : i = 0 := by omega
  rfl
 | n + 1,h => by
  by_cases hi : i = n + 1
  ·subst hi
   have := (grpT_len X (n + 1)).1
   rw [List.take_of_length_le (by omega)]
  ·rw [← grp_take X i n (by omega),grpT_succ]
   have := (grpT_len X n).1
   unfold grpStep
   split <;> exact List.take_append_of_le_length (by omega)
theorem grp_at (X : List (List Int)) {i n : Nat} (hi : i < n) : (grpT X n).1.getD i 0 ≤ layersL ((grpT X n).1.take i) := by
 have h1 := grp_take X (i + 1) n (by omega)
 have h2 := grp_take X i n (by omega)
 have h3 : (grpT X n).1.getD i 0 = (grpT X (i + 1)).1.getD i 0 := by
  rw [← h1,List.getD_eq_getElem?_getD,List.getD_eq_getElem?_getD,List.getElem?_take,if_pos (by omega)]
 have hl := grpT_len X i
 rw [h2,(grp_all X i).lay,h3,grpT_succ]
 unfold grpStep
 split
 ·rename_i b hf
  have hb := List.mem_of_find?_eq_some hf
  rw [List.mem_range] at hb
  have := (grp_all X i).rng b hb
  simp only
  rw [getD_app hl.1,if_neg (by omega),if_pos rfl]
  omega
 ·simp only
  rw [getD_app hl.1,if_neg (by omega),if_pos rfl]
  omega
theorem below_law {c : CL} (hc : OkL c) {p : List Int} (hp : p ∈ rightsL c) {i j : Nat} (hi : i < c.figs.length) (hj : j < c.figs.length) (h : c.figs[i].rank > c.figs[j].rank ∨ c.figs[i].eve < c.figs[j].eve) : p.getD i 0 ≤ p.getD j 0 := by
 obtain ⟨h1,h2⟩ := mem_rights.1 hp
 obtain ⟨_,_,n0,n1⟩ := fault_none hc h2
 have hl := h1.len
 rw [getD_in (show i < p.length by omega),getD_in (show j < p.length by omega)]
 apply Int.not_lt.1
 intro hlt
 have a0 := n0 j i _ _ _ _ (List.getElem?_eq_getElem (by omega)) (List.getElem?_eq_getElem (by omega)) (List.getElem?_eq_getElem hj) (List.getElem?_eq_getElem hi) hlt
 have a1 := n1 j i _ _ _ _ (List.getElem?_eq_getElem (by omega)) (List.getElem?_eq_getElem (by omega)) (List.getElem?_eq_getElem hj) (List.getElem?_eq_getElem hi) hlt
 simp only [key,if_true,Nat.one_ne_zero,if_false] at a0 a1
 omega
end Go.Den.Ch
end
section
namespace Go.Den.Ch
def spanC (X : List (List Int)) (k i : Nat) : Int × Int := (X.take i).foldl (fun s p => (min s.1 (p.getD k 0),max s.2 (p.getD k 0))) ((X.getD 0 []).getD k 0,(X.getD 0 []).getD k 0)
theorem spanC_succ (X : List (List Int)) (k : Nat) {i : Nat} (h : i < X.length) : spanC X k (i + 1) = (min (spanC X k i).1 (X[i].getD k 0),max (spanC X k i).2 (X[i].getD k 0)) := by
 unfold spanC
 rw [List.take_succ_eq_append_getElem h,List.foldl_append];rfl
def spansL (X : List (List Int)) (n m i : Nat) : List (Int × Int) := (List.range m).map fun k => spanC X k i
theorem known_spans {X : List (List Int)} {n : Nat} (hX : ∀ p ∈ X,p.length = n) : ∀ i,i + 1 ≤ X.length → knownX (X.take (i + 1)) = some (spansL X n n (i + 1))
 | 0,h => by
  have h0 : 0 < X.length := by omega
  have e : knownX (X.take 0) = none := by simp [knownX]
  rw [knownX_take X h0,e]
  have hl := hX _ (List.getElem_mem h0)
  have g0 : X.getD 0 [] = X[0] := by rw [List.getD_eq_getElem?_getD,List.getElem?_eq_getElem h0];rfl
  simp only [Option.some.injEq]
  refine List.ext_getElem (by simp [dupS,spansL,hl]) fun k h1 h2 => ?_
  have hk : k < X[0].length := by simpa [dupS] using h1
  simp only [dupS,List.getElem_map,spansL,List.getElem_range]
  rw [spanC_succ X k h0]
  have e2 : spanC X k 0 = (X[0].getD k 0,X[0].getD k 0) := by unfold spanC;rw [g0];rfl
  rw [e2,getD_in hk]
  simp
 | i + 1,h => by
  have h0 : i + 1 < X.length := by omega
  rw [knownX_take X h0,known_spans hX i (by omega)]
  have hl := hX _ (List.getElem_mem h0)
  simp only [Option.some.injEq]
  have hlen : (spansL X n n (i + 1)).length = X[i + 1].length := by simp [spansL,hl]
  refine List.ext_getElem (by rw [updS_len _ _ hlen];simp [spansL,hl]) fun k h1 h2 => ?_
  have hk : k < X[i + 1].length := by rwa [updS_len _ _ hlen] at h1
  have hkn : k < n := by omega
  have e1 := updS_getD (spansL X n n (i + 1)) X[i + 1] k hlen hk
  have e2 : (spansL X n n (i + 1)).getD k (0,0) = spanC X k (i + 1) := by
   rw [List.getD_eq_getElem?_getD,List.getElem?_eq_getElem (by simp [spansL];exact hkn)];simp [spansL]
  rw [e2,List.getD_eq_getElem?_getD,List.getElem?_eq_getElem h1] at e1
  simp only [Option.getD_some] at e1
  rw [e1]
  simp only [spansL,List.getElem_map,List.getElem_range]
  rw [spanC_succ X k h0]
theorem known_eq {X : List (List Int)} {n : Nat} (hX : ∀ p ∈ X,p.length = n) (h0 : 0 < X.length) : knownX X = some (spansL X n n X.length) := by
 have := known_spans hX (X.length - 1) (by omega)
 rw [show X.length - 1 + 1 = X.length by omega,List.take_length] at this
 exact this
theorem spansL_succ (X : List (List Int)) (n m i : Nat) : spansL X n (m + 1) i = spansL X n m i ++ [spanC X m i] := by
 simp only [spansL,List.range_succ,List.map_append,List.map_cons,List.map_nil]
set_option maxHeartbeats 8000000 in
theorem c42 (c : CL) (F V : PV) (X : List (List Int)) (hF : SlOf 3 encF F c.figs) (hV : SlOf 1 encL V X) (hn : c.figs.length ≤ 6) (hX : ∀ p ∈ X,p.length = c.figs.length) (h0X : 0 < X.length) (hXl : X.length < 100000) (st : St) : ClR EE (.func 42 [] []) [clPV c F,V] st (RetS st 2 (spansL X c.figs.length c.figs.length X.length).length ((spansL X c.figs.length c.figs.length X.length).flatMap enc2)) := by
 have hFc := hF.cells
 have hFs := hF.slen
 have hVs := hV.slen
 have ec := fun p => el_cells p
 have ei := fun p => el_isCell p
 have eI : ∀ p : List Int,SlOf 1 encI (elL p) p := el_sl
 refine clr_fn (pr42 · _ _) fn42 2 rfl (by decide) (fun tm hl hg => ?_);have h0 : tg tm 0 = clPV c F := (hg 0 (by decide));have h1 : tg tm 1 = V := (hg 1 (by decide));clear hg
 refine go (bw3 hl h0 h1) fnil ?_
 refine wp_for [6,5] (fun k vs s => ∃ w,vs = [iv k,w] ∧ k ≤ c.figs.length ∧ OwnS (st.heap.length + 1) s 2 w (spansL X c.figs.length k X.length).length ((spansL X c.figs.length k X.length).flatMap enc2) ∧ Fr (st.heap.length + 1) (({ heap := st.heap,lo := st.heap.length } : St).push (.var [iv c.room,iv c.depth,F])) s) (fun k => c.figs.length - k) ⟨_,by simp only [↓reduceIte,go_sem,hl];first | done | rfl,Nat.zero_le _,.nil,.refl _ _⟩ ?_
 rintro k tm1 s1 ⟨w,hv,hk1,hO,hFr⟩ hS
 simp only [List.map_cons,List.map_nil,List.cons.injEq,and_true] at hv
 obtain ⟨hv6,hv5⟩ := hv
 have hl1 : tm1.length = 61 := (by rw [hS.1];simp only [put_len,hl]);have i1 : tg tm1 1 = V := (by rw [hS.2 1 (by decide)];simp only [↓reduceIte,go_sem,hl,h1]);have i2 : tg tm1 2 = .ptr st.heap.length 0 := (by rw [hS.2 2 (by decide)];simp only [↓reduceIte,go_sem,hl,h1]);clear hS
 have b1 : hp s1 st.heap.length = some (.var [iv c.room,iv c.depth,F]) := (hFr.old _ (by omega)).trans (by simp only [↓reduceIte,go_sem])
 have m1 := hp_lt b1
 have w1 := hFr.len
 have w2 := hFr.lo
 have w3 := hFr.up
 simp only [lo_push,len_push] at w1 w2 w3
 refine go (bw10 hl1 hv6 i2 b1 (neL m1) (neA m1) (ltL m1) (ltA m1) m1 hFs) fnil ?_
 refine ⟨decide ((k : Int) < c.figs.length),by simp only [↓reduceIte,go_sem,hl1],fun hb => ?_,fun hb1 => ?_⟩
 ·have hlt := of_decide_eq_false hb
  obtain rfl : k = c.figs.length := by omega
  refine go (bw hl1 hv5) fnil ?_
  exact fnr_ret (results_one (v := w) (by rw [rdRes_tmp];simp only [↓reduceIte,go_sem,hl1])) ((hO.mono (Nat.le_succ _)).finish (by omega) (fun m c hc => by
   simp only [List.mem_flatMap,List.mem_cons,List.not_mem_nil,or_false] at hc
   obtain ⟨a,_,rfl | rfl⟩ := hc <;> rfl))
 have hlt : k < c.figs.length := by have := of_decide_eq_true hb1;omega
 have hw1 : IntKind.wrap .i64 ((k : Int) + 1) = ((k + 1 : Nat) : Int) := wrap_nat (n := k + 1) (by omega)
 have hk0 : k < X[0].length := by rw [hX _ (List.getElem_mem h0X)];exact hlt
 have hsl : (spansL X c.figs.length k X.length).length = k := by simp [spansL]
 refine ⟨by omega,?_⟩
 have eX := el_sl X[0]
 have hge : X[0][k] = X[0].getD k 0 := (getD_in hk0).symm
 have g0 : X.getD 0 [] = X[0] := by rw [List.getD_eq_getElem?_getD,List.getElem?_eq_getElem h0X];rfl
 have s0 : spanC X k 0 = (X[0][k],X[0][k]) := by unfold spanC;rw [g0,hge];rfl
 refine go (bw6 hl1 hv6 i1 ec ei undef_e) fnil ?_
 refine wopsD_set (v := undef) (l := s1.heap.length) (ob := .var [iv X[0][k],iv X[0][k]]) (by simp only [lo_push,len_push];omega) (by simp only [len_push];omega) rfl rfl (fun rec st3 he hh => by simp only [↓reduceIte,go_sem,hl1,hh,he]) ?_
 apply wopsD_nil
 refine ⟨by first | exact footOk_quiet (by rfl) | exact footOk_q (by simp [footOf]),?_⟩
 refine go hl1 fnil ?_
 refine wp_for [8] (fun i vs s => vs = [iv i] ∧ i ≤ X.length ∧ Fr s1.heap.length s1 s ∧ hp s s1.heap.length = some (.var [iv (spanC X k i).1,iv (spanC X k i).2])) (fun i => X.length - i) ⟨by simp only [↓reduceIte,go_sem,hl1];first | done | rfl,Nat.zero_le _,((Fr.refl _ _).push (Nat.le_refl _)).setVar (Nat.le_refl _),by rw [s0];simp only [↓reduceIte,go_sem]⟩ ?_
 rintro i tm2 s2 ⟨hv2,hi,hFr2,b7⟩ hS
 simp only [List.map_cons,List.map_nil,List.cons.injEq,and_true] at hv2
 have hl2 : tm2.length = 61 := (by rw [hS.1];simp only [put_len,hl1]);have j1 : tg tm2 1 = V := (by rw [hS.2 1 (by decide)];simp only [↓reduceIte,go_sem,hl1,i1,hv5,hv6]);have j5 : tg tm2 5 = w := (by rw [hS.2 5 (by decide)];simp only [↓reduceIte,go_sem,hl1,i1,hv5,hv6]);have j6 : tg tm2 6 = iv k := (by rw [hS.2 6 (by decide)];simp only [↓reduceIte,go_sem,hl1,i1,hv5,hv6]);have j7 : tg tm2 7 = .ptr s1.heap.length 0 := (by rw [hS.2 7 (by decide)];simp only [↓reduceIte,go_sem,hl1,i1,hv5,hv6]);clear hS
 have m7 := hp_lt b7
 have x1 := hFr2.len
 have x2 := hFr2.lo
 have x3 := hFr2.up
 refine go (bw4 hl2 hv2 j1 hVs) fnil ?_
 refine ⟨decide ((i : Int) < X.length),by simp only [↓reduceIte,go_sem,hl2],fun hb => ?_,fun hb1 => ?_⟩
 ·have hlt := of_decide_eq_false hb
  obtain rfl : i = X.length := by omega
  have hO2 := hO.hext hFr2.hext
  rw [spansL_succ]
  refine go (bw9 hl2 j5 j7 b7 (neL m7) (neA m7) (ltL m7) (ltA m7) m7) fnil ?_
  refine wops_append (m := st.heap.length + 1) rfl rfl (by simp only [↓reduceIte,go_sem,hl2,j5];first | done | rfl) (by simp only [↓reduceIte,go_sem,hl2];first | done | rfl) hO2.push rfl (by simp only [len_push];omega) (by rfl) (by rfl) (by simp only [maxList];omega) ?_
  intro w' s3 hO' hFr' hk
  refine go (bw3 hl2 j6 hw1) fnil ?_
  exact ⟨w',by simp only [↓reduceIte,go_sem,hl2],by omega,by simpa [share_int] using hO',((hFr.trans (hFr2.mono (by omega))).push (by omega)).trans hFr'⟩
 have hli : i < X.length := by have := of_decide_eq_true hb1;omega
 have hw2 : IntKind.wrap .i64 ((i : Int) + 1) = ((i + 1 : Nat) : Int) := wrap_nat (n := i + 1) (by omega)
 have hki : k < X[i].length := by rw [hX _ (List.getElem_mem hli)];exact hlt
 have eXi := el_sl X[i]
 have hsu := spanC_succ X k hli
 rw [getD_in hki] at hsu
 refine ⟨by omega,?_⟩
 refine go (bw16 hl2 hv2 j1 j6 j7 b7 (neL m7) (neA m7) (ltL m7) (ltA m7) m7 ec ei undef_e @mm2 @mm2') fnil ?_
 refine wopsD_set (v := undef) (l := s1.heap.length) (ob := .var [iv (min (spanC X k i).1 X[i][k]),iv (max (spanC X k i).2 X[i][k])]) (by first | omega | (simp only [lo_push,len_push];omega)) (by first | omega | (simp only [len_push];omega)) rfl rfl (fun rec st3 he hh => by simp only [↓reduceIte,go_sem,hl2,hh,he,j7,b7,neL m7,neA m7,ltL m7,ltA m7,mm2,mm2']) ?_
 apply wopsD_nil
 refine ⟨by first | exact footOk_quiet (by rfl) | exact footOk_q (by simp [footOf]),?_⟩
 refine go (bw3 hl2 hv2 hw2) fnil ?_
 exact ⟨by simp only [↓reduceIte,go_sem,hl2],by omega,hFr2.setVar (Nat.le_refl _),by rw [hsu];simp only [↓reduceIte,go_sem,m7]⟩
end Go.Den.Ch
end
section
namespace Go.Den.Ch
def selT (X : List (List Int)) (k : Nat) : Nat → Int
 | 0 => (grpT X k).2
 | t + 1 => if sameG X (k - 1 - t) k then (grpT X k).1.getD (k - 1 - t) 0 else selT X k t
def eqT (X : List (List Int)) (j k i : Nat) : Bool := (X.take i).all fun p => p.getD j 0 == p.getD k 0
theorem eqT_succ (X : List (List Int)) (j k : Nat) {i : Nat} (h : i < X.length) : eqT X j k (i + 1) = (eqT X j k i && (X[i].getD j 0 == X[i].getD k 0)) := by
 unfold eqT
 rw [List.take_succ_eq_append_getElem h,List.all_append];simp
theorem eqT_all (X : List (List Int)) (j k : Nat) : eqT X j k X.length = sameG X j k := by
 rw [eqT,List.take_length]
 rw [Bool.eq_iff_iff,same_iff,List.all_eq_true]
 exact ⟨fun h p hp => beq_iff_eq.1 (h p hp),fun h p hp => beq_iff_eq.2 (h p hp)⟩
theorem sameG_comm (X : List (List Int)) (a b : Nat) : sameG X a b = sameG X b a := by
 rw [Bool.eq_iff_iff,same_iff,same_iff]
 exact ⟨fun h p hp => (h p hp).symm,fun h p hp => (h p hp).symm⟩
theorem selT_find (X : List (List Int)) (k : Nat) : ∀ t,t ≤ k → selT X k t = match (List.range t).find? (fun u => sameG X k (k - t + u)) with | some u => (grpT X k).1.getD (k - t + u) 0 | none => (grpT X k).2
 | 0,_ => rfl
 | t + 1,h => by
  have ih := selT_find X k t (by omega)
  rw [List.range_succ_eq_map,List.find?_cons]
  have e0 : k - (t + 1) + 0 = k - 1 - t := by omega
  rw [selT,sameG_comm X (k - 1 - t) k,e0]
  cases hs : sameG X k (k - 1 - t) with
  | true => simp [show k - (t + 1) = k - 1 - t by omega]
  | false =>
   simp only [Bool.false_eq_true,if_false]
   rw [ih,List.find?_map]
   have ef : (fun u => sameG X k (k - (t + 1) + u)) ∘ Nat.succ = fun u => sameG X k (k - t + u) := by
    funext u
    simp only [Function.comp,Nat.succ_eq_add_one]
    rw [show k - (t + 1) + (u + 1) = k - t + u by omega]
   rw [ef]
   cases (List.range t).find? (fun u => sameG X k (k - t + u)) with
   | none => rfl
   | some u => simp only [Option.map_some,Nat.succ_eq_add_one];rw [show k - (t + 1) + (u + 1) = k - t + u by omega]
theorem grp_sel (X : List (List Int)) (k : Nat) : grpT X (k + 1) = ((grpT X k).1 ++ [selT X k k],max (grpT X k).2 (selT X k k + 1)) := by
 have h := selT_find X k k (Nat.le_refl _)
 have e : (fun u => sameG X k (k - k + u)) = sameG X k := by funext u;rw [Nat.sub_self,Nat.zero_add]
 rw [e] at h
 rw [grpT_succ]
 unfold grpStep
 cases hf : (List.range k).find? (sameG X k) with
 | some b =>
  rw [hf] at h
  simp only [Nat.sub_self,Nat.zero_add] at h
  have hb := List.mem_of_find?_eq_some hf
  rw [List.mem_range] at hb
  have hr := (grp_all X k).rng b hb
  simp only [h]
  congr 1
  omega
 | none =>
  rw [hf] at h
  simp only at h
  simp only [h]
  congr 1
  omega
theorem selT_bound (X : List (List Int)) (k : Nat) : ∀ t,t ≤ k → 0 ≤ selT X k t ∧ selT X k t ≤ k
 | 0,_ => (grpT_len X k).2
 | t + 1,h => by
  have ih := selT_bound X k t (by omega)
  rw [selT]
  split
  ·have h1 := (grp_all X k).rng (k - 1 - t) (by omega)
   have h2 := (grpT_len X k).2
   omega
  ·exact ih
set_option maxHeartbeats 16000000 in
theorem c43 (c : CL) (F V : PV) (X : List (List Int)) (hF : SlOf 3 encF F c.figs) (hV : SlOf 1 encL V X) (hn : c.figs.length ≤ 6) (hX : ∀ p ∈ X,p.length = c.figs.length) (hXl : X.length < 100000) (st : St) : ClR EE (.func 43 [] []) [clPV c F,V] st (RetS st 1 (grpT X c.figs.length).1.length ((grpT X c.figs.length).1.flatMap encI)) := by
 have hFc := hF.cells
 have hFs := hF.slen
 have hVs := hV.slen
 have ec := fun p => el_cells p
 have ei := fun p => el_isCell p
 refine clr_fn (pr43 · _ _) fn43 2 rfl (by decide) (fun tm hl hg => ?_);have h0 : tg tm 0 = clPV c F := (hg 0 (by decide));have h1 : tg tm 1 = V := (hg 1 (by decide));clear hg
 refine go (bw3 hl h0 h1) fnil ?_
 refine wp_for [7,6,5] (fun k vs s => ∃ w,vs = [iv k,iv (grpT X k).2,w] ∧ k ≤ c.figs.length ∧ OwnS (st.heap.length + 1) s 1 w (grpT X k).1.length ((grpT X k).1.flatMap encI) ∧ Fr (st.heap.length + 1) (({ heap := st.heap,lo := st.heap.length } : St).push (.var [iv c.room,iv c.depth,F])) s) (fun k => c.figs.length - k) ⟨_,by simp only [↓reduceIte,go_sem,hl];first | done | rfl,Nat.zero_le _,.nil,.refl _ _⟩ ?_
 rintro k tm1 s1 ⟨w,hv,hk1,hO,hFr⟩ hS
 simp only [List.map_cons,List.map_nil,List.cons.injEq,and_true] at hv
 obtain ⟨hv7,hv6,hv5⟩ := hv
 have hl1 : tm1.length = 64 := (by rw [hS.1];simp only [put_len,hl]);have i1 : tg tm1 1 = V := (by rw [hS.2 1 (by decide)];simp only [↓reduceIte,go_sem,hl,h1]);have i2 : tg tm1 2 = .ptr st.heap.length 0 := (by rw [hS.2 2 (by decide)];simp only [↓reduceIte,go_sem,hl,h1]);clear hS
 have b1 : hp s1 st.heap.length = some (.var [iv c.room,iv c.depth,F]) := (hFr.old _ (by omega)).trans (by simp only [↓reduceIte,go_sem])
 have m1 := hp_lt b1
 have w1 := hFr.len
 have w2 := hFr.lo
 have w3 := hFr.up
 simp only [lo_push,len_push] at w1 w2 w3
 refine go (bw10 hl1 hv7 i2 b1 (neL m1) (neA m1) (ltL m1) (ltA m1) m1 hFs) fnil ?_
 refine ⟨decide ((k : Int) < c.figs.length),by simp only [↓reduceIte,go_sem,hl1],fun hb => ?_,fun hb1 => ?_⟩
 ·have hlt := of_decide_eq_false hb
  obtain rfl : k = c.figs.length := by omega
  refine go (bw hl1 hv5) fnil ?_
  exact fnr_ret (results_one (v := w) (by rw [rdRes_tmp];simp only [↓reduceIte,go_sem,hl1])) ((hO.mono (Nat.le_succ _)).finish (by omega) (fun m c hc => encI_low _ m c hc))
 have hlt : k < c.figs.length := by have := of_decide_eq_true hb1;omega
 have hw1 : IntKind.wrap .i64 ((k : Int) + 1) = ((k + 1 : Nat) : Int) := wrap_nat (n := k + 1) (by omega)
 have hwk : IntKind.wrap .i64 ((k : Int) - 1) = (k : Int) - 1 := wrap_in (by unfold inI;omega)
 have hgl := (grpT_len X k).1
 have hW : SlOf 1 encI w (grpT X k).1 := SlOf.of_sl hO.sl rfl rfl (fun _ => rfl)
 refine ⟨by omega,?_⟩
 refine go (bw4 hl1 hv7 hv6 hwk) fnil ?_
 refine wp_for [9,8] (fun t vs s => vs = [iv ((k : Int) - 1 - t),iv (selT X k t)] ∧ t ≤ k ∧ s = s1) (fun t => k - t) ⟨by simp only [↓reduceIte,go_sem,hl1];first | done | rfl | simp [selT],Nat.zero_le _,rfl⟩ ?_
 rintro t tm2 s2 ⟨hv,ht,rfl⟩ hS
 simp only [List.map_cons,List.map_nil,List.cons.injEq,and_true] at hv
 obtain ⟨hv9,hv8⟩ := hv
 have hl2 : tm2.length = 64 := (by rw [hS.1];simp only [put_len,hl1]);have j1 : tg tm2 1 = V := (by rw [hS.2 1 (by decide)];simp only [↓reduceIte,go_sem,hl1,i1,hv5,hv6,hv7]);have j5 : tg tm2 5 = w := (by rw [hS.2 5 (by decide)];simp only [↓reduceIte,go_sem,hl1,i1,hv5,hv6,hv7]);have j6 : tg tm2 6 = iv (grpT X k).2 := (by rw [hS.2 6 (by decide)];simp only [↓reduceIte,go_sem,hl1,i1,hv5,hv6,hv7]);have j7 : tg tm2 7 = iv k := (by rw [hS.2 7 (by decide)];simp only [↓reduceIte,go_sem,hl1,i1,hv5,hv6,hv7]);clear hS
 refine go (bw hl2 hv9) fnil ?_
 refine ⟨decide ((k : Int) - 1 - t ≥ 0),by simp only [↓reduceIte,go_sem,hl2],fun hb => ?_,fun hb1 => ?_⟩
 ·have hlt2 := of_decide_eq_false hb
  obtain rfl : t = k := by omega
  have hsb := selT_bound X t t (Nat.le_refl _)
  have hgb := (grpT_len X t).2
  have hws : IntKind.wrap .i64 (selT X t t + 1) = selT X t t + 1 := wrap_in (by unfold inI;omega)
  have hgs := grp_sel X t
  refine go (bw3 hl2 hv8 j5) fnil ?_
  refine wops_append (m := st.heap.length + 1) rfl rfl (by simp only [↓reduceIte,go_sem,hl2,j5];first | done | rfl) (by simp only [↓reduceIte,go_sem,hl2,hv8];first | done | rfl) hO.push rfl (by simp only [len_push];omega) (by rfl) (by rfl) (by simp only [maxList];omega) ?_
  intro w' s3 hO' hFr' hk
  refine go (bw8 hl2 hv8 j6 j7 hw1 hws @mm2 @mm2') fnil ?_
  exact ⟨w',by rw [hgs];simp only [↓reduceIte,go_sem,hl2],by omega,by rw [hgs];simpa [share_int] using hO',(hFr.push (by omega)).trans hFr'⟩
 have hlt2 : t < k := by have := of_decide_eq_true hb1;omega
 obtain ⟨j,hj⟩ : ∃ j : Nat,j = k - 1 - t := ⟨_,rfl⟩
 have ej : (k : Int) - 1 - t = (j : Int) := by omega
 have ew : IntKind.wrap .i64 ((j : Int) - 1) = (k : Int) - 1 - ((t + 1 : Nat) : Int) := by rw [wrap_in (by unfold inI;omega)];omega
 have hsu : selT X k (t + 1) = if sameG X j k then (grpT X k).1.getD j 0 else selT X k t := by rw [selT,hj]
 rw [ej] at hv9
 refine ⟨by omega,?_⟩
 refine go hl2 fnil ?_
 refine wp_for [11,10] (fun i vs s => vs = [iv i,.bool (eqT X j k i)] ∧ i ≤ X.length ∧ s = s2) (fun i => X.length - i) ⟨by simp only [↓reduceIte,go_sem,hl2];first | done | rfl,Nat.zero_le _,rfl⟩ ?_
 rintro i tm3 s3 ⟨hv,hi,rfl⟩ hS
 simp only [List.map_cons,List.map_nil,List.cons.injEq,and_true] at hv
 obtain ⟨hv11,hv10⟩ := hv
 have hl3 : tm3.length = 64 := (by rw [hS.1];simp only [put_len,hl2]);have k1 : tg tm3 1 = V := (by rw [hS.2 1 (by decide)];simp only [↓reduceIte,go_sem,hl2,j1,j5,j7,hv8,hv9]);have k5 : tg tm3 5 = w := (by rw [hS.2 5 (by decide)];simp only [↓reduceIte,go_sem,hl2,j1,j5,j7,hv8,hv9]);have k7 : tg tm3 7 = iv k := (by rw [hS.2 7 (by decide)];simp only [↓reduceIte,go_sem,hl2,j1,j5,j7,hv8,hv9]);have k8 : tg tm3 8 = iv (selT X k t) := (by rw [hS.2 8 (by decide)];simp only [↓reduceIte,go_sem,hl2,j1,j5,j7,hv8,hv9]);have k9 : tg tm3 9 = iv j := (by rw [hS.2 9 (by decide)];simp only [↓reduceIte,go_sem,hl2,j1,j5,j7,hv8,hv9]);clear hS
 refine go (bw4 hl3 hv11 k1 hVs) fnil ?_
 refine ⟨decide ((i : Int) < X.length),by simp only [↓reduceIte,go_sem,hl3],fun hb => ?_,fun hb1 => ?_⟩
 ·have hlt3 := of_decide_eq_false hb
  obtain rfl : i = X.length := by omega
  rw [eqT_all] at hv10
  have hjg : j < (grpT X k).1.length := by omega
  cases hs : sameG X j k
  ·rw [hs] at hv10 hsu
   simp only [Bool.false_eq_true,if_false] at hsu
   refine go (bw4 hl3 hv10 k9 ew) fnil ?_
   exact ⟨by simp only [↓reduceIte,go_sem,hl3,hsu,k8],by omega,rfl⟩
  ·rw [hs,getD_in hjg] at hsu
   rw [hs] at hv10
   simp only [if_true] at hsu
   refine go (bw5 hl3 hv10 k5 k9 ew) fnil ?_
   exact ⟨by simp only [↓reduceIte,go_sem,hl3,hsu],by omega,rfl⟩
 have hli : i < X.length := by have := of_decide_eq_true hb1;omega
 have hw3 : IntKind.wrap .i64 ((i : Int) + 1) = ((i + 1 : Nat) : Int) := wrap_nat (n := i + 1) (by omega)
 have hpl := hX _ (List.getElem_mem hli)
 have hji : j < X[i].length := by omega
 have hki : k < X[i].length := by omega
 have eXi := el_sl X[i]
 have hes := eqT_succ X j k hli
 rw [getD_in hji,getD_in hki] at hes
 refine ⟨by omega,?_⟩
 cases he : eqT X j k i
 ·rw [he,Bool.false_and] at hes
  rw [he] at hv10
  refine go (bw9 hl3 hv11 hv10 k1 k7 k9 ec ei hw3) fnil ?_
  exact ⟨by simp only [↓reduceIte,go_sem,hl3,hes],by omega,rfl⟩
 ·rw [he,Bool.true_and] at hes
  rw [he] at hv10
  refine go (bw9 hl3 hv11 hv10 k1 k7 k9 ec ei hw3) fnil ?_
  exact ⟨by simp only [↓reduceIte,go_sem,hl3,hes],by omega,rfl⟩
set_option maxHeartbeats 16000000 in
theorem c6 (c : CL) (F : PV) (hF : SlOf 3 encF F c.figs) (st : St) : Cl EE (.func 6 [] []) [clPV c F] st (.ret (.bool true)) st := by
 have hFc := hF.cells
 have hFi := hF.isCell
 have hFs := hF.slen
 have zf : (((2 : Int) != 0) = true) ∧ (((2 : Int) == 2) = true) := ⟨rfl,rfl⟩
 refine cl_fn (pr6 · _ _) fn6 1 rfl (by decide) (fun tm hl hg => ?_);have h0 : tg tm 0 = clPV c F := (hg 0 (by decide));clear hg
 have k30 := c30 c F hF
 cases d0 : decide (c.figs.length ≤ 8)
 ·refine go (bw3 hl h0 d0) (bw3 k30 c26 fnil) ?_
  refine fnq_flat (results_one (by rw [rdRes_tmp];simp only [↓reduceIte,go_sem,hl];first | done | rfl)) (by first | exact Nat.le_refl _ | omega | (simp only [lo_push,lo_setVar];omega)) (by rfl)
 have hn8 := of_decide_eq_true d0
 have k33 := c33 c F hF (by omega)
 refine go (bw3 hl h0 d0) (bw k30 fnil) ?_
 refine wops_callR rfl rfl (by simp only [↓reduceIte,go_sem,hl];first | done | rfl) (by simp only [↓reduceIte,go_sem,hl];exact r39 c F hF _) ?_
 rintro v S1 ⟨P,rfl,hP,hK⟩
 have q1 := hK.2
 have q2 := hK.len
 try simp only [lo_push,len_push] at q1 q2
 have b1 := hK.hp (l := st.heap.length) (o := .var [iv c.room,iv c.depth,F]) (by simp only [↓reduceIte,go_sem])
 have m1 := hp_lt b1
 refine go (bw7 hl b1 (neL m1) (neA m1) (ltL m1) (ltA m1) m1) fnil ?_
 refine wops_callR rfl rfl (by simp only [↓reduceIte,go_sem,hl];first | done | rfl) (by simp only [↓reduceIte,go_sem,hl];exact r40 c F hF _) ?_
 rintro w S2 ⟨G,rfl,hG,hK2⟩
 have q3 := hK2.2
 have q4 := hK2.len
 have b2 := hK2.hp b1
 have m2 := hp_lt b2
 have hPs := hP.slen
 have hGs := hG.slen
 have n0 : ((0 : Nat) : Int) = 0 := rfl
 cases hA : listB c
 ·have e1 : knownR c = ([],2) := by simp [knownR,hA]
  have e2 : groupsR c = ([],2) := by simp [groupsR,hA]
  rw [e1] at hPs ⊢
  rw [e2] at hGs ⊢
  have hPs' : P.slen = some 0 := hPs
  have hGs' : G.slen = some 0 := hGs
  refine go (bw13 hl b2 (neL m2) (neA m2) (ltL m2) (ltA m2) m2 hA hPs' hGs' zs zf n0) (bw3 k33 c26 fnil) ?_
  refine fnq_flat (results_one (by rw [rdRes_tmp];simp only [↓reduceIte,go_sem,hl];first | done | rfl)) (by first | exact Nat.le_refl _ | omega | (simp only [lo_push,lo_setVar];omega)) (by rfl)
 have hc := OkL.of hA
 have hlen := hc.len
 have hXl := rightsL_len hc
 have hX : ∀ p ∈ rightsL c,p.length = c.figs.length := fun p hp => (mem_rights.1 hp).1.len
 refine go (bw8 hl b2 (neL m2) (neA m2) (ltL m2) (ltA m2) m2 hA) (bw k33 fnil) ?_
 refine wops_callR rfl rfl (by simp only [↓reduceIte,go_sem,hl];first | done | rfl) (by simp only [↓reduceIte,go_sem,hl];exact r34 c F hF hc _) ?_
 rintro V S3 ⟨hV,hK3⟩
 have q5 := hK3.2
 have q6 := hK3.len
 have b3 := hK3.hp b2
 have m3 := hp_lt b3
 have hVs := hV.slen
 by_cases hX0 : rightsL c = []
 ·have e1 : knownR c = ([],7) := by simp [knownR,hA,hX0,knownX]
  have e2 : groupsR c = ([],7) := by simp [groupsR,hA,hX0]
  rw [e1] at hPs ⊢
  rw [e2] at hGs ⊢
  have hPs' : P.slen = some 0 := hPs
  have hGs' : G.slen = some 0 := hGs
  have hVs' : V.slen = some 0 := by rw [hVs,hX0];rfl
  refine go (bw6 hl hVs' hPs' hGs' zs n0) (bw c26 fnil) ?_
  refine fnq_flat (results_one (by rw [rdRes_tmp];simp only [↓reduceIte,go_sem,hl];first | done | rfl)) (by first | exact Nat.le_refl _ | omega | (simp only [lo_push,lo_setVar];omega)) (by rfl)
 have h0X : 0 < (rightsL c).length := List.length_pos_iff.2 hX0
 have ek := known_eq (n := c.figs.length) hX h0X
 have e1 : knownR c = (spansL (rightsL c) c.figs.length c.figs.length (rightsL c).length,0) := by simp [knownR,hA,ek]
 have e2 : groupsR c = ((grpT (rightsL c) c.figs.length).1,0) := by simp [groupsR,hA,hX0,groupsL]
 rw [e1] at hP ⊢
 rw [e2] at hG ⊢
 have y0 : (((rightsL c).length : Int) == 0) = false := by rw [beq_eq_false_iff_ne];omega
 refine go (bw10 hl hVs y0 zs b3 (neL m3) (neA m3) (ltL m3) (ltA m3) m3) fnil ?_
 refine wops_callR (by simp only [↓reduceIte,go_sem,hl,zs,hFc,hFi];first | done | rfl) (by with_reducible rfl) (by simp only [↓reduceIte,go_sem,hl,zs,hFc,hFi];first | done | rfl) (by simp only [↓reduceIte,go_sem,hl,zs,hFc,hFi];exact c42 c F V (rightsL c) hF hV hlen hX h0X (by omega) _) ?_
 intro u S4 hR4
 have x1 := hR4.lo
 have x2 := hR4.len
 have b4 := hR4.hp b3
 have m4 := hp_lt b4
 have hU : SlOf 2 enc2 u (spansL (rightsL c) c.figs.length c.figs.length (rightsL c).length) := SlOf.of_sl hR4.sl rfl rfl (fun _ => rfl)
 have hsl : (spansL (rightsL c) c.figs.length c.figs.length (rightsL c).length).length = c.figs.length := by simp [spansL]
 have k41 := c41 P u _ _ hP hU (by simp only [hsl];omega)
 rw [beq_self_eq_true] at k41
 refine go (bw8 hl zs b4 (neL m4) (neA m4) (ltL m4) (ltA m4) m4) (bw k41 fnil) ?_
 refine wops_callR (by simp only [↓reduceIte,go_sem,hl,zs,hFc,hFi];first | done | rfl) (by with_reducible rfl) (by simp only [↓reduceIte,go_sem,hl,zs,hFc,hFi];first | done | rfl) (by simp only [↓reduceIte,go_sem,hl,zs,hFc,hFi];exact c43 c F V (rightsL c) hF hV hlen hX (by omega) _) ?_
 intro x S5 hR5
 have x3 := hR5.lo
 have x4 := hR5.len
 have hgl := (grpT_len (rightsL c) c.figs.length).1
 have k36 := c36 G x _ _ hG (slI hR5) (by simp only [hgl];omega)
 rw [beq_self_eq_true] at k36
 refine go (bw hl zs) (bw3 k36 c26 fnil) ?_
 refine fnq_flat (results_one (by rw [rdRes_tmp];simp only [↓reduceIte,go_sem,hl];first | done | rfl)) (by first | exact Nat.le_refl _ | omega | (simp only [lo_push,lo_setVar];omega)) (by rfl)
end Go.Den.Ch
end

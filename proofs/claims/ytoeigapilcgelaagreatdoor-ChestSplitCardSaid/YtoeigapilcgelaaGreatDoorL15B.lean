/- Part of the proof that for every input the function ChestSplit returns true and each argument reads as it did. Texts: ChPs, ChPt, ChPu. -/
import Derived.Test.YtoeigapilcgelaaGreatDoorM2P
set_option linter.unusedSimpArgs false
set_option linter.unusedVariables false
section
namespace Go.Den.Ch
theorem layersL_app (p : List Int) (x : Int) : layersL (p ++ [x]) = max (layersL p) (x + 1) := by simp only [layersL, List.foldl_append, List.foldl_cons, List.foldl_nil]
theorem layersL_ge {p : List Int} {x : Int} (h : x ∈ p) : x < layersL p := by
 have mono : ∀ (p : List Int) (a : Int), a ≤ p.foldl (fun n x => max n (x + 1)) a := by
  intro p
  induction p with
  | nil => intro a; exact Int.le_refl _
  | cons y p ih => intro a; exact Int.le_trans (Int.le_max_left a (y + 1)) (ih _)
 have : ∀ (p : List Int) (a : Int), x ∈ p → x < p.foldl (fun n x => max n (x + 1)) a := by
  intro p
  induction p with
  | nil => intro a h; cases h
  | cons y p ih =>
   intro a h
   rcases List.mem_cons.1 h with rfl | h
   ·have := mono p (max a (x + 1))
    simp only [List.foldl_cons]; omega
   ·exact ih _ h
 exact this p 0 h
def StepOk (c : CL) (l : List Int) (i : Nat) : Prop := 0 ≤ l.getD i 0 ∧ l.getD i 0 ≤ layersL (l.take i) ∧ canB c (ownL (l.take (i + 1)) (l.getD i 0)) = true
theorem take_at {l : List Int} {i : Nat} (h : i < l.length) : l.take (i + 1) = l.take i ++ [l.getD i 0] := by
 rw [List.take_succ_eq_append_getElem h, getD_in h]
theorem mem_chestL {c : CL} {l : List Int} : ∀ (k : Nat) (now : List Int) (many : Nat), layersL now = many → (l ∈ chestL c k now many ↔ l.take now.length = now ∧ l.length = now.length + k ∧ ∀ i, now.length ≤ i → i < l.length → StepOk c l i)
 | 0, now, many, _ => by
  simp only [chestL, List.mem_singleton]
  constructor
  ·rintro rfl
   exact ⟨List.take_length, by omega, fun i h1 h2 => by omega⟩
  ·rintro ⟨h1, h2, _⟩
   rw [← h1, List.take_of_length_le (by omega)]
 | k + 1, now, many, hm => by
  simp only [chestL, List.mem_flatMap, List.mem_range]
  have hlen : ∀ n : Int, (now ++ [n]).length = now.length + 1 := fun n => by simp
  have hmx : ∀ n : Nat, layersL (now ++ [(n : Int)]) = ((max many (n + 1) : Nat) : Int) := fun n => by rw [layersL_app, hm]; omega
  constructor
  ·rintro ⟨n, hn, h⟩
   split at h
   ·rename_i hc
    obtain ⟨h1, h2, h3⟩ := (mem_chestL k _ _ (hmx n)).1 h
    rw [hlen] at h1 h2 h3
    have h4 : l.take now.length = now := by
     have := congrArg (List.take now.length) h1
     rw [List.take_take, List.take_append_of_le_length (Nat.le_refl _), List.take_length] at this
     rwa [show min now.length (now.length + 1) = now.length by omega] at this
    have h5 : l.getD now.length 0 = n := by
     have e := take_at (l := l) (i := now.length) (by omega)
     rw [h1, h4] at e
     have := List.append_cancel_left e
     simpa using this.symm
    refine ⟨h4, by omega, fun i hi1 hi2 => ?_⟩
    by_cases hi : i = now.length
    ·subst hi
     refine ⟨by rw [h5]; omega, by rw [h5, h4, hm]; omega, ?_⟩
     rw [h5, h1]; exact hc
    ·exact h3 i (by omega) hi2
   ·cases h
  ·rintro ⟨h1, h2, h3⟩
   obtain ⟨a1, a2, a3⟩ := h3 now.length (Nat.le_refl _) (by omega)
   have e := take_at (l := l) (i := now.length) (by omega)
   rw [h1] at e a2
   rw [hm] at a2
   rw [e] at a3
   have en : (((l.getD now.length 0).toNat : Nat) : Int) = l.getD now.length 0 := Int.toNat_of_nonneg a1
   refine ⟨(l.getD now.length 0).toNat, by omega, ?_⟩
   rw [en, if_pos a3]
   have hmm := hmx (l.getD now.length 0).toNat
   rw [en] at hmm
   exact (mem_chestL k _ _ hmm).2 ⟨by rw [hlen]; exact e, by rw [hlen]; omega, fun i hi1 hi2 => h3 i (by rw [hlen] at hi1; omega) hi2⟩
theorem chestL_sorted {c : CL} : ∀ (k : Nat) (now : List Int) (many : Nat), layersL now = many → (chestL c k now many).Pairwise (fun a b => bef a b = true)
 | 0, now, many, _ => List.pairwise_singleton _ _
 | k + 1, now, many, hm => by
  have hmx : ∀ n : Nat, layersL (now ++ [(n : Int)]) = ((max many (n + 1) : Nat) : Int) := fun n => by rw [layersL_app, hm]; omega
  refine List.pairwise_flatMap.2 ⟨fun n _ => ?_, List.Pairwise.imp ?_ (List.pairwise_lt_range (n := many + 1))⟩
  ·split
   ·exact chestL_sorted k _ _ (hmx n)
   ·exact List.Pairwise.nil
  ·intro a b hab x hx y hy
   split at hx
   ·split at hy
    ·have h1 := ((mem_chestL k _ _ (hmx a)).1 hx).1
     have h2 := ((mem_chestL k _ _ (hmx b)).1 hy).1
     rw [← List.take_append_drop (now ++ [(a : Int)]).length x, h1, ← List.take_append_drop (now ++ [(b : Int)]).length y, h2]
     simp only [List.append_assoc, List.singleton_append]
     exact bef_lt (by omega)
    ·cases hy
   ·cases hx
structure Valid (c : CL) (l : List Int) : Prop where
 len : l.length = c.figs.length
 rgs : ∀ i < l.length, 0 ≤ l.getD i 0 ∧ l.getD i 0 ≤ layersL (l.take i)
 can : ∀ x, 0 ≤ x → x < layersL l → canB c (ownL l x) = true
theorem ownL_snoc (l : List Int) (y x : Int) : ownL (l ++ [y]) x = ownL l x ++ (if y = x then [(l.length : Int)] else []) := by
 unfold ownL
 rw [List.length_append, List.length_singleton, castL_succ]
 have e1 : ((List.range l.length).filter fun i => (l ++ [y]).getD i 0 == x) = (List.range l.length).filter fun i => l.getD i 0 == x := by
  refine List.filter_congr fun i hi => ?_
  rw [List.mem_range] at hi
  rw [List.getD_eq_getElem?_getD, List.getElem?_append_left hi, ← List.getD_eq_getElem?_getD]
 have e2 : (l ++ [y]).getD l.length 0 = y := by rw [List.getD_eq_getElem?_getD, List.getElem?_append_right (Nat.le_refl _)]; simp
 rw [e1, e2]
 by_cases h : y = x
 ·simp [h]
 ·simp [h]
theorem steps_can {c : CL} {l : List Int} (h : ∀ i < l.length, StepOk c l i) : ∀ i, i ≤ l.length → ∀ x, 0 ≤ x → x < layersL (l.take i) → canB c (ownL (l.take i) x) = true
 | 0, _, x, h0, hx => by
  have : layersL (l.take 0) = 0 := rfl
  omega
 | i + 1, hi, x, h0, hx => by
  obtain ⟨a1, a2, a3⟩ := h i (by omega)
  by_cases hy : l.getD i 0 = x
  ·rw [hy] at a3; exact a3
  ·rw [take_at (show i < l.length by omega)] at hx ⊢
   rw [layersL_app] at hx
   rw [ownL_snoc, if_neg hy, List.append_nil]
   exact steps_can h i (by omega) x h0 (by omega)
theorem valid_iff {c : CL} (hA : listB c = true) {l : List Int} : l ∈ chestsX c ↔ Valid c l := by
 rw [chestsX, mem_chestL _ [] 0 rfl]
 simp only [List.length_nil, List.take_zero, true_and, Nat.zero_add, Nat.zero_le, true_implies]
 constructor
 ·rintro ⟨h1, h2⟩
  refine ⟨h1, fun i hi => ⟨(h2 i hi).1, (h2 i hi).2.1⟩, fun x h0 hx => ?_⟩
  have := steps_can h2 l.length (Nat.le_refl _) x h0 (by rw [List.take_length]; exact hx)
  rwa [List.take_length] at this
 ·intro h
  refine ⟨h.len, fun i hi => ?_⟩
  obtain ⟨a1, a2⟩ := h.rgs i hi
  have hx : l.getD i 0 < layersL l := layersL_ge (by rw [getD_in hi]; exact List.getElem_mem _)
  refine ⟨a1, a2, sub_law (OkL.of hA) (room_pos hA) (ownL_ok _ _ (by rw [List.length_take]; have := h.len; omega)) (ownL_ok l (l.getD i 0) (by have := h.len; omega)) (fun y hy => ?_) (h.can _ a1 hx)⟩
  obtain ⟨k, hk, rfl⟩ := mem_castL hy
  rw [List.mem_filter, List.mem_range, List.length_take] at hk
  refine mem_cast.2 ⟨by omega, ?_⟩
  have e : (l.take (i + 1)).getD k 0 = l.getD k 0 := by rw [List.getD_eq_getElem?_getD, List.getD_eq_getElem?_getD, List.getElem?_take, if_pos (by omega)]
  rw [e] at hk
  exact hk.2
theorem chests_sorted (c : CL) : (chestsX c).Pairwise (fun a b => bef a b = true) := chestL_sorted _ _ _ rfl
def rgsP (l : List Int) (i : Nat) : Bool := decide (0 ≤ l.getD i 0) && decide (l.getD i 0 ≤ layersL (l.take i))
def ownsB (c : CL) (l : List Int) (n : Nat) : Bool := (List.range n).all fun (k : Nat) => canB c (ownL l k)
def splitB (c : CL) (l : List Int) : Bool := decide (l.length = c.figs.length) && ((List.range l.length).all (rgsP l) && ownsB c l (layersL l).toNat)
theorem split_iff {c : CL} {l : List Int} : splitB c l = true ↔ Valid c l := by
 simp only [splitB, ownsB, Bool.and_eq_true, decide_eq_true_eq, List.all_eq_true, List.mem_range, rgsP]
 constructor
 ·rintro ⟨h1, h2, h3⟩
  refine ⟨h1, h2, fun x h0 hx => ?_⟩
  have := h3 x.toNat (by omega)
  rwa [Int.toNat_of_nonneg h0] at this
 ·intro h
  exact ⟨h.len, h.rgs, fun k hk => h.can k (by omega) (by omega)⟩
theorem ownsB_succ (c : CL) (l : List Int) (n : Nat) : ownsB c l (n + 1) = (ownsB c l n && canB c (ownL l n)) := by
 simp only [ownsB, List.range_succ, List.all_append, List.all_cons, List.all_nil, Bool.and_true]
theorem rgs_bound {l : List Int} (h : ∀ i < l.length, rgsP l i = true) : ∀ i, i ≤ l.length → layersL (l.take i) ≤ i
 | 0, _ => Int.le_refl _
 | i + 1, hi => by
  have h1 := h i (by omega)
  simp only [rgsP, Bool.and_eq_true, decide_eq_true_eq] at h1
  have := rgs_bound h i (by omega)
  rw [take_at (show i < l.length by omega), layersL_app]
  omega
theorem rgs_in {l : List Int} {n : Nat} (hn : n ≤ l.length) (h : ∀ i < n, rgsP l i = true) : ∀ x ∈ l.take n, 0 ≤ x ∧ x ≤ n := fun x hx => by
 obtain ⟨i, hi, rfl⟩ := List.getElem_of_mem hx
 rw [List.length_take] at hi
 have h1 := h i (by omega)
 have h2 := rgs_bound (l := l.take n) (fun j hj => by
  rw [List.length_take] at hj
  have := h j (by omega)
  have e : (l.take n).getD j 0 = l.getD j 0 := by rw [List.getD_eq_getElem?_getD, List.getD_eq_getElem?_getD, List.getElem?_take, if_pos (by omega)]
  simp only [rgsP, e, List.take_take, show min j n = j by omega] at this ⊢
  exact this) i (by rw [List.length_take]; omega)
 rw [List.take_take, show min i n = i by omega] at h2
 simp only [rgsP, Bool.and_eq_true, decide_eq_true_eq] at h1
 rw [List.getElem_take]
 rw [getD_in (show i < l.length by omega)] at h1
 omega
set_option maxHeartbeats 4000000 in
theorem r105 (F : PV) (l : List Int) (n : Int) (hF : SlOf 1 encI F l) (hN : l.length < 1000) (st : St) : ClR EE (.func 105 [] []) [F, iv n] st (RetS st 1 (ownL l n).length ((ownL l n).flatMap encI)) := by
 have hFs := hF.slen
 refine clr_fn (pr105 · _ _) fn105 2 rfl (by decide) (fun tm hl hg => ?_); have h0 : tg tm 0 = F := (hg 0 (by decide)); have h1 : tg tm 1 = iv n := (hg 1 (by decide)); clear hg
 refine go (bw3 hl h0 h1) fnil ?_
 refine wp_for [6, 5] (fun i vs s => ∃ v, vs = [iv i, v] ∧ i ≤ l.length ∧ OwnS st.heap.length s 1 v (castL ((List.range i).filter fun k => l.getD k 0 == n)).length ((castL ((List.range i).filter fun k => l.getD k 0 == n)).flatMap encI) ∧ Fr st.heap.length ({ heap := st.heap, lo := st.heap.length } : St) s) (fun i => l.length - i) ⟨_, by simp only [↓reduceIte, go_sem, hl]; first | done | rfl, Nat.zero_le _, .nil, .refl _ _⟩ ?_
 rintro i tm2 st2 ⟨v, hv2, hi, hO, hFr⟩ hS
 simp only [List.map_cons, List.map_nil, List.cons.injEq, and_true] at hv2
 obtain ⟨hv6, hv5⟩ := hv2
 have hl2 : tm2.length = 24 := (by rw [hS.1]; simp only [put_len, hl]); have j0 : tg tm2 0 = F := (by rw [hS.2 0 (by decide)]; simp only [↓reduceIte, go_sem, hl, h0, h1]); have j1 : tg tm2 1 = iv n := (by rw [hS.2 1 (by decide)]; simp only [↓reduceIte, go_sem, hl, h0, h1]); clear hS
 have w1 := hFr.len
 have w2 := hFr.lo
 simp only at w1 w2
 refine go (bw4 hl2 hv6 j0 hFs) fnil ?_
 refine ⟨decide ((i : Int) < l.length), by simp only [↓reduceIte, go_sem, hl2], fun hb => ?_, fun hb1 => ?_⟩
 ·have hlt := of_decide_eq_false hb
  obtain rfl : i = l.length := by omega
  refine go (bw hl2 hv5) fnil ?_
  exact fnr_ret (results_one (v := v) (by rw [rdRes_tmp]; simp only [↓reduceIte, go_sem, hl2])) (hO.finish (by omega) (fun m c hc => encI_low _ m c hc))
 have hlt : i < l.length := by have := of_decide_eq_true hb1; omega
 have hw1 : IntKind.wrap .i64 ((i : Int) + 1) = ((i + 1 : Nat) : Int) := wrap_nat (n := i + 1) (by omega)
 refine ⟨by omega, ?_⟩
 rw [castL_succ]
 have hll := castL_len (fun k => l.getD k 0 == n) i
 rw [getD_in hlt]
 cases hx : (l[i] == n)
 ·refine go (bw7 hl2 j0 j1 hv6 hv5 hx hw1) fnil ?_
  exact ⟨v, by simp only [↓reduceIte, go_sem, hl2, hv5], by omega, by simpa using hO, hFr⟩
 ·refine go (bw6 hl2 j0 j1 hv6 hv5 hx) fnil ?_
  refine wops_append rfl rfl (by simp only [↓reduceIte, go_sem, hl2, hv5]; first | done | rfl) (by simp only [↓reduceIte, go_sem, hl2, hv5]; first | done | rfl) (hO.push) rfl (by first | omega | (simp only [len_push, len_setVar]; omega)) (by rfl) (by rfl) (by simp only [maxList]; omega) ?_
  intro v' st3 hO' hFr' hk
  refine go (bw3 hl2 hv6 hw1) fnil ?_
  exact ⟨v', by simp only [↓reduceIte, go_sem, hl2], by omega, by simpa [share_int] using hO', (hFr.push (by omega)).trans hFr'⟩
def layersW (p : List Int) : Int := p.foldl (fun n x => max n (IntKind.wrap .i64 (x + 1))) 0
theorem layersW_take {p : List Int} {i : Nat} (h : i < p.length) : layersW (p.take (i + 1)) = max (layersW (p.take i)) (IntKind.wrap .i64 (p[i] + 1)) := by
 rw [List.take_succ_eq_append_getElem h, layersW, List.foldl_append]; rfl
theorem layersW_eq {p : List Int} (hb : ∀ x ∈ p, inI (x + 1)) : layersW p = layersL p := by
 unfold layersW layersL
 have : ∀ (p : List Int) (a : Int), (∀ x ∈ p, inI (x + 1)) → p.foldl (fun n x => max n (IntKind.wrap .i64 (x + 1))) a = p.foldl (fun n x => max n (x + 1)) a := by
  intro p
  induction p with
  | nil => intro a _; rfl
  | cons y p ih =>
   intro a h
   simp only [List.foldl_cons]
   rw [wrap_in (h y (by simp)), ih _ (fun x hx => h x (by simp [hx]))]
 exact this p 0 hb
theorem k29w (F : PV) (p : List Int) (hF : SlOf 1 encI F p) (hN : p.length < 1000) (st : St) : Cl EE (.func 29 [] []) [F] st (.ret (iv (layersW p))) st := by
 have hs := hF.slen
 refine cl_fn (pr29 · _ _) fn29 1 rfl (by decide) (fun tm hl hg => ?_); have h0 : tg tm 0 = F := (hg 0 (by decide)); clear hg
 refine go (bw hl h0) fnil ?_
 refine wp_for [4, 3] (fun i vs st' => vs = [iv i, iv (layersW (p.take i))] ∧ i ≤ p.length ∧ st' = { heap := st.heap, lo := st.heap.length }) (fun i => p.length - i) ⟨by simp only [↓reduceIte, go_sem, hl]; first | done | rfl, Nat.zero_le _, rfl⟩ ?_
 rintro i tm1 st1 ⟨hv, hi, rfl⟩ hS
 simp only [List.map_cons, List.map_nil, List.cons.injEq, and_true] at hv
 obtain ⟨hv4, hv3⟩ := hv
 have hl1 : tm1.length = 19 := (by rw [hS.1]; simp only [put_len, hl]); have i0 : tg tm1 0 = F := (by rw [hS.2 0 (by decide)]; simp only [↓reduceIte, go_sem, hl, h0]); clear hS
 refine go (bw4 hl1 hv4 i0 hs) fnil ?_
 refine ⟨decide ((i : Int) < p.length), by simp only [↓reduceIte, go_sem, hl1], fun hb => ?_, fun hb1 => ?_⟩
 ·have hlt := of_decide_eq_false hb
  have hin : i = p.length := by omega
  rw [hin, List.take_length] at hv3
  refine go (bw hl1 hv3) fnil ?_
  refine fnq_flat (results_one (by rw [rdRes_tmp]; simp only [↓reduceIte, go_sem, hl1]; first | done | rfl)) (by first | exact Nat.le_refl _ | omega | (simp only [lo_push, lo_setVar]; omega)) (by rfl)
 ·have hlt : i < p.length := by have := of_decide_eq_true hb1; omega
  have hw1 : IntKind.wrap .i64 ((i : Int) + 1) = ((i + 1 : Nat) : Int) := wrap_nat (n := i + 1) (by omega)
  have hlw := layersW_take hlt
  obtain ⟨w, hw⟩ : ∃ w, IntKind.wrap .i64 (p[i] + 1) = w := ⟨_, rfl⟩
  rw [hw] at hlw
  refine ⟨by omega, ?_⟩
  refine go (bw7 hl1 hv4 hv3 i0 hw hw1 @mm2) fnil ?_
  rw [hlw]
  refine ⟨?_, by omega, rfl⟩
  simp only [↓reduceIte, go_sem, hl1]
end Go.Den.Ch
end
section
namespace Go.Den.Ch
theorem split_no {c : CL} {l : List Int} {i : Nat} (hi : i < l.length) (h : rgsP l i = false) : splitB c l = false := by
 simp only [splitB, Bool.and_eq_false_iff]
 exact .inr (.inl (List.all_eq_false.2 ⟨i, List.mem_range.2 hi, by simp [h]⟩))
set_option maxHeartbeats 16000000 in
theorem c60 (c : CL) (F G : PV) (l : List Int) (hF : SlOf 3 encF F c.figs) (hG : SlOf 1 encI G l) (hA : listB c = true) (hN : l.length < 100) (st : St) : Cl EE (.func 60 [] []) [clPV c F, G] st (.ret (.tuple [.bool (splitB c l), .bool true])) st := by
 have hFc := hF.cells
 have hFi := hF.isCell
 have hFs := hF.slen
 have hGs := hG.slen
 have hlen := (OkL.of hA).len
 refine cl_fn (pr60 · _ _) fn60 2 rfl (by decide) (fun tm hl hg => ?_); have h0 : tg tm 0 = clPV c F := (hg 0 (by decide)); have h1 : tg tm 1 = G := (hg 1 (by decide)); clear hg
 cases d0 : ((l.length : Int) != c.figs.length)
 case true =>
  have e : splitB c l = false := by
   simp only [splitB, Bool.and_eq_false_iff, decide_eq_false_iff_not]
   exact .inl fun h => by rw [h] at d0; simp at d0
  rw [e]
  refine go (bw6 hl h0 h1 hFs hGs d0) fnil ?_
  refine fnq_tuple (results_two (v := .bool false) (u := .bool true) ?_ ?_) (by first | omega | (simp only [lo_push, lo_setVar]; omega)) (by rfl)
  ·rw [rdRes_tmp]; simp only [↓reduceIte, go_sem, hl]
  ·rw [rdRes_tmp]; simp only [↓reduceIte, go_sem, hl]
 have hll : l.length = c.figs.length := by have := bne_eq_false_iff_eq.1 d0; omega
 refine go (bw6 hl h0 h1 hFs hGs d0) fnil ?_
 refine wp_for [6] (fun i vs s => vs = [iv i] ∧ i ≤ l.length ∧ (∀ k < i, rgsP l k = true) ∧ s = ({ heap := st.heap, lo := st.heap.length } : St).push (.var [iv c.room, iv c.depth, F])) (fun i => l.length - i) ⟨by simp only [↓reduceIte, go_sem, hl]; first | done | rfl, Nat.zero_le _, (fun k hk => absurd hk (by omega)), by first | done | rfl⟩ ?_
 rintro i tm1 s1 ⟨hv, hi, hok, rfl⟩ hS
 simp only [List.map_cons, List.map_nil, List.cons.injEq, and_true] at hv
 have hl1 : tm1.length = 60 := (by rw [hS.1]; simp only [put_len, hl]); have i1 : tg tm1 1 = G := (by rw [hS.2 1 (by decide)]; simp only [↓reduceIte, go_sem, hl, h1]); have i2 : tg tm1 2 = .ptr st.heap.length 0 := (by rw [hS.2 2 (by decide)]; simp only [↓reduceIte, go_sem, hl, h1]); clear hS
 refine go (bw4 hl1 hv i1 hGs) fnil ?_
 refine ⟨decide ((i : Int) < l.length), by simp only [↓reduceIte, go_sem, hl1], fun hb => ?_, fun hb1 => ?_⟩
 rotate_left
 ·have hlt : i < l.length := by have := of_decide_eq_true hb1; omega
  have hw1 : IntKind.wrap .i64 ((i : Int) + 1) = ((i + 1 : Nat) : Int) := wrap_nat (n := i + 1) (by omega)
  refine ⟨by omega, ?_⟩
  cases x1 : decide (l[i] < 0)
  case true =>
   rw [split_no hlt (by rw [rgsP, getD_in hlt, Bool.and_eq_false_iff]; have := of_decide_eq_true x1; exact .inl (by rw [decide_eq_false_iff_not]; omega))]
   refine go (bw4 hl1 hv i1 x1) fnil ?_
   refine fnq_tuple (results_two (v := .bool false) (u := .bool true) ?_ ?_) (by first | omega | (simp only [lo_push, lo_setVar]; omega)) (by rfl)
   ·rw [rdRes_tmp]; simp only [↓reduceIte, go_sem, hl1]
   ·rw [rdRes_tmp]; simp only [↓reduceIte, go_sem, hl1]
  refine go (bw4 hl1 hv i1 x1) fnil ?_
  refine wopsD_slice (n := 0) (m := i) (by first | omega | (simp only [lo_push, lo_setVar, len_push, len_setVar]; omega)) (by simp only [↓reduceIte, go_sem, hl1, hv, i1, x1]; first | done | rfl) (by with_reducible rfl) (by simp only [↓reduceIte, go_sem, hl1, i1]; first | done | rfl) hG (by simp only [bound]; simp only [↓reduceIte, go_sem, hl1, hv]; simp) (by rfl) (Nat.zero_le _) (by omega) (fun G' hG' => ?_)
  simp only [Nat.sub_zero, List.drop_zero] at hG'
  have hin := rgs_in (l := l) (n := i) (by omega) hok
  have k29 := c29 G' (l.take i) hG' (by rw [List.length_take]; omega) (fun x hx => by
   have := hin x hx
   unfold inI; omega)
  cases x2 : decide (l[i] > layersL (l.take i))
  ·have hri : rgsP l i = true := by
    rw [rgsP, getD_in hlt, Bool.and_eq_true, decide_eq_true_eq, decide_eq_true_eq]
    have := of_decide_eq_false x1
    have := of_decide_eq_false x2
    omega
   refine go (bw6 hl1 hv i1 x1 x2 hw1) (bw k29 fnil) ?_
   refine ⟨by simp only [↓reduceIte, go_sem, hl1], by omega, fun k hk => ?_, rfl⟩
   by_cases hki : k = i
   ·rw [hki]; exact hri
   ·exact hok k (by omega)
  ·rw [split_no hlt (by rw [rgsP, getD_in hlt, Bool.and_eq_false_iff]; have := of_decide_eq_true x2; exact .inr (by rw [decide_eq_false_iff_not]; omega))]
   refine go (bw5 hl1 hv i1 x1 x2) (bw k29 fnil) ?_
   refine fnq_tuple (results_two (v := .bool false) (u := .bool true) ?_ ?_) (by first | omega | (simp only [lo_push, lo_setVar]; omega)) (by rfl)
   ·rw [rdRes_tmp]; simp only [↓reduceIte, go_sem, hl1]
   ·rw [rdRes_tmp]; simp only [↓reduceIte, go_sem, hl1]
 have hlt := of_decide_eq_false hb
 obtain rfl : i = l.length := by omega
 have hrb := rgs_bound hok l.length (Nat.le_refl _)
 have hrn := rgs_in (l := l) (n := l.length) (Nat.le_refl _) hok
 rw [List.take_length] at hrb hrn
 have hn0 := layersL_nonneg l
 have k29 := c29 G l hG (by omega) (fun x hx => by have := hrn x hx; unfold inI; omega)
 have esp : splitB c l = ownsB c l (layersL l).toNat := by
  have e1 : (List.range l.length).all (rgsP l) = true := List.all_eq_true.2 fun k hk => hok k (List.mem_range.1 hk)
  rw [splitB, e1, decide_eq_true hll, Bool.true_and, Bool.true_and]
 obtain ⟨m, em⟩ : ∃ m : Nat, layersL l = m := ⟨(layersL l).toNat, by omega⟩
 rw [em] at k29 hrb
 rw [esp, em, Int.toNat_natCast]
 clear hv hb hlt hok
 refine go hl1 fnil ?_
 refine wp_for [8, 7] (fun k vs s => vs = [iv k, .bool (ownsB c l k)] ∧ k ≤ m ∧ Fr (st.heap.length + 1) (({ heap := st.heap, lo := st.heap.length } : St).push (.var [iv c.room, iv c.depth, F])) s) (fun k => m - k) ⟨by simp only [↓reduceIte, go_sem, hl1]; first | done | rfl, Nat.zero_le _, .refl _ _⟩ ?_
 rintro k tm2 s2 ⟨hv, hk, hFr⟩ hS
 simp only [List.map_cons, List.map_nil, List.cons.injEq, and_true] at hv
 obtain ⟨hv8, hv7⟩ := hv
 have hl2 : tm2.length = 60 := (by rw [hS.1]; simp only [put_len, hl1]); have j1 : tg tm2 1 = G := (by rw [hS.2 1 (by decide)]; simp only [↓reduceIte, go_sem, hl1, i1, i2]); have j2 : tg tm2 2 = .ptr st.heap.length 0 := (by rw [hS.2 2 (by decide)]; simp only [↓reduceIte, go_sem, hl1, i1, i2]); clear hS
 have b2 : hp s2 st.heap.length = some (.var [iv c.room, iv c.depth, F]) := (hFr.old _ (by omega)).trans (by simp only [↓reduceIte, go_sem])
 have m2 := hp_lt b2
 have w1 := hFr.len
 have w2 := hFr.lo
 have w3 := hFr.up
 simp only [lo_push, len_push] at w1 w2 w3
 refine go (bw3 hl2 hv8 j1) (bw k29 fnil) ?_
 refine ⟨decide ((k : Int) < m), by simp only [↓reduceIte, go_sem, hl2], fun hb => ?_, fun hb1 => ?_⟩
 ·have hlt := of_decide_eq_false hb
  obtain rfl : k = m := by omega
  refine go (bw hl2 hv7) fnil ?_
  refine fnq_tuple (results_two (v := .bool (ownsB c l k)) (u := .bool true) ?_ ?_) (by first | omega | (simp only [lo_push, lo_setVar]; omega)) (by rfl)
  ·rw [rdRes_tmp]; simp only [↓reduceIte, go_sem, hl2]
  ·rw [rdRes_tmp]; simp only [↓reduceIte, go_sem, hl2]
 have hlt : k < m := by have := of_decide_eq_true hb1; omega
 have hw1 : IntKind.wrap .i64 ((k : Int) + 1) = ((k + 1 : Nat) : Int) := wrap_nat (n := k + 1) (by omega)
 have hoo := ownL_ok (n := c.figs.length) l k (by omega)
 have hol := ris_len hoo
 have hsu := ownsB_succ c l k
 refine ⟨by omega, ?_⟩
 refine go (bw10 hl2 hv8 j1 j2 b2 (neL m2) (neA m2) (ltL m2) (ltA m2) m2) fnil ?_
 refine wopsD_callS (by first | omega | (simp only [lo_push, lo_setVar, len_push, len_setVar]; omega)) rfl rfl (by simp only [↓reduceIte, go_sem, hl2]; first | done | rfl) (fun st1 he => by simp only [↓reduceIte, go_sem, hl2]; exact r105 G l k hG (by omega) _) ?_
 intro v s3 hR
 have x1 := hR.lo
 have x2 := hR.len
 have k61 := c61 c F v (ownL l k) hF (slI hR) hA hoo.rng (by omega)
 have hFr3 : Fr (st.heap.length + 1) (({ heap := st.heap, lo := st.heap.length } : St).push (.var [iv c.room, iv c.depth, F])) s3 := by
  refine ⟨by simp only [len_push]; omega, by simp only [lo_push]; omega, fun q hq => ?_, by simp only [lo_push]; omega⟩
  have hy : hp s3 q = hp s2 q := hR.w.hext.2 q (by omega)
  rw [hy]
  exact hFr.old q hq
 cases o1 : ownsB c l k
 ·rw [o1, Bool.false_and] at hsu
  rw [o1] at hv7
  refine go (bw5 hl2 hv8 hv7 hw1 zs) (bw k61 fnil) ?_
  exact ⟨by simp only [↓reduceIte, go_sem, hl2, hsu], by omega, hFr3⟩
 ·rw [o1, Bool.true_and] at hsu
  rw [o1] at hv7
  refine go (bw5 hl2 hv8 hv7 hw1 zs) (bw k61 fnil) ?_
  exact ⟨by simp only [↓reduceIte, go_sem, hl2, hsu], by omega, hFr3⟩
end Go.Den.Ch
end
section
namespace Go.Den.Ch
theorem castR_at {n k : Nat} (h : k < n) : (castL (List.range n)).getD k 0 = k := by
 rw [List.getD_eq_getElem?_getD, castL, List.getElem?_map, List.getElem?_range h]; rfl
theorem castR_len (n : Nat) : (castL (List.range n)).length = n := by simp [castL]
theorem castR_lay : ∀ n : Nat, layersL (castL (List.range n)) = n
 | 0 => rfl
 | n + 1 => by
  have : castL (List.range (n + 1)) = castL (List.range n) ++ [(n : Int)] := by rw [List.range_succ]; simp [castL]
  rw [this, layersL_app, castR_lay n]; omega
theorem castR_take {n i : Nat} (h : i ≤ n) : (castL (List.range n)).take i = castL (List.range i) := by
 rw [castL, ← List.map_take, List.take_range, show min i n = i by omega]; rfl
theorem castR_own {n j : Nat} (h : j < n) : ownL (castL (List.range n)) j = [(j : Int)] := by
 refine rising_ext (castL_ris _ _) (List.pairwise_singleton _ _) fun x => ?_
 rw [List.mem_singleton]
 constructor
 ·intro hx
  obtain ⟨k, hk, rfl⟩ := mem_castL hx
  rw [List.mem_filter, List.mem_range, castR_len, beq_iff_eq] at hk
  rw [castR_at hk.1] at hk
  exact hk.2
 ·rintro rfl
  refine mem_cast.2 ⟨by rw [castR_len]; exact h, ?_⟩
  rw [castR_at h, beq_iff_eq]
def aloneB (c : CL) (n : Nat) : Bool := (List.range n).any fun (k : Nat) => !canB c [(k : Int)]
theorem aloneB_succ (c : CL) (n : Nat) : aloneB c (n + 1) = (aloneB c n || !canB c [(n : Int)]) := by
 simp only [aloneB, List.range_succ, List.any_append, List.any_cons, List.any_nil, Bool.or_false]
theorem zero_own (n : Nat) : ownL (List.replicate n 0) 0 = castL (List.range n) := by
 unfold ownL
 rw [List.length_replicate]
 congr 1
 refine List.filter_eq_self.2 fun k hk => ?_
 rw [List.mem_range] at hk
 rw [List.getD_eq_getElem?_getD, List.getElem?_replicate, if_pos hk]; rfl
theorem zero_valid {c : CL} (h : rightsL c ≠ []) : Valid c (List.replicate c.figs.length 0) ∧ layersL (List.replicate c.figs.length 0) ≤ 1 := by
 have h1 : layersL (List.replicate c.figs.length 0) ≤ 1 := layersL_bound (by omega) (fun x hx => by rw [(List.mem_replicate.1 hx).2]; omega)
 refine ⟨⟨by simp, fun i hi => ?_, fun x h0 hx => ?_⟩, h1⟩
 ·have : (List.replicate c.figs.length (0 : Int)).getD i 0 = 0 := by
   rw [List.length_replicate] at hi
   rw [List.getD_eq_getElem?_getD, List.getElem?_replicate, if_pos hi]; rfl
  rw [this]
  exact ⟨Int.le_refl _, layersL_nonneg _⟩
 ·obtain rfl : x = 0 := by omega
  rw [zero_own, can_iff, part_all]; exact h
theorem one_chest {c : CL} (hA : listB c = true) {l : List Int} (h : Valid c l) (h1 : layersL l ≤ 1) : rightsL c ≠ [] := by
 have hz : ∀ k < l.length, l.getD k 0 = 0 := fun k hk => by
  have h2 := (h.rgs k hk).1
  have h3 : l.getD k 0 < layersL l := layersL_ge (by rw [getD_in hk]; exact List.getElem_mem _)
  omega
 have ho : ownL l 0 = castL (List.range c.figs.length) := by
  unfold ownL
  rw [← h.len]
  congr 1
  refine List.filter_eq_self.2 fun k hk => ?_
  rw [hz k (List.mem_range.1 hk)]; rfl
 have hp := part_all c
 by_cases h0 : 0 < layersL l
 ·have := h.can 0 (Int.le_refl _) h0
  rw [ho, can_iff, hp] at this
  exact this
 ·have hl : l = [] := by
   cases l with
   | nil => rfl
   | cons x l =>
    have h3 := layersL_ge (p := x :: l) (x := x) (by simp)
    have h4 := (h.rgs 0 (by simp)).1
    simp only [List.getD_cons_zero] at h4
    omega
  have hn : c.figs.length = 0 := by rw [← h.len, hl]; rfl
  rw [hn] at hp
  have := can_nil (room_pos hA)
  rw [can_iff] at this
  rw [← hp]; exact this
theorem chests_law {c : CL} (hA : listB c = true) : (chestsR c = ([], 0, 5) ∧ (∀ l, splitB c l = false) ∧ aloneB c c.figs.length = true) ∨ (∃ l, chestsR c = (l, layersL l, 0) ∧ splitB c l = true ∧ Valid c l ∧ (layersL l ≤ 1 ↔ rightsL c ≠ []) ∧ ∀ m, splitB c m = true → layersL l ≤ layersL m ∧ (layersL m = layersL l → bef m l = false)) := by
 cases hb : bestF ltLay (chestsX c) with
 | none =>
  have hX := best_none hb
  have hno : ∀ l, ¬ Valid c l := fun l hv => by
   have := (valid_iff hA).2 hv
   rw [hX] at this; cases this
  refine .inl ⟨by simp [chestsR, hA, hb], fun l => ?_, ?_⟩
  ·cases hs : splitB c l with
   | false => rfl
   | true => exact absurd (split_iff.1 hs) (hno l)
  ·cases ha : aloneB c c.figs.length with
   | true => rfl
   | false =>
    have hall := List.any_eq_false.1 ha
    refine absurd ?_ (hno (castL (List.range c.figs.length)))
    refine ⟨castR_len _, fun i hi => ?_, fun x h0 hx => ?_⟩
    ·rw [castR_len] at hi
     rw [castR_at hi, castR_take (by omega), castR_lay]
     omega
    ·rw [castR_lay] at hx
     obtain ⟨j, rfl⟩ : ∃ j : Nat, x = j := ⟨x.toNat, by omega⟩
     rw [castR_own (by omega)]
     have := hall j (List.mem_range.2 (by omega))
     simpa using this
 | some l =>
  have hm := best_law (m := layersL) (chests_sorted c) hb
  have hv := (valid_iff hA).1 hm.1
  refine .inr ⟨l, by simp [chestsR, hA, hb], split_iff.2 hv, hv, ⟨one_chest hA hv, fun h => ?_⟩, fun m hs => hm.2 m ((valid_iff hA).2 (split_iff.1 hs))⟩
  obtain ⟨h1, h2⟩ := zero_valid h
  have := (hm.2 _ ((valid_iff hA).2 h1)).1
  omega
theorem valid_in {c : CL} {l : List Int} (h : Valid c l) : ∀ x ∈ l, 0 ≤ x ∧ x ≤ l.length := fun x hx => by
 have := rgs_in (l := l) (n := l.length) (Nat.le_refl _) (fun i hi => by
  have := h.rgs i hi
  simp only [rgsP, Bool.and_eq_true, decide_eq_true_eq]; exact this) x (by rw [List.take_length]; exact hx)
 exact this
set_option maxHeartbeats 32000000 in
theorem c15 (c : CL) (F P : PV) (p : List Int) (hF : SlOf 3 encF F c.figs) (hP : SlOf 1 encI P p) (st : St) : Cl EE (.func 15 [] []) [clPV c F, P] st (.ret (.bool true)) st := by
 have hFc := hF.cells
 have hFi := hF.isCell
 have hFs := hF.slen
 have hPs := hP.slen
 refine cl_fn (pr15 · _ _) fn15 2 rfl (by decide) (fun tm hl hg => ?_); have h0 : tg tm 0 = clPV c F := (hg 0 (by decide)); have h1 : tg tm 1 = P := (hg 1 (by decide)); clear hg
 have k24 := c24 c F hF
 cases hA : listB c
 ·refine go (bw4 hl h0 h1 hA) (bw3 k24 c26 fnil) ?_
  refine fnq_flat (results_one (by rw [rdRes_tmp]; simp only [↓reduceIte, go_sem, hl]; first | done | rfl)) (by first | exact Nat.le_refl _ | omega | (simp only [lo_push, lo_setVar]; omega)) (by rfl)
 have hc := OkL.of hA
 have hlen := hc.len
 cases d1 : decide ((p.length : Int) > 8)
 case true =>
  refine go (bw6 hl h0 h1 hA hPs d1) (bw3 k24 c26 fnil) ?_
  refine fnq_flat (results_one (by rw [rdRes_tmp]; simp only [↓reduceIte, go_sem, hl]; first | done | rfl)) (by first | exact Nat.le_refl _ | omega | (simp only [lo_push, lo_setVar]; omega)) (by rfl)
 have hp8 : p.length ≤ 8 := by have := of_decide_eq_false d1; omega
 have k60 := c60 c F P p hF hP hA (by omega)
 refine go (bw6 hl h0 h1 hA hPs d1) (bw k24 fnil) ?_
 refine wops_callR rfl rfl (by simp only [↓reduceIte, go_sem, hl]; first | done | rfl) (by simp only [↓reduceIte, go_sem, hl]; exact r58 c F hF _) ?_
 rintro v S1 ⟨L, rfl, hL, hK⟩
 have q1 := hK.2
 have q2 := hK.len
 try simp only [lo_push, len_push] at q1 q2
 have b1 := hK.hp (l := st.heap.length) (o := .var [iv c.room, iv c.depth, F]) (by simp only [↓reduceIte, go_sem])
 have m1 := hp_lt b1
 refine go (bw8 hl h1 b1 (neL m1) (neA m1) (ltL m1) (ltA m1) m1) (bw k60 fnil) ?_
 refine wops_callR rfl rfl (by simp only [↓reduceIte, go_sem, hl]; first | done | rfl) (by simp only [↓reduceIte, go_sem, hl]; exact r31 c F hF _) ?_
 rintro w S2 ⟨B, rfl, hBs, hK2⟩
 have q3 := hK2.2
 have q4 := hK2.len
 have b2 := hK2.hp b1
 have m2 := hp_lt b2
 rcases chests_law hA with ⟨e, hno, hal⟩ | ⟨l, e, hsp, hv, hone, hmin⟩
 ·have hx : rightsL c = [] := by
   by_cases h : rightsL c = []
   ·exact h
   ·have := split_iff.2 (zero_valid h).1
    rw [hno] at this; cases this
  have eb : (bestR c).2.2 = 5 := by
   rcases best_err hA with h | h
   ·exact absurd hx h.2
   ·exact h.1
  rw [e] at hL ⊢
  rw [eb]
  rw [hno p]
  refine go (bw hl zs) fnil ?_
  refine wp_for [14, 13] (fun i vs s => vs = [iv i, .bool (aloneB c i)] ∧ i ≤ c.figs.length ∧ Fr S2.heap.length S2 s) (fun i => c.figs.length - i) ⟨by simp only [↓reduceIte, go_sem, hl]; first | done | rfl, Nat.zero_le _, .refl _ _⟩ ?_
  rintro i tm1 s1 ⟨hv, hi1, hFr⟩ hS
  simp only [List.map_cons, List.map_nil, List.cons.injEq, and_true] at hv
  obtain ⟨hv14, hv13⟩ := hv
  have hl1 : tm1.length = 144 := (by rw [hS.1]; simp only [put_len, hl]); have i2 : tg tm1 2 = .ptr st.heap.length 0 := (by rw [hS.2 2 (by decide)]; simp only [↓reduceIte, go_sem, hl, h1]); have i8 : tg tm1 8 = .bool false := (by rw [hS.2 8 (by decide)]; simp only [↓reduceIte, go_sem, hl, h1]); clear hS
  have b3 : hp s1 st.heap.length = some (.var [iv c.room, iv c.depth, F]) := (hFr.old _ m2).trans b2
  have m3 := hp_lt b3
  have w1 := hFr.len
  have w2 := hFr.lo
  have w3 := hFr.up
  refine go (bw10 hl1 hv14 i2 b3 (neL m3) (neA m3) (ltL m3) (ltA m3) m3 hFs) fnil ?_
  refine ⟨decide ((i : Int) < c.figs.length), by simp only [↓reduceIte, go_sem, hl1], fun hb => ?_, fun hb1 => ?_⟩
  ·have hlt := of_decide_eq_false hb
   obtain rfl : i = c.figs.length := by omega
   rw [hal] at hv13
   refine go (bw3 hl1 hv13 i8) (bw c26 fnil) ?_
   refine fnq_flat (results_one (by rw [rdRes_tmp]; simp only [↓reduceIte, go_sem, hl1]; first | done | rfl)) (by first | exact Nat.le_refl _ | omega | (simp only [lo_push, lo_setVar]; omega)) (by rfl)
  have hlt : i < c.figs.length := by have := of_decide_eq_true hb1; omega
  have hw1 : IntKind.wrap .i64 ((i : Int) + 1) = ((i + 1 : Nat) : Int) := wrap_nat (n := i + 1) (by omega)
  have hsu := aloneB_succ c i
  have k61 : ∀ (o : Own) (st : St), Cl EE (.func 61 [] []) [clPV c F, .slice o 1 [iv i]] st (.ret (.tuple [.bool (canB c [(i : Int)]), .bool true])) st := fun o st => c61 c F (.slice o 1 [iv i]) [(i : Int)] hF (SlOf.of_sl rfl rfl rfl (fun _ => rfl)) hA (fun x hx => by rw [List.mem_singleton.1 hx]; omega) (by simp) st
  refine ⟨by omega, ?_⟩
  cases o1 : aloneB c i
  ·rw [o1, Bool.false_or] at hsu
   rw [o1] at hv13
   refine go (bw12 hl1 hv14 hv13 i2 b3 (neL m3) (neA m3) (ltL m3) (ltA m3) m3 hw1 zs) (bw k61 fnil) ?_
   exact ⟨by simp only [↓reduceIte, go_sem, hl1, hsu], by omega, hFr.push (by omega)⟩
  ·rw [o1, Bool.true_or] at hsu
   rw [o1] at hv13
   refine go (bw12 hl1 hv14 hv13 i2 b3 (neL m3) (neA m3) (ltL m3) (ltA m3) m3 hw1 zs) (bw k61 fnil) ?_
   exact ⟨by simp only [↓reduceIte, go_sem, hl1, hsu], by omega, hFr.push (by omega)⟩
 ·rw [e] at hL ⊢
  have hin := valid_in hv
  have hll := hv.len
  have k60b := c60 c F L l hF hL hA (by omega)
  rw [hsp] at k60b
  have k29b := c29 L l hL (by omega) (fun x hx => by have := hin x hx; unfold inI; omega)
  have k29p := k29w P p hP (by omega)
  have k38 := c38 P L p l hP hL (by omega)
  have zb : (true == true) = true ∧ (false == false) = true := ⟨rfl, rfl⟩
  obtain ⟨e5, he5, y1⟩ : ∃ e5, (bestR c).2.2 = e5 ∧ ((e5 = 0 ∧ decide (layersL l ≤ 1) = true) ∨ (e5 = 5 ∧ decide (layersL l ≤ 1) = false)) := by
   rcases best_err hA with h | h
   ·exact ⟨0, h.1, .inl ⟨rfl, decide_eq_true (hone.2 h.2)⟩⟩
   ·exact ⟨5, h.1, .inr ⟨rfl, decide_eq_false fun hh => hone.1 hh h.2⟩⟩
  rw [he5]
  rcases y1 with ⟨rfl, y1⟩ | ⟨rfl, y1⟩
  all_goals
   cases hs : splitB c p
   ·refine go (bw13 hl h1 b2 (neL m2) (neA m2) (ltL m2) (ltA m2) m2 zs zb nne hs y1) (bw5 k60b k29b k29p c26 fnil) ?_
    refine fnq_flat (results_one (by rw [rdRes_tmp]; simp only [↓reduceIte, go_sem, hl]; first | done | rfl)) (by first | exact Nat.le_refl _ | omega | (simp only [lo_push, lo_setVar]; omega)) (by rfl)
   ·have hvp := split_iff.1 hs
    have hip := valid_in hvp
    have hpl := hvp.len
    rw [layersW_eq (fun x hx => by have := hip x hx; unfold inI; omega)] at k29p
    obtain ⟨hm1, hm2⟩ := hmin p hs
    cases y2 : decide (layersL p > layersL l)
    ·have heq : layersL p = layersL l := by have := of_decide_eq_false y2; omega
     have hbf := hm2 heq
     have y3 : (layersL p == layersL l) = true := by rw [heq]; simp
     refine go (bw16 hl h1 b2 (neL m2) (neA m2) (ltL m2) (ltA m2) m2 zs zb nne hs y1 y2 y3 hbf) (bw6 k60b k29b k29p k38 c26 fnil) ?_
     refine fnq_flat (results_one (by rw [rdRes_tmp]; simp only [↓reduceIte, go_sem, hl]; first | done | rfl)) (by first | exact Nat.le_refl _ | omega | (simp only [lo_push, lo_setVar]; omega)) (by rfl)
    ·refine go (bw14 hl h1 b2 (neL m2) (neA m2) (ltL m2) (ltA m2) m2 zs zb nne hs y1 y2) (bw5 k60b k29b k29p c26 fnil) ?_
     refine fnq_flat (results_one (by rw [rdRes_tmp]; simp only [↓reduceIte, go_sem, hl]; first | done | rfl)) (by first | exact Nat.le_refl _ | omega | (simp only [lo_push, lo_setVar]; omega)) (by rfl)
end Go.Den.Ch
end

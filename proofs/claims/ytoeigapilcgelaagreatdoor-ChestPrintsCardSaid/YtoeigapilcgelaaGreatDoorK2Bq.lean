/- Part of the proofs of laws of the package chest: the interpreter Den, its soundness, and contracts of the program's functions over it. Texts: ChLa, ChMa, ChMb. -/
import Derived.Test.YtoeigapilcgelaaGreatDoorK2Bp
set_option linter.unusedSimpArgs false
set_option linter.unusedVariables false
section
namespace Go.Den
theorem undef_e : undef = .tuple [] := rfl
end Go.Den
namespace Go.Den.Ch
def sumL (c : CL) (p : List Int) (n : Int) : Int := (layerL c.figs p n).sum
def NoFull (c : CL) (p : List Int) : Prop := ∀ n : Int, 0 ≤ n → n < c.depth → ¬ sumL c p n > c.room
def NoGap (c : CL) (p : List Int) : Prop := ∀ n : Int, 0 ≤ n → n < layersL p → sumL c p n ≠ 0
def NoDis (c : CL) (p : List Int) (i : Nat) : Prop := ∀ (a b : Nat) (x y : Int) (f g : Fig), p[a]? = some x → p[b]? = some y → c.figs[a]? = some f → c.figs[b]? = some g → x < y → ¬ key i f > key i g
theorem sum_zero {l : List Int} (h : ∀ x ∈ l, 1 ≤ x) (hs : l.sum = 0) : l = [] := by
 cases l with
 | nil => rfl
 | cons x l =>
  have h1 := h x (by simp)
  have h2 := (sum_bound (l := l) (b := l.foldl max 0) (by
   have : ∀ (l : List Int) (a : Int), a ≤ l.foldl max a := by
    intro l
    induction l with
    | nil => intro a; exact Int.le_refl _
    | cons y l ih => intro a; exact Int.le_trans (Int.le_max_left a y) (ih _)
   exact this l 0) (fun y hy => ⟨by have := h y (by simp [hy]); omega, by
    have : ∀ (l : List Int) (a : Int), y ∈ l → y ≤ l.foldl max a := by
     intro l
     induction l with
     | nil => intro a h; simp at h
     | cons z l ih =>
      intro a h
      have mono : ∀ (l : List Int) (a : Int), a ≤ l.foldl max a := by
       intro l
       induction l with
       | nil => intro a; exact Int.le_refl _
       | cons y l ih => intro a; exact Int.le_trans (Int.le_max_left a y) (ih _)
      rcases List.mem_cons.1 h with rfl | h
      ·exact Int.le_trans (Int.le_max_right a y) (mono l _)
      ·exact ih _ h
    exact this l 0 hy⟩)).1
  simp only [List.sum_cons] at hs
  omega
theorem fullL_none {c : CL} {p : List Int} (h : fullL c p = none) : NoFull c p := by
 intro n h0 h1 h2
 have := List.findSome?_eq_none_iff.1 h n.toNat (by rw [List.mem_range]; omega)
 have h2' : (layerL c.figs p n).sum > c.room := h2
 rw [Int.toNat_of_nonneg h0, if_pos h2'] at this
 cases this
theorem gapL_none {c : CL} {p : List Int} (hc : OkL c) (h : gapL c p = none) : NoGap c p := by
 intro n h0 h1 h2
 have := List.findSome?_eq_none_iff.1 h n.toNat (by rw [List.mem_range]; omega)
 rw [Int.toNat_of_nonneg h0] at this
 have he : layerL c.figs p n = [] := sum_zero (fun x hx => ((hc.layer p n).2 x hx).1) h2
 rw [he] at this
 simp at this
theorem disA_none {c : CL} {p : List Int} {i : Nat} (h : disA c p i = none) : NoDis c p i := by
 intro a b x y f g ha hb hfa hfb hxy hk
 have hla : a < c.figs.length := (List.getElem?_eq_some_iff.1 hfa).1
 have hlb : b < c.figs.length := (List.getElem?_eq_some_iff.1 hfb).1
 have h1 := List.findSome?_eq_none_iff.1 h a (List.mem_range.2 hla)
 have h2 := List.findSome?_eq_none_iff.1 h1 b (List.mem_range.2 hlb)
 have h3 : brk c p i a b = true := by
  unfold brk
  rw [ha, hb, hfa, hfb]
  simp [hxy, hk]
 rw [h3, if_pos rfl] at h2
 cases h2
theorem dis_none {c : CL} {p : List Int} (h : disorder c p = none) : NoDis c p 0 ∧ NoDis c p 1 :=
 ⟨disA_none (List.findSome?_eq_none_iff.1 h 0 (by simp)), disA_none (List.findSome?_eq_none_iff.1 h 1 (by simp))⟩
theorem fault_none {c : CL} {p : List Int} (hc : OkL c) (h : fault c p = none) : NoFull c p ∧ NoGap c p ∧ NoDis c p 0 ∧ NoDis c p 1 := by
 unfold fault at h
 rw [Option.or_eq_none_iff, Option.or_eq_none_iff] at h
 exact ⟨fullL_none h.1, gapL_none hc h.2.1, dis_none h.2.2⟩
inductive FaultSays (c : CL) (p : List Int) : Flt → Prop
 | full (n : Nat) (h1 : (n : Int) < c.depth) (h2 : sumL c p n > c.room) : FaultSays c p ⟨1, n, 0⟩
 | gap (n : Nat) (h1 : (n : Int) < c.depth) (h2 : (n : Int) < layersL p) (h3 : sumL c p n = 0) (nf : NoFull c p) : FaultSays c p ⟨2, n, 0⟩
 | rank (a b : Nat) (x y : Int) (f g : Fig) (ha : p[a]? = some x) (hb : p[b]? = some y) (hfa : c.figs[a]? = some f) (hfb : c.figs[b]? = some g) (h1 : x < y) (h2 : f.rank < g.rank) (nf : NoFull c p) (ng : NoGap c p) : FaultSays c p ⟨3, a, b⟩
 | eve (a b : Nat) (x y : Int) (f g : Fig) (ha : p[a]? = some x) (hb : p[b]? = some y) (hfa : c.figs[a]? = some f) (hfb : c.figs[b]? = some g) (h1 : x < y) (h2 : f.eve > g.eve) (nf : NoFull c p) (ng : NoGap c p) (nr : NoDis c p 0) : FaultSays c p ⟨4, a, b⟩
end Go.Den.Ch
end
section
namespace Go.Den.Ch
def bef : List Int → List Int → Bool
 | [], [] => false
 | [], _ :: _ => true
 | _ :: _, [] => false
 | a :: l, b :: m => if a = b then bef l m else decide (a < b)
theorem bef_irr : ∀ l, bef l l = false
 | [] => rfl
 | a :: l => by simp only [bef, if_true]; exact bef_irr l
theorem bef_asym : ∀ l m, bef l m = true → bef m l = false
 | [], [], h => by cases h
 | [], _ :: _, _ => rfl
 | _ :: _, [], h => by cases h
 | a :: l, b :: m, h => by
  simp only [bef] at h ⊢
  by_cases e : a = b
  ·subst e; simp only [if_true] at h ⊢; exact bef_asym l m h
  ·rw [if_neg e] at h; rw [if_neg (Ne.symm e)]
   simp only [decide_eq_true_eq, decide_eq_false_iff_not] at *; omega
theorem bef_app (l m n : List Int) : bef (l ++ m) (l ++ n) = bef m n := by
 induction l with
 | nil => rfl
 | cons a l ih => simp only [List.cons_append, bef, if_true, ih]
theorem bef_lt {l m n : List Int} {a b : Int} (h : a < b) : bef (l ++ a :: m) (l ++ b :: n) = true := by
 rw [bef_app, bef, if_neg (by omega)]; simp [h]
theorem dis_of {c : CL} {p : List Int} (h0 : NoDis c p 0) (h1 : NoDis c p 1) : disorder c p = none := by
 refine List.findSome?_eq_none_iff.2 fun i hi => List.findSome?_eq_none_iff.2 fun a _ => List.findSome?_eq_none_iff.2 fun b _ => ?_
 rw [List.mem_range] at hi
 have hn : NoDis c p i := by
  have : i = 0 ∨ i = 1 := by omega
  rcases this with rfl | rfl
  ·exact h0
  ·exact h1
 rw [if_neg]
 intro h
 unfold brk at h
 split at h
 ·rename_i x y f g e1 e2 e3 e4
  simp only [Bool.and_eq_true, decide_eq_true_eq] at h
  exact hn a b x y f g e1 e2 e3 e4 h.1 h.2
 ·cases h
theorem NoDis.take {c : CL} {now t : List Int} {i : Nat} (h : NoDis c (now ++ t) i) : NoDis { c with figs := c.figs.take now.length } now i := by
 intro a b x y f g ha hb hf hg
 have la : a < now.length := (List.getElem?_eq_some_iff.1 ha).1
 have lb : b < now.length := (List.getElem?_eq_some_iff.1 hb).1
 simp only [List.getElem?_take, la, lb, if_true] at hf hg
 exact h a b x y f g (by rw [List.getElem?_append_left la]; exact ha) (by rw [List.getElem?_append_left lb]; exact hb) hf hg
theorem fault_dis {c : CL} {p : List Int} (h : fault c p = none) : disorder c p = none := by
 unfold fault at h
 rw [Option.or_eq_none_iff, Option.or_eq_none_iff] at h
 exact h.2.2
theorem searchL_all {c : CL} : ∀ (k : Nat) (now t : List Int), t.length = k → now.length + k = c.figs.length → (∀ x ∈ t, 0 ≤ x ∧ x < c.depth) → fault c (now ++ t) = none → now ++ t ∈ searchL c k now
 | 0, now, t, ht, _, _, h => by
  obtain rfl := List.eq_nil_of_length_eq_zero ht
  simp only [List.append_nil] at h ⊢
  simp [searchL, h]
 | k + 1, now, x :: t, ht, hk, hx, h => by
  have h1 : now ++ x :: t = (now ++ [x]) ++ t := by simp
  have hx0 := hx x (by simp)
  rw [h1] at h ⊢
  refine List.mem_flatMap.2 ⟨x.toNat, by rw [List.mem_range]; omega, ?_⟩
  rw [Int.toNat_of_nonneg hx0.1]
  have hd := dis_none (fault_dis h)
  have e : (now ++ [x]).length = now.length + 1 := by simp
  have hn := dis_of (NoDis.take hd.1) (NoDis.take hd.2)
  rw [e] at hn
  rw [hn]
  exact searchL_all k (now ++ [x]) t (by simpa using ht) (by simp at e ⊢; omega) (fun y hy => hx y (by simp [hy])) h
theorem mem_rights {c : CL} {p : List Int} : p ∈ rightsL c ↔ OkP c p ∧ fault c p = none :=
 ⟨rightsL_mem, fun h => searchL_all c.figs.length [] p h.1.len (by simp) h.1.rng h.2⟩
theorem searchL_pre {c : CL} : ∀ {k : Nat} {now p : List Int}, p ∈ searchL c k now → ∃ t, p = now ++ t
 | 0, now, p, h => by
  unfold searchL at h
  split at h
  ·exact ⟨[], by simpa using h⟩
  ·cases h
 | k + 1, now, p, h => by
  obtain ⟨n, _, h1⟩ := List.mem_flatMap.1 h
  split at h1
  ·cases h1
  ·obtain ⟨t, rfl⟩ := searchL_pre h1
   exact ⟨(n : Int) :: t, by simp⟩
theorem searchL_sorted {c : CL} : ∀ (k : Nat) (now : List Int), (searchL c k now).Pairwise (fun a b => bef a b = true)
 | 0, now => by
  unfold searchL
  split
  ·exact List.pairwise_singleton _ _
  ·exact List.Pairwise.nil
 | k + 1, now => by
  refine List.pairwise_flatMap.2 ⟨fun n _ => ?_, List.Pairwise.imp ?_ (List.pairwise_lt_range (n := c.depth.toNat))⟩
  ·split
   ·exact List.Pairwise.nil
   ·exact searchL_sorted k _
  ·intro a b hab x hx y hy
   split at hx
   ·cases hx
   split at hy
   ·cases hy
   obtain ⟨t, rfl⟩ := searchL_pre hx
   obtain ⟨u, rfl⟩ := searchL_pre hy
   simp only [List.append_assoc, List.singleton_append]
   exact bef_lt (by omega)
theorem rights_sorted (c : CL) : (rightsL c).Pairwise (fun a b => bef a b = true) := searchL_sorted _ _
theorem best_aux {α : Type} {m : α → Int} : ∀ (X : List α) (o p : α), X.foldl (fun acc x => match acc with | none => some x | some o => if decide (m x < m o) then some x else some o) (some o) = some p →
  (p = o ∧ ∀ q ∈ X, m o ≤ m q) ∨ ∃ A B, X = A ++ p :: B ∧ m p < m o ∧ (∀ q ∈ A, m p < m q) ∧ ∀ q ∈ B, m p ≤ m q
 | [], o, p, h => by cases h; exact .inl ⟨rfl, fun _ h => by cases h⟩
 | x :: X, o, p, h => by
  simp only [List.foldl_cons] at h
  by_cases hx : m x < m o
  ·simp only [hx, decide_true, if_true] at h
   rcases best_aux X x p h with ⟨rfl, h1⟩ | ⟨A, B, rfl, h1, h2, h3⟩
   ·exact .inr ⟨[], X, rfl, hx, (fun _ h => by cases h), h1⟩
   ·refine .inr ⟨x :: A, B, rfl, by omega, fun q hq => ?_, h3⟩
    rcases List.mem_cons.1 hq with rfl | hq
    ·exact h1
    ·exact h2 q hq
  ·simp only [hx, decide_false, Bool.false_eq_true, if_false] at h
   rcases best_aux X o p h with ⟨rfl, h1⟩ | ⟨A, B, rfl, h1, h2, h3⟩
   ·refine .inl ⟨rfl, fun q hq => ?_⟩
    rcases List.mem_cons.1 hq with rfl | hq
    ·omega
    ·exact h1 q hq
   ·refine .inr ⟨x :: A, B, rfl, h1, fun q hq => ?_, h3⟩
    rcases List.mem_cons.1 hq with rfl | hq
    ·omega
    ·exact h2 q hq
theorem best_some {α : Type} {m : α → Int} {X : List α} {p : α} (h : bestF (fun a b => decide (m a < m b)) X = some p) : ∃ A B, X = A ++ p :: B ∧ (∀ q ∈ A, m p < m q) ∧ ∀ q ∈ B, m p ≤ m q := by
 cases X with
 | nil => cases h
 | cons x X =>
  rcases best_aux X x p h with ⟨rfl, h1⟩ | ⟨A, B, rfl, h1, h2, h3⟩
  ·exact ⟨[], X, rfl, (fun _ h => by cases h), h1⟩
  ·refine ⟨x :: A, B, rfl, fun q hq => ?_, h3⟩
   rcases List.mem_cons.1 hq with rfl | hq
   ·exact h1
   ·exact h2 q hq
theorem best_none {α : Type} {bt : α → α → Bool} {X : List α} (h : bestF bt X = none) : X = [] := by
 cases X with
 | nil => rfl
 | cons x X =>
  exfalso
  have : ∀ (X : List α) (o : α), X.foldl (fun acc x => match acc with | none => some x | some o => if bt x o then some x else some o) (some o) ≠ none := by
   intro X
   induction X with
   | nil => intro o h; cases h
   | cons y X ih => intro o; simp only [List.foldl_cons]; cases bt y o <;> exact ih _
  exact this X x h
theorem best_law {m : List Int → Int} {X : List (List Int)} {p : List Int} (hs : X.Pairwise (fun a b => bef a b = true)) (h : bestF (fun a b => decide (m a < m b)) X = some p) :
  p ∈ X ∧ ∀ q ∈ X, m p ≤ m q ∧ (m q = m p → bef q p = false) := by
 obtain ⟨A, B, rfl, hA, hB⟩ := best_some h
 refine ⟨by simp, fun q hq => ?_⟩
 rcases List.mem_append.1 hq with h1 | h1
 ·have := hA q h1
  exact ⟨by omega, by omega⟩
 ·rcases List.mem_cons.1 h1 with rfl | h2
  ·exact ⟨by omega, fun _ => bef_irr _⟩
  ·exact ⟨hB q h2, fun _ => bef_asym _ _ ((List.pairwise_cons.1 (List.pairwise_append.1 hs).2.1).1 q h2)⟩
theorem getD_in {p : List Int} {i : Nat} (hi : i < p.length) : p.getD i 0 = p[i] := by rw [List.getD_eq_getElem?_getD, List.getElem?_eq_getElem hi]; rfl
theorem mem_cast {P : Nat → Bool} {n i : Nat} : (i : Int) ∈ castL ((List.range n).filter P) ↔ i < n ∧ P i = true := by
 unfold castL
 rw [List.mem_map]
 constructor
 ·rintro ⟨k, hk, e⟩
  rw [List.mem_filter, List.mem_range] at hk
  obtain rfl : k = i := by omega
  exact hk
 ·intro h
  exact ⟨i, by rw [List.mem_filter, List.mem_range]; exact h, rfl⟩
theorem hasI_iff {l : List Int} {x : Int} : hasI l x = true ↔ x ∈ l := by
 unfold hasI
 rw [List.any_eq_true]
 constructor
 ·rintro ⟨a, ha, h⟩
  rw [beq_iff_eq] at h
  rw [h]; exact ha
 ·intro h
  exact ⟨x, h, by simp⟩
theorem rising_cast (P : Nat → Bool) (n : Nat) : risingB n (castL ((List.range n).filter P)) = true := by
 refine List.all_eq_true.2 fun k hk => ?_
 rw [List.mem_range] at hk
 have hr := castL_ris P n
 rw [List.pairwise_iff_getElem] at hr
 obtain ⟨j, hj, ej⟩ := mem_castL (List.getElem_mem hk)
 rw [List.mem_filter, List.mem_range] at hj
 have eg := getD_in hk
 unfold riseP
 rw [eg, ej]
 have h1 : inB (j : Int) 0 ((n : Int) - 1) = true := by simp only [inB, Bool.and_eq_true, decide_eq_true_eq]; omega
 rw [h1, Bool.true_and, Bool.not_eq_true', Bool.and_eq_false_iff]
 by_cases h0 : 0 < k
 ·refine .inr ?_
  have := hr (k - 1) k (by omega) hk (by omega)
  rw [getD_in (show k - 1 < _ by omega)]
  rw [decide_eq_false_iff_not]
  omega
 ·exact .inl (by simp [h0])
end Go.Den.Ch
end
section
namespace Go.Den.Ch
theorem wrong_cases (c : CL) (F P : PV) (p : List Int) (hF : SlOf 3 encF F c.figs) (hP : SlOf 1 encI P p) (hA : listB c = true) (hB : packB c p = true) : ∃ r o1 o2 e : Int, (∀ st, Cl EE (.func 27 [] []) [clPV c F, P] st (.ret (.tuple [.agg [iv r, iv o1, iv o2], iv e])) st) ∧ ((fault c p = none ∧ e = 5) ∨ (fault c p = some ⟨r, o1, o2⟩ ∧ e = 0)) := by
 have h27 := c27 c F P p hF hP
 have ew : wrongR c p = match fault c p with | some f => (some f, 0) | none => (none, 5) := by unfold wrongR; rw [hA, hB]; rfl
 rw [ew] at h27
 cases hf : fault c p with
 | none => rw [hf] at h27; exact ⟨0, 0, 0, 5, h27, .inl ⟨rfl, rfl⟩⟩
 | some f => rw [hf] at h27; exact ⟨f.rule, f.one, f.other, 0, h27, .inr ⟨rfl, rfl⟩⟩
def fitsB (c : CL) (p : List Int) : Bool := packB c p && (fault c p).isNone
theorem c37 (c : CL) (F P : PV) (p : List Int) (hF : SlOf 3 encF F c.figs) (hP : SlOf 1 encI P p) (hA : listB c = true) (hN : p.length < 1000000) (st : St) : Cl EE (.func 37 [] []) [clPV c F, P] st (.ret (.bool (fitsB c p))) st := by
 have hFc := hF.cells
 have hFi := hF.isCell
 have hc := OkL.of hA
 have k25 := c25 c F P p hF hP hN ⟨hc.d0, hc.d1⟩
 refine cl_fn (pr37 · _ _) fn37 2 rfl (by decide) (fun tm hl hg => ?_); have h0 : tg tm 0 = clPV c F := (hg 0 (by decide)); have h1 : tg tm 1 = P := (hg 1 (by decide)); clear hg
 cases hB : packB c p
 ·have e : fitsB c p = false := by simp [fitsB, hB]
  rw [e]
  refine go (bw4 hl h0 h1 hB) (bw k25 fnil) ?_
  refine fnq_flat (results_one (by rw [rdRes_tmp]; simp only [↓reduceIte, go_sem, hl]; first | done | rfl)) (by first | exact Nat.le_refl _ | omega | (simp only [lo_push, lo_setVar]; omega)) (by rfl)
 ·obtain ⟨r, o1, o2, e, k27, hcase⟩ := wrong_cases c F P p hF hP hA hB
  have he : (e == 5) = fitsB c p := by
   rcases hcase with ⟨h, rfl⟩ | ⟨h, rfl⟩ <;> simp [fitsB, hB, h]
  refine go (bw5 hl h0 h1 hB he) (bw3 k25 k27 fnil) ?_
  refine fnq_flat (results_one (by rw [rdRes_tmp]; simp only [↓reduceIte, go_sem, hl]; first | done | rfl)) (by first | exact Nat.le_refl _ | omega | (simp only [lo_push, lo_setVar]; omega)) (by rfl)
theorem bef_end {l m : List Int} {i : Nat} (ht : l.take i = m.take i) (h1 : i ≤ l.length) (h2 : i ≤ m.length) (h : i = l.length ∨ i = m.length) : bef l m = decide ((l.length : Int) < m.length) := by
 have hbd : bef l m = bef (l.drop i) (m.drop i) := by
  conv => lhs; rw [← List.take_append_drop i l, ← List.take_append_drop i m, ht]
  exact bef_app _ _ _
 have e1 : (l.drop i).length = l.length - i := List.length_drop
 have e2 : (m.drop i).length = m.length - i := List.length_drop
 rw [hbd]
 cases hl : l.drop i with
 | nil =>
  rw [hl] at e1
  cases hm : m.drop i with
  | nil => rw [hm] at e2; simp at e1 e2; simp [bef]; omega
  | cons y m' => rw [hm] at e2; simp at e1 e2; simp [bef]; omega
 | cons x l' =>
  rw [hl] at e1
  cases hm : m.drop i with
  | nil => rw [hm] at e2; simp at e1 e2; simp [bef]; omega
  | cons y m' => rw [hm] at e2; simp at e1 e2; omega
theorem bef_at {l m : List Int} {i : Nat} (ht : l.take i = m.take i) (h1 : i < l.length) (h2 : i < m.length) (h : l[i] ≠ m[i]) : bef l m = decide (l[i] < m[i]) := by
 have hbd : bef l m = bef (l.drop i) (m.drop i) := by
  conv => lhs; rw [← List.take_append_drop i l, ← List.take_append_drop i m, ht]
  exact bef_app _ _ _
 rw [hbd, List.drop_eq_getElem_cons h1, List.drop_eq_getElem_cons h2, bef, if_neg h]
set_option maxHeartbeats 1000000 in
theorem c38 (F G : PV) (l m : List Int) (hF : SlOf 1 encI F l) (hG : SlOf 1 encI G m) (hN : l.length < 1000000) (st : St) : Cl EE (.func 38 [] []) [F, G] st (.ret (.bool (bef l m))) st := by
 have hFs := hF.slen
 have hGs := hG.slen
 refine cl_fn (pr38 · _ _) fn38 2 rfl (by decide) (fun tm hl hg => ?_); have h0 : tg tm 0 = F := (hg 0 (by decide)); have h1 : tg tm 1 = G := (hg 1 (by decide)); clear hg
 refine go (bw3 hl h0 h1) fnil ?_
 refine wp_for [5] (fun i vs st1 => vs = [iv i] ∧ i ≤ l.length ∧ i ≤ m.length ∧ l.take i = m.take i ∧ st1 = { heap := st.heap, lo := st.heap.length }) (fun i => l.length - i) ⟨by simp only [↓reduceIte, go_sem, hl]; first | done | rfl, Nat.zero_le _, Nat.zero_le _, rfl, rfl⟩ ?_
 rintro i tm1 st1 ⟨hv, hi, hi2, ht, rfl⟩ hS
 simp only [List.map_cons, List.map_nil, List.cons.injEq, and_true] at hv
 have hl1 : tm1.length = 41 := (by rw [hS.1]; simp only [put_len, hl]); have i0 : tg tm1 0 = F := (by rw [hS.2 0 (by decide)]; simp only [↓reduceIte, go_sem, hl, h0, h1]); have i1 : tg tm1 1 = G := (by rw [hS.2 1 (by decide)]; simp only [↓reduceIte, go_sem, hl, h0, h1]); clear hS
 cases d1 : decide ((i : Int) < l.length)
 ·have := of_decide_eq_false d1
  refine go (bw5 hl1 hv i0 hFs d1) fnil ?_
  refine ⟨false, by simp only [↓reduceIte, go_sem, hl1], fun _ => ?_, fun hb => by cases hb⟩
  rw [bef_end ht hi hi2 (by omega)]
  refine go (bw5 hl1 i0 i1 hFs hGs) fnil ?_
  refine fnq_flat (results_one (by rw [rdRes_tmp]; simp only [↓reduceIte, go_sem, hl1]; first | done | rfl)) (by first | exact Nat.le_refl _ | omega | (simp only [lo_push, lo_setVar]; omega)) (by rfl)
 have hlt : i < l.length := by have := of_decide_eq_true d1; omega
 cases d2 : decide ((i : Int) < m.length)
 ·have := of_decide_eq_false d2
  refine go (bw8 hl1 hv i0 i1 hFs hGs d1 d2) fnil ?_
  refine ⟨false, by simp only [↓reduceIte, go_sem, hl1], fun _ => ?_, fun hb => by cases hb⟩
  rw [bef_end ht hi hi2 (by omega)]
  refine go (bw5 hl1 i0 i1 hFs hGs) fnil ?_
  refine fnq_flat (results_one (by rw [rdRes_tmp]; simp only [↓reduceIte, go_sem, hl1]; first | done | rfl)) (by first | exact Nat.le_refl _ | omega | (simp only [lo_push, lo_setVar]; omega)) (by rfl)
 have hlt2 : i < m.length := by have := of_decide_eq_true d2; omega
 have hw1 : IntKind.wrap .i64 ((i : Int) + 1) = ((i + 1 : Nat) : Int) := wrap_nat (n := i + 1) (by omega)
 refine go (bw8 hl1 hv i0 i1 hFs hGs d1 d2) fnil ?_
 refine ⟨true, by simp only [↓reduceIte, go_sem, hl1], (fun hb => by cases hb), fun _ => ⟨by omega, ?_⟩⟩
 cases hx : (l[i] != m[i])
 ·refine go (bw6 hl1 hv i0 i1 hw1 hx) fnil ?_
  exact ⟨by simp only [↓reduceIte, go_sem, hl1], by omega, by omega, take_snoc_eq hlt hlt2 ht (bne_eq_false_iff_eq.1 hx), rfl⟩
 ·rw [bef_at ht hlt hlt2 (bne_iff_ne.1 hx)]
  refine go (bw5 hl1 hv i0 i1 hx) fnil ?_
  refine fnq_flat (results_one (by rw [rdRes_tmp]; simp only [↓reduceIte, go_sem, hl1]; first | done | rfl)) (by first | exact Nat.le_refl _ | omega | (simp only [lo_push, lo_setVar]; omega)) (by rfl)
theorem rising_all {n : Nat} {l : List Int} (h : ∀ k < l.length, riseP n l k = true) : risingB n l = true := List.all_eq_true.2 fun k hk => h k (List.mem_range.1 hk)
theorem rising_not {n : Nat} {l : List Int} {k : Nat} (hk : k < l.length) (h : riseP n l k = false) : risingB n l = false := List.all_eq_false.2 ⟨k, List.mem_range.2 hk, by rw [h]; simp⟩
set_option maxHeartbeats 2000000 in
theorem c45 (c : CL) (F G : PV) (l : List Int) (hF : SlOf 3 encF F c.figs) (hG : SlOf 1 encI G l) (hN : l.length < 1000000) (hn : c.figs.length < 1000000) (st : St) : Cl EE (.func 45 [] []) [clPV c F, G] st (.ret (.bool (risingB c.figs.length l))) st := by
 have hGs := hG.slen
 have hFs := hF.slen
 have hFc := hF.cells
 refine cl_fn (pr45 · _ _) fn45 2 rfl (by decide) (fun tm hl hg => ?_); have h0 : tg tm 0 = clPV c F := (hg 0 (by decide)); have h1 : tg tm 1 = G := (hg 1 (by decide)); clear hg
 refine go (bw hl h0) fnil ?_
 refine wp_for [5] (fun i vs st1 => vs = [iv i] ∧ i ≤ l.length ∧ (∀ k < i, riseP c.figs.length l k = true) ∧ st1 = ({ heap := st.heap, lo := st.heap.length } : St).push (.var [iv c.room, iv c.depth, F])) (fun i => l.length - i) ⟨by simp only [↓reduceIte, go_sem, hl]; first | done | rfl, Nat.zero_le _, (fun k hk => absurd hk (by omega)), by first | done | rfl⟩ ?_
 rintro i tm1 st1 ⟨hv, hi, hk, rfl⟩ hS
 simp only [List.map_cons, List.map_nil, List.cons.injEq, and_true] at hv
 have hl1 : tm1.length = 38 := (by rw [hS.1]; simp only [put_len, hl]); have i1 : tg tm1 1 = G := (by rw [hS.2 1 (by decide)]; simp only [↓reduceIte, go_sem, hl, h1]); have i2 : tg tm1 2 = .ptr st.heap.length 0 := (by rw [hS.2 2 (by decide)]; simp only [↓reduceIte, go_sem, hl, h1]); clear hS
 refine go (bw4 hl1 hv i1 hGs) fnil ?_
 refine ⟨decide ((i : Int) < l.length), by simp only [↓reduceIte, go_sem, hl1], fun hb => ?_, fun hb1 => ?_⟩
 ·have hlt := of_decide_eq_false hb
  rw [rising_all (fun k h => hk k (by omega))]
  refine go hl1 fnil ?_
  refine fnq_flat (results_one (by rw [rdRes_tmp]; simp only [↓reduceIte, go_sem, hl1]; first | done | rfl)) (by first | exact Nat.le_refl _ | omega | (simp only [lo_push, lo_setVar]; omega)) (by rfl)
 ·have hlt : i < l.length := by have := of_decide_eq_true hb1; omega
  have hw1 : IntKind.wrap .i64 ((i : Int) + 1) = ((i + 1 : Nat) : Int) := wrap_nat (n := i + 1) (by omega)
  have hwn : IntKind.wrap .i64 ((c.figs.length : Int) - 1) = (c.figs.length : Int) - 1 := wrap_in (by unfold inI; omega)
  have eg : l.getD i 0 = l[i] := by rw [List.getD_eq_getElem?_getD, List.getElem?_eq_getElem hlt]; rfl
  refine ⟨by omega, ?_⟩
  cases hx : inB l[i] 0 ((c.figs.length : Int) - 1)
  ·rw [rising_not hlt (by unfold riseP; rw [eg, hx]; rfl)]
   refine go (bw7 hl1 hv i1 i2 hFs hwn hx) (bw c74 fnil) ?_
   refine fnq_flat (results_one (by rw [rdRes_tmp]; simp only [↓reduceIte, go_sem, hl1]; first | done | rfl)) (by first | exact Nat.le_refl _ | omega | (simp only [lo_push, lo_setVar]; omega)) (by rfl)
  ·cases hd : decide ((i : Int) > 0)
   ·have := of_decide_eq_false hd
    have hr : riseP c.figs.length l i = true := by
     have : decide (0 < i) = false := by simp; omega
     unfold riseP; rw [eg, hx, this]; rfl
    refine go (bw9 hl1 hv i1 i2 hFs hwn hx hd hw1) (bw c74 fnil) ?_
    refine ⟨by simp only [↓reduceIte, go_sem, hl1], by omega, (fun k h => ?_), rfl⟩
    by_cases hki : k = i
    ·rw [hki]; exact hr
    ·exact hk k (by omega)
   ·have hpos := of_decide_eq_true hd
    obtain ⟨j, rfl⟩ : ∃ j, i = j + 1 := ⟨i - 1, by omega⟩
    have hwm : IntKind.wrap .i64 (((j + 1 : Nat) : Int) - 1) = (j : Int) := by rw [wrap_in (by unfold inI; omega)]; omega
    have hj : j < l.length := by omega
    have ej : l.getD (j + 1 - 1) 0 = l[j] := by rw [List.getD_eq_getElem?_getD, Nat.add_sub_cancel, List.getElem?_eq_getElem hj]; rfl
    have hr : riseP c.figs.length l (j + 1) = !decide (l[j + 1] ≤ l[j]) := by
     unfold riseP; rw [eg, ej, hx]; simp
    cases hy : decide (l[j + 1] ≤ l[j])
    ·rw [hy] at hr
     refine go (bw11 hl1 hv i1 i2 hFs hwn hx hd hw1 hwm hy) (bw c74 fnil) ?_
     refine ⟨by simp only [↓reduceIte, go_sem, hl1], by omega, (fun k h => ?_), rfl⟩
     by_cases hki : k = j + 1
     ·rw [hki]; exact hr
     ·exact hk k (by omega)
    ·rw [hy] at hr
     rw [rising_not hlt hr]
     refine go (bw10 hl1 hv i1 i2 hFs hwn hx hd hwm hy) (bw c74 fnil) ?_
     refine fnq_flat (results_one (by rw [rdRes_tmp]; simp only [↓reduceIte, go_sem, hl1]; first | done | rfl)) (by first | exact Nat.le_refl _ | omega | (simp only [lo_push, lo_setVar]; omega)) (by rfl)
def movedT (p q : List Int) (n : Nat) : Int := (((List.range n).filter (movP p q)).length : Int)
def movedM (p q : List Int) : Int := movedT p q (min p.length q.length)
theorem r31 (c : CL) (F : PV) (hF : SlOf 3 encF F c.figs) (st : St) : ClR EE (.func 31 [] []) [clPV c F] st (fun v st' => ∃ P, v = .tuple [P, iv (bestR c).2.1, iv (bestR c).2.2] ∧ SlOf 1 encI P (bestR c).1 ∧ Keep st st') := by
 obtain ⟨v, st', h1, P, e, hW⟩ := c31 c F hF st
 exact ⟨v, st', h1, P, e, retI hW, keepW hW⟩
theorem fits_mem {c : CL} {p : List Int} : fitsB c p = true ↔ p ∈ rightsL c := by
 rw [mem_rights]
 constructor
 ·intro h
  simp only [fitsB, Bool.and_eq_true, Option.isNone_iff_eq_none] at h
  exact ⟨OkP.of h.1, h.2⟩
 ·rintro ⟨h1, h2⟩
  have : packB c p = true := by
   simp only [packB, inB, Bool.and_eq_true, decide_eq_true_eq, List.all_eq_true]
   exact ⟨h1.len, fun x hx => by have := h1.rng x hx; omega⟩
  simp [fitsB, this, h2]
theorem zs : (∀ h : Decidable False, decide (h := h) False = false) ∧ (∀ h : Decidable True, decide (h := h) True = true) ∧ (((0 : Int) != 0) = false) ∧ (((5 : Int) != 0) = true) ∧ (((7 : Int) != 0) = true) ∧ (((5 : Int) == 5) = true) ∧ (((0 : Int) == 0) = true) ∧ (((5 : Int) == 0) = false) ∧ (((7 : Int) == 7) = true) ∧ (((7 : Int) == 0) = false) ∧ (((7 : Int) != 7) = false) ∧ (((5 : Int) != 5) = false) ∧ (decide ((0 : Int) < 0) = false) ∧ (decide ((0 : Int) > 0) = false) ∧ ((true != true) = false) ∧ ((false != false) = false) ∧ ((true != false) = true) ∧ ((false != true) = true) := ⟨fun h => by cases h <;> first | rfl | contradiction, fun h => by cases h <;> first | rfl | contradiction, by decide⟩
theorem nne (n : Int) : (n != n) = false := by simp
theorem r39 (c : CL) (F : PV) (hF : SlOf 3 encF F c.figs) (st : St) : ClR EE (.func 39 [] []) [clPV c F] st (fun v st' => ∃ P, v = .tuple [P, iv (knownR c).2] ∧ SlOf 2 enc2 P (knownR c).1 ∧ Keep st st') := by
 obtain ⟨v, st', h1, P, e, hW⟩ := c39 c F hF st
 exact ⟨v, st', h1, P, e, ret2 hW, keepW hW⟩
theorem r40 (c : CL) (F : PV) (hF : SlOf 3 encF F c.figs) (st : St) : ClR EE (.func 40 [] []) [clPV c F] st (fun v st' => ∃ P, v = .tuple [P, iv (groupsR c).2] ∧ SlOf 1 encI P (groupsR c).1 ∧ Keep st st') := by
 obtain ⟨v, st', h1, P, e, hW⟩ := c40 c F hF st
 exact ⟨v, st', h1, P, e, retI hW, keepW hW⟩
theorem r58 (c : CL) (F : PV) (hF : SlOf 3 encF F c.figs) (st : St) : ClR EE (.func 58 [] []) [clPV c F] st (fun v st' => ∃ P, v = .tuple [P, iv (chestsR c).2.1, iv (chestsR c).2.2] ∧ SlOf 1 encI P (chestsR c).1 ∧ Keep st st') := by
 obtain ⟨v, st', h1, P, e, hW⟩ := c58 c F hF st
 exact ⟨v, st', h1, P, e, retI hW, keepW hW⟩
theorem r62 (c : CL) (F : PV) (hF : SlOf 3 encF F c.figs) (st : St) : ClR EE (.func 62 [] []) [clPV c F] st (fun v st' => ∃ P, v = .tuple [P, iv (clashR c).2] ∧ SlOf 1 encI P (clashR c).1 ∧ Keep st st') := by
 obtain ⟨v, st', h1, P, e, hW⟩ := c62 c F hF st
 exact ⟨v, st', h1, P, e, retI hW, keepW hW⟩
theorem rising_in {n : Nat} {l : List Int} (h : risingB n l = true) : ∀ x ∈ l, 0 ≤ x ∧ x < n := fun x hx => by
 obtain ⟨k, hk, rfl⟩ := List.getElem_of_mem hx
 have := List.all_eq_true.1 h k (List.mem_range.2 hk)
 have eg : l.getD k 0 = l[k] := by rw [List.getD_eq_getElem?_getD, List.getElem?_eq_getElem hk]; rfl
 simp only [riseP, eg, inB, Bool.and_eq_true, decide_eq_true_eq] at this
 omega
end Go.Den.Ch
end

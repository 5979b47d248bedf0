/- Part of the proofs of laws of the package chest: the interpreter Den, its soundness, and contracts of the program's functions over it. Texts: ChLa, ChMa. -/
import Derived.Test.YtoeigapilcgelaaGreatDoorK1Bp
set_option linter.unusedSimpArgs false
set_option linter.unusedVariables false
section
namespace Go.Den
theorem undef_e : undef = .tuple [] := rfl
end Go.Den
namespace Go.Den.Ch
def sumL (c : CL) (p : List Int) (n : Int) : Int := (layerL c.figs p n).sum
def NoFull (c : CL) (p : List Int) : Prop := ∀ n : Int, 0 ≤ n → n < c.depth → ¬ sumL c p n > c.room
def NoGap (c : CL) (p : List Int) : Prop := ∀ n : Int, 0 ≤ n → n < layersL p → sumL c p n ≠ 0
def NoDis (c : CL) (p : List Int) (i : Nat) : Prop := ∀ (a b : Nat) (x y : Int) (f g : Fig), p[a]? = some x → p[b]? = some y → c.figs[a]? = some f → c.figs[b]? = some g → x < y → ¬ key i f > key i g
theorem sum_zero {l : List Int} (h : ∀ x ∈ l, 1 ≤ x) (hs : l.sum = 0) : l = [] := by
 cases l with
 | nil => rfl
 | cons x l =>
  have h1 := h x (by simp)
  have h2 := (sum_bound (l := l) (b := l.foldl max 0) (by
   have : ∀ (l : List Int) (a : Int), a ≤ l.foldl max a := by
    intro l
    induction l with
    | nil => intro a; exact Int.le_refl _
    | cons y l ih => intro a; exact Int.le_trans (Int.le_max_left a y) (ih _)
   exact this l 0) (fun y hy => ⟨by have := h y (by simp [hy]); omega, by
    have : ∀ (l : List Int) (a : Int), y ∈ l → y ≤ l.foldl max a := by
     intro l
     induction l with
     | nil => intro a h; simp at h
     | cons z l ih =>
      intro a h
      have mono : ∀ (l : List Int) (a : Int), a ≤ l.foldl max a := by
       intro l
       induction l with
       | nil => intro a; exact Int.le_refl _
       | cons y l ih => intro a; exact Int.le_trans (Int.le_max_left a y) (ih _)
      rcases List.mem_cons.1 h with rfl | h
      ·exact Int.le_trans (Int.le_max_right a y) (mono l _)
      ·exact ih _ h
    exact this l 0 hy⟩)).1
  simp only [List.sum_cons] at hs
  omega
theorem fullL_none {c : CL} {p : List Int} (h : fullL c p = none) : NoFull c p := by
 intro n h0 h1 h2
 have := List.findSome?_eq_none_iff.1 h n.toNat (by rw [List.mem_range]; omega)
 have h2' : (layerL c.figs p n).sum > c.room := h2
 rw [Int.toNat_of_nonneg h0, if_pos h2'] at this
 cases this
theorem gapL_none {c : CL} {p : List Int} (hc : OkL c) (h : gapL c p = none) : NoGap c p := by
 intro n h0 h1 h2
 have := List.findSome?_eq_none_iff.1 h n.toNat (by rw [List.mem_range]; omega)
 rw [Int.toNat_of_nonneg h0] at this
 have he : layerL c.figs p n = [] := sum_zero (fun x hx => ((hc.layer p n).2 x hx).1) h2
 rw [he] at this
 simp at this
theorem disA_none {c : CL} {p : List Int} {i : Nat} (h : disA c p i = none) : NoDis c p i := by
 intro a b x y f g ha hb hfa hfb hxy hk
 have hla : a < c.figs.length := (List.getElem?_eq_some_iff.1 hfa).1
 have hlb : b < c.figs.length := (List.getElem?_eq_some_iff.1 hfb).1
 have h1 := List.findSome?_eq_none_iff.1 h a (List.mem_range.2 hla)
 have h2 := List.findSome?_eq_none_iff.1 h1 b (List.mem_range.2 hlb)
 have h3 : brk c p i a b = true := by
  unfold brk
  rw [ha, hb, hfa, hfb]
  simp [hxy, hk]
 rw [h3, if_pos rfl] at h2
 cases h2
theorem dis_none {c : CL} {p : List Int} (h : disorder c p = none) : NoDis c p 0 ∧ NoDis c p 1 :=
 ⟨disA_none (List.findSome?_eq_none_iff.1 h 0 (by simp)), disA_none (List.findSome?_eq_none_iff.1 h 1 (by simp))⟩
theorem fault_none {c : CL} {p : List Int} (hc : OkL c) (h : fault c p = none) : NoFull c p ∧ NoGap c p ∧ NoDis c p 0 ∧ NoDis c p 1 := by
 unfold fault at h
 rw [Option.or_eq_none_iff, Option.or_eq_none_iff] at h
 exact ⟨fullL_none h.1, gapL_none hc h.2.1, dis_none h.2.2⟩
inductive FaultSays (c : CL) (p : List Int) : Flt → Prop
 | full (n : Nat) (h1 : (n : Int) < c.depth) (h2 : sumL c p n > c.room) : FaultSays c p ⟨1, n, 0⟩
 | gap (n : Nat) (h1 : (n : Int) < c.depth) (h2 : (n : Int) < layersL p) (h3 : sumL c p n = 0) (nf : NoFull c p) : FaultSays c p ⟨2, n, 0⟩
 | rank (a b : Nat) (x y : Int) (f g : Fig) (ha : p[a]? = some x) (hb : p[b]? = some y) (hfa : c.figs[a]? = some f) (hfb : c.figs[b]? = some g) (h1 : x < y) (h2 : f.rank < g.rank) (nf : NoFull c p) (ng : NoGap c p) : FaultSays c p ⟨3, a, b⟩
 | eve (a b : Nat) (x y : Int) (f g : Fig) (ha : p[a]? = some x) (hb : p[b]? = some y) (hfa : c.figs[a]? = some f) (hfb : c.figs[b]? = some g) (h1 : x < y) (h2 : f.eve > g.eve) (nf : NoFull c p) (ng : NoGap c p) (nr : NoDis c p 0) : FaultSays c p ⟨4, a, b⟩
end Go.Den.Ch
end
section
namespace Go.Den.Ch
def bef : List Int → List Int → Bool
 | [], [] => false
 | [], _ :: _ => true
 | _ :: _, [] => false
 | a :: l, b :: m => if a = b then bef l m else decide (a < b)
theorem bef_irr : ∀ l, bef l l = false
 | [] => rfl
 | a :: l => by simp only [bef, if_true]; exact bef_irr l
theorem bef_asym : ∀ l m, bef l m = true → bef m l = false
 | [], [], h => by cases h
 | [], _ :: _, _ => rfl
 | _ :: _, [], h => by cases h
 | a :: l, b :: m, h => by
  simp only [bef] at h ⊢
  by_cases e : a = b
  ·subst e; simp only [if_true] at h ⊢; exact bef_asym l m h
  ·rw [if_neg e] at h; rw [if_neg (Ne.symm e)]
   simp only [decide_eq_true_eq, decide_eq_false_iff_not] at *; omega
theorem bef_app (l m n : List Int) : bef (l ++ m) (l ++ n) = bef m n := by
 induction l with
 | nil => rfl
 | cons a l ih => simp only [List.cons_append, bef, if_true, ih]
theorem bef_lt {l m n : List Int} {a b : Int} (h : a < b) : bef (l ++ a :: m) (l ++ b :: n) = true := by
 rw [bef_app, bef, if_neg (by omega)]; simp [h]
theorem dis_of {c : CL} {p : List Int} (h0 : NoDis c p 0) (h1 : NoDis c p 1) : disorder c p = none := by
 refine List.findSome?_eq_none_iff.2 fun i hi => List.findSome?_eq_none_iff.2 fun a _ => List.findSome?_eq_none_iff.2 fun b _ => ?_
 rw [List.mem_range] at hi
 have hn : NoDis c p i := by
  have : i = 0 ∨ i = 1 := by omega
  rcases this with rfl | rfl
  ·exact h0
  ·exact h1
 rw [if_neg]
 intro h
 unfold brk at h
 split at h
 ·rename_i x y f g e1 e2 e3 e4
  simp only [Bool.and_eq_true, decide_eq_true_eq] at h
  exact hn a b x y f g e1 e2 e3 e4 h.1 h.2
 ·cases h
theorem NoDis.take {c : CL} {now t : List Int} {i : Nat} (h : NoDis c (now ++ t) i) : NoDis { c with figs := c.figs.take now.length } now i := by
 intro a b x y f g ha hb hf hg
 have la : a < now.length := (List.getElem?_eq_some_iff.1 ha).1
 have lb : b < now.length := (List.getElem?_eq_some_iff.1 hb).1
 simp only [List.getElem?_take, la, lb, if_true] at hf hg
 exact h a b x y f g (by rw [List.getElem?_append_left la]; exact ha) (by rw [List.getElem?_append_left lb]; exact hb) hf hg
theorem fault_dis {c : CL} {p : List Int} (h : fault c p = none) : disorder c p = none := by
 unfold fault at h
 rw [Option.or_eq_none_iff, Option.or_eq_none_iff] at h
 exact h.2.2
theorem searchL_all {c : CL} : ∀ (k : Nat) (now t : List Int), t.length = k → now.length + k = c.figs.length → (∀ x ∈ t, 0 ≤ x ∧ x < c.depth) → fault c (now ++ t) = none → now ++ t ∈ searchL c k now
 | 0, now, t, ht, _, _, h => by
  obtain rfl := List.eq_nil_of_length_eq_zero ht
  simp only [List.append_nil] at h ⊢
  simp [searchL, h]
 | k + 1, now, x :: t, ht, hk, hx, h => by
  have h1 : now ++ x :: t = (now ++ [x]) ++ t := by simp
  have hx0 := hx x (by simp)
  rw [h1] at h ⊢
  refine List.mem_flatMap.2 ⟨x.toNat, by rw [List.mem_range]; omega, ?_⟩
  rw [Int.toNat_of_nonneg hx0.1]
  have hd := dis_none (fault_dis h)
  have e : (now ++ [x]).length = now.length + 1 := by simp
  have hn := dis_of (NoDis.take hd.1) (NoDis.take hd.2)
  rw [e] at hn
  rw [hn]
  exact searchL_all k (now ++ [x]) t (by simpa using ht) (by simp at e ⊢; omega) (fun y hy => hx y (by simp [hy])) h
theorem mem_rights {c : CL} {p : List Int} : p ∈ rightsL c ↔ OkP c p ∧ fault c p = none :=
 ⟨rightsL_mem, fun h => searchL_all c.figs.length [] p h.1.len (by simp) h.1.rng h.2⟩
theorem searchL_pre {c : CL} : ∀ {k : Nat} {now p : List Int}, p ∈ searchL c k now → ∃ t, p = now ++ t
 | 0, now, p, h => by
  unfold searchL at h
  split at h
  ·exact ⟨[], by simpa using h⟩
  ·cases h
 | k + 1, now, p, h => by
  obtain ⟨n, _, h1⟩ := List.mem_flatMap.1 h
  split at h1
  ·cases h1
  ·obtain ⟨t, rfl⟩ := searchL_pre h1
   exact ⟨(n : Int) :: t, by simp⟩
theorem searchL_sorted {c : CL} : ∀ (k : Nat) (now : List Int), (searchL c k now).Pairwise (fun a b => bef a b = true)
 | 0, now => by
  unfold searchL
  split
  ·exact List.pairwise_singleton _ _
  ·exact List.Pairwise.nil
 | k + 1, now => by
  refine List.pairwise_flatMap.2 ⟨fun n _ => ?_, List.Pairwise.imp ?_ (List.pairwise_lt_range (n := c.depth.toNat))⟩
  ·split
   ·exact List.Pairwise.nil
   ·exact searchL_sorted k _
  ·intro a b hab x hx y hy
   split at hx
   ·cases hx
   split at hy
   ·cases hy
   obtain ⟨t, rfl⟩ := searchL_pre hx
   obtain ⟨u, rfl⟩ := searchL_pre hy
   simp only [List.append_assoc, List.singleton_append]
   exact bef_lt (by omega)
theorem rights_sorted (c : CL) : (rightsL c).Pairwise (fun a b => bef a b = true) := searchL_sorted _ _
theorem best_aux {α : Type} {m : α → Int} : ∀ (X : List α) (o p : α), X.foldl (fun acc x => match acc with | none => some x | some o => if decide (m x < m o) then some x else some o) (some o) = some p →
  (p = o ∧ ∀ q ∈ X, m o ≤ m q) ∨ ∃ A B, X = A ++ p :: B ∧ m p < m o ∧ (∀ q ∈ A, m p < m q) ∧ ∀ q ∈ B, m p ≤ m q
 | [], o, p, h => by cases h; exact .inl ⟨rfl, fun _ h => by cases h⟩
 | x :: X, o, p, h => by
  simp only [List.foldl_cons] at h
  by_cases hx : m x < m o
  ·simp only [hx, decide_true, if_true] at h
   rcases best_aux X x p h with ⟨rfl, h1⟩ | ⟨A, B, rfl, h1, h2, h3⟩
   ·exact .inr ⟨[], X, rfl, hx, (fun _ h => by cases h), h1⟩
   ·refine .inr ⟨x :: A, B, rfl, by omega, fun q hq => ?_, h3⟩
    rcases List.mem_cons.1 hq with rfl | hq
    ·exact h1
    ·exact h2 q hq
  ·simp only [hx, decide_false, Bool.false_eq_true, if_false] at h
   rcases best_aux X o p h with ⟨rfl, h1⟩ | ⟨A, B, rfl, h1, h2, h3⟩
   ·refine .inl ⟨rfl, fun q hq => ?_⟩
    rcases List.mem_cons.1 hq with rfl | hq
    ·omega
    ·exact h1 q hq
   ·refine .inr ⟨x :: A, B, rfl, h1, fun q hq => ?_, h3⟩
    rcases List.mem_cons.1 hq with rfl | hq
    ·omega
    ·exact h2 q hq
theorem best_some {α : Type} {m : α → Int} {X : List α} {p : α} (h : bestF (fun a b => decide (m a < m b)) X = some p) : ∃ A B, X = A ++ p :: B ∧ (∀ q ∈ A, m p < m q) ∧ ∀ q ∈ B, m p ≤ m q := by
 cases X with
 | nil => cases h
 | cons x X =>
  rcases best_aux X x p h with ⟨rfl, h1⟩ | ⟨A, B, rfl, h1, h2, h3⟩
  ·exact ⟨[], X, rfl, (fun _ h => by cases h), h1⟩
  ·refine ⟨x :: A, B, rfl, fun q hq => ?_, h3⟩
   rcases List.mem_cons.1 hq with rfl | hq
   ·exact h1
   ·exact h2 q hq
theorem best_none {α : Type} {bt : α → α → Bool} {X : List α} (h : bestF bt X = none) : X = [] := by
 cases X with
 | nil => rfl
 | cons x X =>
  exfalso
  have : ∀ (X : List α) (o : α), X.foldl (fun acc x => match acc with | none => some x | some o => if bt x o then some x else some o) (some o) ≠ none := by
   intro X
   induction X with
   | nil => intro o h; cases h
   | cons y X ih => intro o; simp only [List.foldl_cons]; cases bt y o <;> exact ih _
  exact this X x h
theorem best_law {m : List Int → Int} {X : List (List Int)} {p : List Int} (hs : X.Pairwise (fun a b => bef a b = true)) (h : bestF (fun a b => decide (m a < m b)) X = some p) :
  p ∈ X ∧ ∀ q ∈ X, m p ≤ m q ∧ (m q = m p → bef q p = false) := by
 obtain ⟨A, B, rfl, hA, hB⟩ := best_some h
 refine ⟨by simp, fun q hq => ?_⟩
 rcases List.mem_append.1 hq with h1 | h1
 ·have := hA q h1
  exact ⟨by omega, by omega⟩
 ·rcases List.mem_cons.1 h1 with rfl | h2
  ·exact ⟨by omega, fun _ => bef_irr _⟩
  ·exact ⟨hB q h2, fun _ => bef_asym _ _ ((List.pairwise_cons.1 (List.pairwise_append.1 hs).2.1).1 q h2)⟩
theorem getD_in {p : List Int} {i : Nat} (hi : i < p.length) : p.getD i 0 = p[i] := by rw [List.getD_eq_getElem?_getD, List.getElem?_eq_getElem hi]; rfl
theorem mem_cast {P : Nat → Bool} {n i : Nat} : (i : Int) ∈ castL ((List.range n).filter P) ↔ i < n ∧ P i = true := by
 unfold castL
 rw [List.mem_map]
 constructor
 ·rintro ⟨k, hk, e⟩
  rw [List.mem_filter, List.mem_range] at hk
  obtain rfl : k = i := by omega
  exact hk
 ·intro h
  exact ⟨i, by rw [List.mem_filter, List.mem_range]; exact h, rfl⟩
theorem hasI_iff {l : List Int} {x : Int} : hasI l x = true ↔ x ∈ l := by
 unfold hasI
 rw [List.any_eq_true]
 constructor
 ·rintro ⟨a, ha, h⟩
  rw [beq_iff_eq] at h
  rw [h]; exact ha
 ·intro h
  exact ⟨x, h, by simp⟩
theorem rising_cast (P : Nat → Bool) (n : Nat) : risingB n (castL ((List.range n).filter P)) = true := by
 refine List.all_eq_true.2 fun k hk => ?_
 rw [List.mem_range] at hk
 have hr := castL_ris P n
 rw [List.pairwise_iff_getElem] at hr
 obtain ⟨j, hj, ej⟩ := mem_castL (List.getElem_mem hk)
 rw [List.mem_filter, List.mem_range] at hj
 have eg := getD_in hk
 unfold riseP
 rw [eg, ej]
 have h1 : inB (j : Int) 0 ((n : Int) - 1) = true := by simp only [inB, Bool.and_eq_true, decide_eq_true_eq]; omega
 rw [h1, Bool.true_and, Bool.not_eq_true', Bool.and_eq_false_iff]
 by_cases h0 : 0 < k
 ·refine .inr ?_
  have := hr (k - 1) k (by omega) hk (by omega)
  rw [getD_in (show k - 1 < _ by omega)]
  rw [decide_eq_false_iff_not]
  omega
 ·exact .inl (by simp [h0])
end Go.Den.Ch
end

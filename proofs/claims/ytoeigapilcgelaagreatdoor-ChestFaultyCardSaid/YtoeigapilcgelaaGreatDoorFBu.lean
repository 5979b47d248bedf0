/- Part of the proof that for every input the function ChestFaulty returns true and each argument reads as it did. Texts: ChLa. -/
import Derived.Test.YtoeigapilcgelaaGreatDoorFBt
set_option linter.unusedSimpArgs false
set_option linter.unusedVariables false
section
namespace Go.Den
theorem wopsD_merge {E : Env} {os : List DOper} {R : List Foot → Prop} {K : List PV → St → Prop} {Q : Ex → List PV → St → Prop} {tm : List PV} {st : St} (J : List PV → St → Prop) (h : WOpsD E os (fun e tm st fs => R fs ∧ andThen J Q e tm st) tm st) (k : ∀ tm st, J tm st → K tm st) : WOpsD E os (fun e tm st fs => R fs ∧ andThen K Q e tm st) tm st := by
  unfold WOpsD at h ⊢
  obtain ⟨N, e, tm', st', fs, h1, h2, h3⟩ := h
  exact ⟨N, e, tm', st', fs, h1, h2, andThen_mono k (fun _ _ _ _ h => h) _ _ _ h3⟩
theorem wops_merge {E : Env} {os : List DOper} {K : List PV → St → Prop} {Q : Ex → List PV → St → Prop} {tm : List PV} {st : St} (J : List PV → St → Prop) (h : WOps E os (andThen J Q) tm st) (k : ∀ tm st, J tm st → K tm st) : WOps E os (andThen K Q) tm st := by
  unfold WOps at h ⊢
  obtain ⟨N, e, tm', st', h1, h2⟩ := h
  exact ⟨N, e, tm', st', h1, andThen_mono k (fun _ _ _ _ h => h) _ _ _ h2⟩
theorem undef_e : undef = .tuple [] := rfl
end Go.Den
namespace Go.Den.Ch
def sumL (c : CL) (p : List Int) (n : Int) : Int := (layerL c.figs p n).sum
def NoFull (c : CL) (p : List Int) : Prop := ∀ n : Int, 0 ≤ n → n < c.depth → ¬ sumL c p n > c.room
def NoGap (c : CL) (p : List Int) : Prop := ∀ n : Int, 0 ≤ n → n < layersL p → sumL c p n ≠ 0
def NoDis (c : CL) (p : List Int) (i : Nat) : Prop := ∀ (a b : Nat) (x y : Int) (f g : Fig), p[a]? = some x → p[b]? = some y → c.figs[a]? = some f → c.figs[b]? = some g → x < y → ¬ key i f > key i g
theorem sum_zero {l : List Int} (h : ∀ x ∈ l, 1 ≤ x) (hs : l.sum = 0) : l = [] := by
  cases l with
  | nil => rfl
  | cons x l =>
    have h1 := h x (by simp)
    have h2 := (sum_bound (l := l) (b := l.foldl max 0) (by
      have : ∀ (l : List Int) (a : Int), a ≤ l.foldl max a := by
        intro l
        induction l with
        | nil => intro a; exact Int.le_refl _
        | cons y l ih => intro a; exact Int.le_trans (Int.le_max_left a y) (ih _)
      exact this l 0) (fun y hy => ⟨by have := h y (by simp [hy]); omega, by
        have : ∀ (l : List Int) (a : Int), y ∈ l → y ≤ l.foldl max a := by
          intro l
          induction l with
          | nil => intro a h; simp at h
          | cons z l ih =>
            intro a h
            have mono : ∀ (l : List Int) (a : Int), a ≤ l.foldl max a := by
              intro l
              induction l with
              | nil => intro a; exact Int.le_refl _
              | cons y l ih => intro a; exact Int.le_trans (Int.le_max_left a y) (ih _)
            rcases List.mem_cons.1 h with rfl | h
            · exact Int.le_trans (Int.le_max_right a y) (mono l _)
            · exact ih _ h
        exact this l 0 hy⟩)).1
    simp only [List.sum_cons] at hs
    omega
theorem fullL_none {c : CL} {p : List Int} (h : fullL c p = none) : NoFull c p := by
  intro n h0 h1 h2
  have := List.findSome?_eq_none_iff.1 h n.toNat (by rw [List.mem_range]; omega)
  have h2' : (layerL c.figs p n).sum > c.room := h2
  rw [Int.toNat_of_nonneg h0, if_pos h2'] at this
  cases this
theorem fullL_some {c : CL} {p : List Int} {f : Flt} (hd : 0 ≤ c.depth) (h : fullL c p = some f) : ∃ n : Nat, f = ⟨1, n, 0⟩ ∧ (n : Int) < c.depth ∧ sumL c p n > c.room := by
  obtain ⟨n, hn, h1⟩ := List.exists_of_findSome?_eq_some h
  rw [List.mem_range] at hn
  split at h1
  · rename_i h2
    cases h1
    exact ⟨n, rfl, by omega, h2⟩
  · cases h1
theorem gapL_none {c : CL} {p : List Int} (hc : OkL c) (h : gapL c p = none) : NoGap c p := by
  intro n h0 h1 h2
  have := List.findSome?_eq_none_iff.1 h n.toNat (by rw [List.mem_range]; omega)
  rw [Int.toNat_of_nonneg h0] at this
  have he : layerL c.figs p n = [] := sum_zero (fun x hx => ((hc.layer p n).2 x hx).1) h2
  rw [he] at this
  simp at this
theorem gapL_some {c : CL} {p : List Int} {f : Flt} (h : gapL c p = some f) : ∃ n : Nat, f = ⟨2, n, 0⟩ ∧ (n : Int) < layersL p ∧ sumL c p n = 0 := by
  obtain ⟨n, hn, h1⟩ := List.exists_of_findSome?_eq_some h
  rw [List.mem_range] at hn
  split at h1
  · rename_i h2
    cases h1
    refine ⟨n, rfl, by omega, ?_⟩
    rw [sumL, List.eq_nil_of_length_eq_zero h2]; rfl
  · cases h1
theorem disA_none {c : CL} {p : List Int} {i : Nat} (h : disA c p i = none) : NoDis c p i := by
  intro a b x y f g ha hb hfa hfb hxy hk
  have hla : a < c.figs.length := (List.getElem?_eq_some_iff.1 hfa).1
  have hlb : b < c.figs.length := (List.getElem?_eq_some_iff.1 hfb).1
  have h1 := List.findSome?_eq_none_iff.1 h a (List.mem_range.2 hla)
  have h2 := List.findSome?_eq_none_iff.1 h1 b (List.mem_range.2 hlb)
  have h3 : brk c p i a b = true := by
    unfold brk
    rw [ha, hb, hfa, hfb]
    simp [hxy, hk]
  rw [h3, if_pos rfl] at h2
  cases h2
theorem disA_some {c : CL} {p : List Int} {i : Nat} {e : Flt} (h : disA c p i = some e) : ∃ (a b : Nat) (x y : Int) (f g : Fig), e = ⟨3 + i, a, b⟩ ∧ p[a]? = some x ∧ p[b]? = some y ∧ c.figs[a]? = some f ∧ c.figs[b]? = some g ∧ x < y ∧ key i f > key i g := by
  obtain ⟨a, ha, h1⟩ := List.exists_of_findSome?_eq_some h
  obtain ⟨b, hb, h2⟩ := List.exists_of_findSome?_eq_some h1
  split at h2
  · rename_i h3
    cases h2
    unfold brk at h3
    split at h3
    · rename_i x y f g e1 e2 e3 e4
      simp only [Bool.and_eq_true, decide_eq_true_eq] at h3
      exact ⟨a, b, x, y, f, g, rfl, e1, e2, e3, e4, h3.1, h3.2⟩
    · cases h3
  · cases h2
theorem dis_none {c : CL} {p : List Int} (h : disorder c p = none) : NoDis c p 0 ∧ NoDis c p 1 :=
  ⟨disA_none (List.findSome?_eq_none_iff.1 h 0 (by simp)), disA_none (List.findSome?_eq_none_iff.1 h 1 (by simp))⟩
theorem dis_some {c : CL} {p : List Int} {e : Flt} (h : disorder c p = some e) : disA c p 0 = some e ∨ (NoDis c p 0 ∧ disA c p 1 = some e) := by
  have h2 : List.range 2 = [0, 1] := rfl
  unfold disorder at h
  rw [h2] at h
  cases h0 : disA c p 0 with
  | some f => simp only [List.findSome?_cons, h0] at h; exact .inl h
  | none =>
    simp only [List.findSome?_cons, h0, List.findSome?_nil] at h
    refine .inr ⟨disA_none h0, ?_⟩
    cases h1 : disA c p 1 with
    | some g => rw [h1] at h; exact h
    | none => rw [h1] at h; cases h
theorem fault_none {c : CL} {p : List Int} (hc : OkL c) (h : fault c p = none) : NoFull c p ∧ NoGap c p ∧ NoDis c p 0 ∧ NoDis c p 1 := by
  unfold fault at h
  rw [Option.or_eq_none_iff, Option.or_eq_none_iff] at h
  exact ⟨fullL_none h.1, gapL_none hc h.2.1, dis_none h.2.2⟩
inductive FaultSays (c : CL) (p : List Int) : Flt → Prop
  | full (n : Nat) (h1 : (n : Int) < c.depth) (h2 : sumL c p n > c.room) : FaultSays c p ⟨1, n, 0⟩
  | gap (n : Nat) (h1 : (n : Int) < c.depth) (h2 : (n : Int) < layersL p) (h3 : sumL c p n = 0) (nf : NoFull c p) : FaultSays c p ⟨2, n, 0⟩
  | rank (a b : Nat) (x y : Int) (f g : Fig) (ha : p[a]? = some x) (hb : p[b]? = some y) (hfa : c.figs[a]? = some f) (hfb : c.figs[b]? = some g) (h1 : x < y) (h2 : f.rank < g.rank) (nf : NoFull c p) (ng : NoGap c p) : FaultSays c p ⟨3, a, b⟩
  | eve (a b : Nat) (x y : Int) (f g : Fig) (ha : p[a]? = some x) (hb : p[b]? = some y) (hfa : c.figs[a]? = some f) (hfb : c.figs[b]? = some g) (h1 : x < y) (h2 : f.eve > g.eve) (nf : NoFull c p) (ng : NoGap c p) (nr : NoDis c p 0) : FaultSays c p ⟨4, a, b⟩
theorem fault_some {c : CL} {p : List Int} {e : Flt} (hc : OkL c) (hp0 : OkP c p) (h : fault c p = some e) : FaultSays c p e := by
  unfold fault at h
  cases h1 : fullL c p with
  | some f =>
    rw [h1] at h
    cases h
    obtain ⟨n, rfl, h2, h3⟩ := fullL_some hc.d0 h1
    exact .full n h2 h3
  | none =>
    have nf := fullL_none h1
    rw [h1, Option.none_or] at h
    cases h2 : gapL c p with
    | some f =>
      rw [h2] at h
      cases h
      obtain ⟨n, rfl, h3, h4⟩ := gapL_some h2
      have := layersL_bound hc.d0 (fun x hx => (hp0.rng x hx).2)
      exact .gap n (by omega) h3 h4 nf
    | none =>
      have ng := gapL_none hc h2
      rw [h2, Option.none_or] at h
      rcases dis_some h with h3 | ⟨nr, h3⟩
      · obtain ⟨a, b, x, y, f, g, rfl, ha, hb, hfa, hfb, hxy, hk⟩ := disA_some h3
        exact .rank a b x y f g ha hb hfa hfb hxy (by simp [key] at hk; omega) nf ng
      · obtain ⟨a, b, x, y, f, g, rfl, ha, hb, hfa, hfb, hxy, hk⟩ := disA_some h3
        exact .eve a b x y f g ha hb hfa hfb hxy (by simpa [key] using hk) nf ng nr
end Go.Den.Ch
end

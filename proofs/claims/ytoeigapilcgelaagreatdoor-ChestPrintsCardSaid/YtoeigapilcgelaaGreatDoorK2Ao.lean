/- Part of the proofs of laws of the package chest: the interpreter Den, its soundness, and contracts of the program's functions over it. Texts: DenDrawD, DenDrawE. -/
import Derived.Test.YtoeigapilcgelaaGreatDoorK2An
set_option linter.unusedSimpArgs false
set_option linter.unusedVariables false
section
namespace Go.Den
section
variable {E : Env} {rec : Rec} {ds : List DOper} {tm : List PV} {st : St}
def StepAt (E : Env) (rec : Rec) (tm : List PV) (st : St) (d : DOper) (v : PV) (st1 : St) (f : Foot) : Prop :=
 (wants tm d.guard = true ∧ ∃ st2, stepOp E rec tm { st with lo := st.heap.length } d.op = some (.val v st2) ∧ st1 = { st2 with lo := min st.lo st2.lo } ∧ f = footOf tm d.op st.heap.length st2.lo) ∨
 (wants tm d.guard = false ∧ v = undef ∧ st1 = st ∧ f = .quiet)
structure Trace (E : Env) (rec : Rec) (ds : List DOper) (tm : List PV) (st : St) (K : Nat) (tms : Nat → List PV) (sts : Nat → St) (vs : Nat → PV) (fo : Nat → Foot) : Prop where
 z1 : tms 0 = tm
 z2 : sts 0 = st
 le : K ≤ ds.length
 step : ∀ j d, j < K → ds[j]? = some d → StepAt E rec (tms j) (sts j) d (vs j) (sts (j + 1)) (fo j) ∧ tms (j + 1) = put (tms j) d.dst (vs j)
def TEnd (E : Env) (rec : Rec) (ds : List DOper) (K : Nat) (tms : Nat → List PV) (sts : Nat → St) (e : Ex) (tm' : List PV) (st' : St) : Prop :=
 (K = ds.length ∧ e = .normal ∧ tm' = tms K ∧ st' = sts K) ∨
 (K + 1 = ds.length ∧ ∃ d v st2, ds[K]? = some d ∧ wants (tms K) d.guard = true ∧ stepOp E rec (tms K) { sts K with lo := (sts K).heap.length } d.op = some (.panic v st2) ∧ e = .panic v ∧ tm' = tms K ∧ st' = { st2 with lo := min (sts K).lo st2.lo })
def cons' {α : Type} (x : α) (f : Nat → α) : Nat → α
 | 0 => x
 | n + 1 => f n
theorem Trace.cons {d : DOper} {K : Nat} {tms : Nat → List PV} {sts : Nat → St} {vs : Nat → PV} {fo : Nat → Foot} {v : PV} {f : Foot} {st1 : St} (h1 : StepAt E rec tm st d v st1 f) (h : Trace E rec ds (put tm d.dst v) st1 K tms sts vs fo) :
  Trace E rec (d :: ds) tm st (K + 1) (cons' tm tms) (cons' st sts) (cons' v vs) (cons' f fo) := by
 refine ⟨rfl, rfl, by have := h.le; simp; omega, fun j d' hj hd => ?_⟩
 cases j with
 | zero =>
  simp at hd; subst hd
  refine ⟨?_, ?_⟩
  ·show StepAt E rec tm st d v (sts 0) f
   rw [h.z2]; exact h1
  ·show tms 0 = _
   rw [h.z1]; rfl
 | succ j => exact h.step j d' (by omega) (by simpa using hd)
theorem trace_of : ∀ {ds : List DOper} {tm : List PV} {st : St} {e : Ex} {tm' : List PV} {st' : St} {fs : List Foot}, stepOpsD E rec ds tm st = some (e, tm', st', fs) →
  ∃ K tms sts vs fo, Trace E rec ds tm st K tms sts vs fo ∧ TEnd E rec ds K tms sts e tm' st' ∧ ∀ j, j < K → fs[j]? = some (fo j)
 | [], tm, st, e, tm', st', fs, h => by
  simp only [stepOpsD] at h; cases h
  exact ⟨0, fun _ => tm, fun _ => st, fun _ => undef, fun _ => .quiet, ⟨rfl, rfl, Nat.le_refl _, fun j d hj => by omega⟩, .inl ⟨rfl, rfl, rfl, rfl⟩, fun j hj => by omega⟩
 | d :: ds, tm, st, e, tm', st', fs, h => by
  have fin : ∀ {v : PV} {st1 : St} {f : Foot} {fs1 : List Foot}, StepAt E rec tm st d v st1 f → stepOpsD E rec ds (put tm d.dst v) st1 = some (e, tm', st', fs1) → fs = f :: fs1 →
    ∃ K tms sts vs fo, Trace E rec (d :: ds) tm st K tms sts vs fo ∧ TEnd E rec (d :: ds) K tms sts e tm' st' ∧ ∀ j, j < K → fs[j]? = some (fo j) := by
   intro v st1 f fs1 h1 h2 h3
   obtain ⟨K, tms, sts, vs, fo, t1, t2, t3⟩ := trace_of h2
   refine ⟨K + 1, cons' tm tms, cons' st sts, cons' v vs, cons' f fo, t1.cons h1, ?_, fun j hj => ?_⟩
   ·rcases t2 with ⟨a1, a2, a3, a4⟩ | ⟨a1, d', v', st2, a2, a3, a4, a5, a6, a7⟩
    ·exact .inl ⟨by simp [a1], a2, a3, a4⟩
    ·exact .inr ⟨by simp [a1], d', v', st2, by simpa using a2, a3, a4, a5, a6, a7⟩
   ·subst h3
    cases j with
    | zero => rfl
    | succ j => show fs1[j]? = some (fo j); exact t3 j (by omega)
  simp only [stepOpsD] at h
  split at h
  ·rename_i hw
   split at h
   ·rename_i v st1 hs
    split at h
    ·rename_i hr; cases h
     exact fin (.inl ⟨hw, st1, hs, rfl, rfl⟩) hr rfl
    ·cases h
   ·rename_i v st1 hs
    split at h
    ·rename_i hemp
     cases h
     have hnil : ds = [] := List.isEmpty_iff.1 hemp
     subst hnil
     exact ⟨0, fun _ => tm, fun _ => st, fun _ => undef, fun _ => .quiet, ⟨rfl, rfl, Nat.zero_le _, fun j d hj => by omega⟩, .inr ⟨rfl, d, v, st1, rfl, hw, hs, rfl, rfl, rfl⟩, fun j hj => by omega⟩
    ·cases h
   ·cases h
  ·rename_i hw
   split at h
   ·rename_i hr; cases h
    exact fin (.inr ⟨by simpa using hw, rfl, rfl, rfl⟩) hr rfl
   ·cases h
section
variable {K : Nat} {tms : Nat → List PV} {sts : Nat → St} {vs : Nat → PV} {fo : Nat → Foot} (T : Trace E rec ds tm st K tms sts vs fo)
include T
theorem Trace.get {j : Nat} (hj : j < K) : ∃ d, ds[j]? = some d := ⟨_, List.getElem?_eq_getElem (Nat.lt_of_lt_of_le hj T.le)⟩
theorem Trace.grow1 (hg : GrowCall rec) {j : Nat} (hj : j < K) : Grows (sts j) (sts (j + 1)) := by
 obtain ⟨d, hd⟩ := T.get hj
 rcases (T.step j d hj hd).1 with ⟨_, st2, h1, h2, _⟩ | ⟨_, _, h2, _⟩
 ·rw [h2]
  exact Grows.reset (stepOp_grows (r := .val (vs j) st2) hg (Nat.le_refl _) h1)
 ·rw [h2]; exact .refl _
theorem Trace.grow (hg : GrowCall rec) {i : Nat} : ∀ {j : Nat}, i ≤ j → j ≤ K → Grows (sts i) (sts j) := by
 intro j hij
 induction hij with
 | refl => exact fun _ => .refl _
 | @step j hij ih => exact fun hj => (ih (by omega)).trans (T.grow1 hg (by omega))
theorem Trace.calm {j : Nat} (hj : j < K) {d : DOper} (hd : ds[j]? = some d) (hw : isHeavy (weight d.op) = false) : (sts (j + 1)).heap = (sts j).heap := by
 rcases (T.step j d hj hd).1 with ⟨_, st2, h1, h2, _⟩ | ⟨_, _, h2, _⟩
 ·rw [h2]
  have hlt : weight d.op = 0 ∨ weight d.op = 1 := by
   unfold isHeavy at hw
   have : weight d.op ≤ 3 := by cases d.op <;> simp [weight]
   simp only [Bool.or_eq_false_iff, beq_eq_false_iff_ne] at hw
   omega
  rcases hlt with h | h
  ·obtain ⟨v, h3, _⟩ := light_val h h1; cases h3; rfl
  ·obtain ⟨v, h3, _⟩ := look_val h h1; cases h3; rfl
 ·rw [h2]
theorem Trace.made {j : Nat} (hj : j < K) {d : DOper} (hd : ds[j]? = some d) (hw : weight d.op = 3) : (wants (tms j) d.guard = true ∧ ∃ z, d.op = .alloc z ∧ (sts (j + 1)).heap = (sts j).heap ++ [.var z] ∧ vs j = .ptr (sts j).heap.length 0) ∨ (wants (tms j) d.guard = false ∧ (sts (j + 1)).heap = (sts j).heap ∧ vs j = undef) := by
 rcases (T.step j d hj hd).1 with ⟨hwt, st2, h1, h2, hfo⟩ | ⟨hwt, hv, h2, hfo⟩
 ·left
  obtain ⟨dop, dst, g⟩ := d
  cases dop <;> simp only [weight] at hw <;> first | (cases hw; done) | skip
  rename_i z
  simp only [stepOp, Option.some.injEq, OpR.val.injEq] at h1
  obtain ⟨h1a, h1b⟩ := h1
  rw [h2, ← h1b]
  exact ⟨hwt, z, rfl, rfl, h1a.symm⟩
 ·exact .inr ⟨hwt, by rw [h2], hv⟩
theorem Trace.ext (i : Nat) : ∀ {j : Nat}, i ≤ j → j ≤ K → (∀ x d, i ≤ x → x < j → ds[x]? = some d → weight d.op ≠ 2) → ∃ e, (sts j).heap = (sts i).heap ++ e := by
 intro j hij
 induction hij with
 | refl => exact fun _ _ => ⟨[], by simp⟩
 | @step j hij ih =>
  have hij' := Nat.le_trans (Nat.le_refl _) hij
  intro hj hx
  obtain ⟨e, he⟩ := ih (by omega) (fun x d h1 h2 h3 => hx x d h1 (by omega) h3)
  obtain ⟨d, hd⟩ := T.get (show j < K by omega)
  by_cases hh : isHeavy (weight d.op) = true
  ·have h3 : weight d.op = 3 := by
    have := hx j d hij (Nat.lt_succ_self _) hd
    unfold isHeavy at hh
    simp only [Bool.or_eq_true, beq_iff_eq] at hh
    omega
   rcases T.made (by omega) hd h3 with ⟨_, z, _, h4, _⟩ | ⟨_, h4, _⟩
   ·exact ⟨e ++ [.var z], by rw [h4, he]; simp⟩
   ·exact ⟨e, by rw [h4, he]⟩
  ·exact ⟨e, by rw [T.calm (by omega) hd (by simpa using hh), he]⟩
theorem Trace.same (hg : GrowCall rec) {i l : Nat} (hl : l < (sts i).heap.length) : ∀ {j : Nat}, i ≤ j → j ≤ K → (∀ x d, i ≤ x → x < j → ds[x]? = some d → weight d.op = 2 → clash l (fo x) = false) → (sts j).heap[l]? = (sts i).heap[l]? := by
 intro j hij
 induction hij with
 | refl => exact fun _ _ => rfl
 | @step j hij ih =>
  have hij' := Nat.le_trans (Nat.le_refl _) hij
  intro hj hx
  rw [← ih (by omega) (fun x d h1 h2 h3 h4 => hx x d h1 (by omega) h3 h4)]
  obtain ⟨d, hd⟩ := T.get (show j < K by omega)
  have hl' : l < (sts j).heap.length := Nat.lt_of_lt_of_le hl (T.grow hg hij (by omega)).2.1
  by_cases h2 : weight d.op = 2
  ·have hc := hx j d hij (Nat.lt_succ_self _) hd h2
   rcases (T.step j d (by omega) hd).1 with ⟨_, st2, h3, h4, h5⟩ | ⟨_, _, h4, _⟩
   ·rw [h5] at hc
    rw [h4]
    exact foot_sound h2 hg h3 hl' hc
   ·rw [h4]
  ·by_cases h3 : weight d.op = 3
   ·rcases T.made (by omega) hd h3 with ⟨_, z, _, h4, _⟩ | ⟨_, h4, _⟩
    ·rw [h4, List.getElem?_append_left hl']
    ·rw [h4]
   ·rw [T.calm (by omega) hd (by unfold isHeavy; simp [h2, h3])]
omit T in
theorem put_length (tm : List PV) (dst : Option Nat) (v : PV) : (put tm dst v).length = tm.length := by cases dst <;> simp [put]
theorem Trace.tlen {j : Nat} (hj : j ≤ K) : (tms j).length = tm.length := by
 induction j with
 | zero => rw [T.z1]
 | succ j ih =>
  obtain ⟨d, hd⟩ := T.get (show j < K by omega)
  rw [(T.step j d (by omega) hd).2, put_length, ih (by omega)]
theorem Trace.old {t : Nat} {j : Nat} (hj : j ≤ K) (hx : ∀ x d, x < j → ds[x]? = some d → d.dst ≠ some t) : (tms j)[t]? = tm[t]? := by
 induction j with
 | zero => rw [T.z1]
 | succ j ih =>
  obtain ⟨d, hd⟩ := T.get (show j < K by omega)
  have ih := ih (by omega) (fun x d h1 h2 => hx x d (by omega) h2)
  rw [← ih, (T.step j d (by omega) hd).2]
  have := hx j d (Nat.lt_succ_self _) hd
  cases hdst : d.dst with
  | none => rfl
  | some t' =>
   rw [hdst] at this
   simp only [put]
   rw [List.getElem?_set_ne (fun e => this (by rw [e]))]
theorem Trace.new {t i : Nat} (hi : i < K) {di : DOper} (hdi : ds[i]? = some di) (ht : di.dst = some t) (htl : t < tm.length) (huniq : ∀ x d, x ≠ i → ds[x]? = some d → d.dst ≠ some t) : ∀ {j : Nat}, i + 1 ≤ j → j ≤ K → (tms j)[t]? = some (vs i) := by
 intro j hij
 induction hij with
 | refl =>
  intro hj
  rw [(T.step i di hi hdi).2, ht]
  simp only [put]
  rw [List.getElem?_set_self (by rw [T.tlen (by omega)]; exact htl)]
 | @step j hij ih =>
  have hij' := Nat.le_trans (Nat.le_refl _) hij
  intro hj
  obtain ⟨d, hd⟩ := T.get (show j < K by omega)
  have ih := ih (by omega)
  rw [← ih, (T.step j d (by omega) hd).2]
  have := huniq j d (by omega) hd
  cases hdst : d.dst with
  | none => rfl
  | some t' =>
   rw [hdst] at this
   simp only [put]
   rw [List.getElem?_set_ne (fun e => this (by rw [e]))]
theorem Trace.next : ∀ (n x : Nat), K - x = n → x ≤ K → ∃ c, x ≤ c ∧ c ≤ K ∧ (c = K ∨ ∃ d, c < K ∧ ds[c]? = some d ∧ weight d.op = 2) ∧ ∀ y d, x ≤ y → y < c → ds[y]? = some d → weight d.op ≠ 2
 | 0, x, hn, hx => ⟨x, Nat.le_refl _, hx, .inl (by omega), fun y d h1 h2 => by omega⟩
 | n + 1, x, hn, hx => by
  obtain ⟨d, hd⟩ := T.get (show x < K by omega)
  by_cases h2 : weight d.op = 2
  ·exact ⟨x, Nat.le_refl _, hx, .inr ⟨d, by omega, hd, h2⟩, fun y d h1 h2 => by omega⟩
  ·obtain ⟨c, h3, h4, h5, h6⟩ := Trace.next n (x + 1) (by omega) (by omega)
   refine ⟨c, by omega, h4, h5, fun y d' h7 h8 h9 => ?_⟩
   by_cases hy : y = x
   ·subst hy; rw [hd] at h9; cases h9; exact h2
   ·exact h6 y d' (by omega) h8 h9
end
end
end Go.Den
end
section
namespace Go.Den
def Don (listed : Array Bool) (i : Nat) : Prop := listed.getD i false = true
theorem Don.set {listed : Array Bool} {i : Nat} (hi : i < listed.size) (x : Nat) : Don (listed.setIfInBounds i true) x ↔ x = i ∨ Don listed x := by
 unfold Don
 by_cases h : x = i
 ·subst h
  simp [Array.getD_eq_getD_getElem?, hi]
 ·simp only [h, false_or]
  rw [Array.getD_eq_getD_getElem?, Array.getD_eq_getD_getElem?, Array.getElem?_setIfInBounds_ne (Ne.symm h)]
section
variable (P : Program) (B0 : Nat) (w0 : World) (B : Nat) (ds : List DOper) (pl : List (List Nat)) (tm : List PV) (st : St) (K : Nat) (tms : Nat → List PV) (sts : Nat → St) (vs : Nat → PV) (GS : Gh) (wS : World) (lo : Nat)
structure Inv (listed : Array Bool) (a : Act) (w : World) (c : Nat) (G : Gh) (tmS : List PV) : Prop where
 sz : listed.size = ds.length
 closed : Closed pl (Don listed)
 cK : c ≤ K
 cN : c = K ∨ ∃ d, c < K ∧ ds[c]? = some d ∧ weight d.op = 2 ∧ ¬ Don listed c
 cD : ∀ (i : Nat) (d : DOper), i < c → ds[i]? = some d → weight d.op = 2 → Don listed i
 SK : ∀ i, Don listed i → i < K
 wr : WR P B0 w0 G (sts c).heap w
 hole : ∀ (i : Nat) (d : DOper), i < c → ds[i]? = some d → weight d.op = 3 → wants (tms i) d.guard = true → ¬ Don listed i → G.be (sts i).heap.length = none ∧ G.tg (sts i).heap.length = none
 ext : Ext GS st.heap wS G (sts c).heap w lo
 tl : tmS.length = tm.length
 tv : VRL G w tmS a.tmps.toList
 tn : ∀ (i : Nat) (d : DOper) (t : Nat), Don listed i → ds[i]? = some d → d.dst = some t → t < tm.length → tmS[t]? = some (vs i)
 told : ∀ t, (∀ (i : Nat) (d : DOper), Don listed i → ds[i]? = some d → d.dst ≠ some t) → tmS[t]? = tm[t]?
 df : DefsOK B G w a.defers w.heap.size
end
section
variable {P : Program} {B0 : Nat} {w0 : World} {B : Nat} {ds : List DOper} {pl : List (List Nat)} {tm : List PV} {st : St} {K : Nat} {tms : Nat → List PV} {sts : Nat → St} {vs : Nat → PV} {GS : Gh} {wS : World} {lo : Nat} {E : Env} {rec : Rec} {fo : Nat → Foot} {mu : TypeId → Bool} {ops : Array Oper} {free : List (Nat × List Nat)}
 {listed : Array Bool} {a : Act} {w : World} {c : Nat} {G : Gh} {tmS : List PV}
theorem Inv.agree (T : Trace E rec ds tm st K tms sts vs fo) (C : Checked P mu ops ds pl free) (I : Inv P B0 w0 B ds pl tm st K tms sts vs GS wS lo listed a w c G tmS) {j : Nat} {d : DOper} (hj : ds[j]? = some d) (hK : j ≤ K) (hn : ¬ Don listed j) (hp : ∀ p ∈ pl.getD j [], Don listed p) : Agree tmS (tms j) d.reads := by
 intro t ht
 by_cases hwr : ∃ (i : Nat) (di : DOper), ds[i]? = some di ∧ di.dst = some t
 ·obtain ⟨i, di, hi, hd⟩ := hwr
  have uniq : ∀ (x : Nat) (dx : DOper), x ≠ i → ds[x]? = some dx → dx.dst ≠ some t := fun x dx hx hdx => C.once i x di dx t (Ne.symm hx) hi hdx hd
  by_cases hij : i < j
  ·have hS : Don listed i := ordered_closed I.closed ((C.data i j di d t (by omega) hi hj hd ht).1 hij) hp
   by_cases htl : t < tm.length
   ·rw [I.tn i di t hS hi hd htl, T.new (by omega) hi hd htl uniq (by omega) hK]
   ·rw [List.getElem?_eq_none (by rw [I.tl]; omega), List.getElem?_eq_none (by rw [T.tlen hK]; omega)]
  ·have hS : ¬ Don listed i := by
    intro h
    by_cases he : i = j
    ·subst he; exact hn h
    ·exact hn (ordered_in I.closed ((C.data i j di d t he hi hj hd ht).2 (by omega)) h)
   rw [I.told t (fun x dx h1 h2 h3 => by
    by_cases hx : x = i
    ·subst hx; exact hS h1
    ·exact uniq x dx hx h2 h3), T.old hK (fun x dx h1 h2 => uniq x dx (by omega) h2)]
 ·have h : ∀ (x : Nat) (dx : DOper), ds[x]? = some dx → dx.dst ≠ some t := fun x dx h1 h2 => hwr ⟨x, dx, h1, h2⟩
  rw [I.told t (fun x dx _ h2 => h x dx h2), T.old hK (fun x dx _ h2 => h x dx h2)]
theorem Inv.put (C : Checked P mu ops ds pl free) (I : Inv P B0 w0 B ds pl tm st K tms sts vs GS wS lo listed a w c G tmS) {i : Nat} {d : DOper} (hi : ds[i]? = some d) (hiK : i < K) (hn : ¬ Don listed i) (hp : ∀ p ∈ pl.getD i [], Don listed p)
  {c' : Nat} {G' : Gh} {w' : World} {u : Value} (hc1 : c' ≤ K) (hc2 : c' = K ∨ ∃ d, c' < K ∧ ds[c']? = some d ∧ weight d.op = 2 ∧ ¬ Don (listed.setIfInBounds i true) c') (hc3 : ∀ (x : Nat) (d : DOper), x < c' → ds[x]? = some d → weight d.op = 2 → Don (listed.setIfInBounds i true) x)
  (hwr : WR P B0 w0 G' (sts c').heap w') (hhole : ∀ (x : Nat) (d : DOper), x < c' → ds[x]? = some d → weight d.op = 3 → wants (tms x) d.guard = true → ¬ Don (listed.setIfInBounds i true) x → G'.be (sts x).heap.length = none ∧ G'.tg (sts x).heap.length = none)
  (hext : Ext GS st.heap wS G' (sts c').heap w' lo) (hpres : Pres G w G' w') (hv : VR G' w' (vs i) u) (hdf : DefsOK B G' w' a.defers w'.heap.size) :
  Inv P B0 w0 B ds pl tm st K tms sts vs GS wS lo (listed.setIfInBounds i true) (a.put d.dst u) w' c' G' (Den.put tmS d.dst (vs i)) := by
 have hlt : i < listed.size := by rw [I.sz]; exact (List.getElem?_eq_some_iff.1 hi).1
 have hD := Don.set hlt
 refine ⟨by rw [Array.size_setIfInBounds]; exact I.sz, fun j hj p hpj => ?_, hc1, hc2, hc3, fun j hj => ?_, hwr, hhole, hext, by rw [put_length]; exact I.tl, put_ok (VRL.mono hpres I.tv) hv _, fun j dj t hj hdj hdt htl => ?_, fun t ht => ?_, by rw [put_defers]; exact hdf⟩
 ·rw [hD]
  rcases (hD j).1 hj with rfl | hj
  ·exact .inr (hp p hpj)
  ·exact .inr (I.closed j hj p hpj)
 ·rcases (hD j).1 hj with rfl | hj
  ·exact hiK
  ·exact I.SK j hj
 ·by_cases hji : j = i
  ·subst hji
   rw [hi] at hdj; cases hdj
   rw [hdt]
   simp only [Den.put]
   rw [List.getElem?_set_self (by rw [I.tl]; exact htl)]
  ·have hj' := ((hD j).1 hj).resolve_left hji
   have hne := C.once j i dj d t hji hdj hi hdt
   rw [← I.tn j dj t hj' hdj hdt htl]
   cases hd2 : d.dst with
   | none => rfl
   | some t' =>
    rw [hd2] at hne
    simp only [Den.put]
    rw [List.getElem?_set_ne (fun e => hne (by rw [e]))]
 ·have hne := ht i d ((hD i).2 (.inl rfl)) hi
  rw [← I.told t (fun x dx h1 h2 => ht x dx ((hD x).2 (.inr h1)) h2)]
  cases hd2 : d.dst with
  | none => rfl
  | some t' =>
   rw [hd2] at hne
   simp only [Den.put]
   rw [List.getElem?_set_ne (fun e => hne (by rw [e]))]
theorem sub_not {i x : Nat} (hlt : i < listed.size) (h : ¬ Don (listed.setIfInBounds i true) x) : x ≠ i ∧ ¬ Don listed x := by
 have := Don.set hlt x
 exact ⟨fun e => h (this.2 (.inl e)), fun e => h (this.2 (.inr e))⟩
theorem Inv.advance (T : Trace E rec ds tm st K tms sts vs fo) (C : Checked P mu ops ds pl free) (I : Inv P B0 w0 B ds pl tm st K tms sts vs GS wS lo listed a w c G tmS) {d : DOper} (hc : ds[c]? = some d) (hcK : c < K) (hw2 : weight d.op = 2) (hn : ¬ Don listed c) (hp : ∀ p ∈ pl.getD c [], Don listed p)
  {G' : Gh} {w' : World} {u : Value} (hwr : WR P B0 w0 G' (sts (c + 1)).heap w') (hext : Ext GS st.heap wS G' (sts (c + 1)).heap w' lo) (hpres : Pres G w G' w') (hv : VR G' w' (vs c) u) (hdf : DefsOK B G' w' a.defers w'.heap.size) (hgr : GrowCall rec) :
  ∃ c' G' tmS', Inv P B0 w0 B ds pl tm st K tms sts vs GS wS lo (listed.setIfInBounds c true) (a.put d.dst u) w' c' G' tmS' := by
 have hlt : c < listed.size := by rw [I.sz]; exact (List.getElem?_eq_some_iff.1 hc).1
 obtain ⟨c', h1, h2, h3, h4⟩ := T.next _ (c + 1) rfl (by omega)
 obtain ⟨e, he⟩ := T.ext (c + 1) h1 h2 (fun x d h5 h6 h7 => h4 x d h5 h6 h7)
 refine ⟨c', G', _, I.put C hc hcK hn hp h2 ?_ (fun x dx hx hdx hwx => ?_) (by rw [he]; exact hwr.pad e) (fun x dx hx hdx hwx hwt hnx => ?_) (by rw [he]; exact hext.pad e) hpres hv hdf⟩
 ·rcases h3 with h3 | ⟨d', h5, h6, h7⟩
  ·exact .inl h3
  ·refine .inr ⟨d', h5, h6, h7, fun hS => ?_⟩
   rcases (Don.set hlt c').1 hS with h8 | h8
   ·omega
   ·refine hn (ordered_in I.closed (C.heavy c c' d d' (by omega) hc h6 (by unfold isHeavy; simp [hw2]) (by unfold isHeavy; simp [h7]) (by omega)) h8)
 ·rw [Don.set hlt]
  by_cases hxc : x < c
  ·exact .inr (I.cD x dx hxc hdx hwx)
  ·by_cases hxe : x = c
   ·exact .inl hxe
   ·exact absurd hwx (h4 x dx (by omega) hx hdx)
 ·obtain ⟨h5, h6⟩ := sub_not hlt hnx
  by_cases hxc : x < c
  ·exact absurd (ordered_closed I.closed (C.heavy x c dx d hxc hdx hc (by unfold isHeavy; simp [hwx]) (by unfold isHeavy; simp [hw2]) (by omega)) hp) h6
  ·exact hwr.dom (T.grow hgr (show c + 1 ≤ x by omega) (by omega)).2.1
theorem Inv.stay (C : Checked P mu ops ds pl free) (I : Inv P B0 w0 B ds pl tm st K tms sts vs GS wS lo listed a w c G tmS) {i : Nat} {d : DOper} (hi : ds[i]? = some d) (hiK : i < K) (hw2 : weight d.op ≠ 2) (hn : ¬ Don listed i) (hp : ∀ p ∈ pl.getD i [], Don listed p)
  {G' : Gh} {w' : World} {u : Value} (hwr : WR P B0 w0 G' (sts c).heap w') (hhole : ∀ (x : Nat) (dx : DOper), x < c → x ≠ i → ds[x]? = some dx → weight dx.op = 3 → wants (tms x) dx.guard = true → G.be (sts x).heap.length = none → G.tg (sts x).heap.length = none → G'.be (sts x).heap.length = none ∧ G'.tg (sts x).heap.length = none)
  (hext : Ext GS st.heap wS G' (sts c).heap w' lo) (hpres : Pres G w G' w') (hv : VR G' w' (vs i) u) (hdf : DefsOK B G' w' a.defers w'.heap.size) :
  ∃ c' G' tmS', Inv P B0 w0 B ds pl tm st K tms sts vs GS wS lo (listed.setIfInBounds i true) (a.put d.dst u) w' c' G' tmS' := by
 have hlt : i < listed.size := by rw [I.sz]; exact (List.getElem?_eq_some_iff.1 hi).1
 refine ⟨c, G', _, I.put C hi hiK hn hp I.cK ?_ (fun x dx hx hdx hwx => (Don.set hlt x).2 (.inr (I.cD x dx hx hdx hwx))) hwr (fun x dx hx hdx hwx hwt hnx => ?_) hext hpres hv hdf⟩
 ·rcases I.cN with h | ⟨d', h1, h2, h3, h4⟩
  ·exact .inl h
  ·refine .inr ⟨d', h1, h2, h3, fun hS => ?_⟩
   rcases (Don.set hlt c).1 hS with h5 | h5
   ·subst h5; rw [hi] at h2; cases h2; exact hw2 h3
   ·exact h4 h5
 ·obtain ⟨h5, h6⟩ := sub_not hlt hnx
  obtain ⟨h7, h8⟩ := I.hole x dx hx hdx hwx hwt h6
  exact hhole x dx hx h5 hdx hwx hwt h7 h8
theorem Inv.turn (C : Checked P mu ops ds pl free) (I : Inv P B0 w0 B ds pl tm st K tms sts vs GS wS lo listed a w c G tmS) {i : Nat} {d : DOper} (hi : ds[i]? = some d) (hiK : i < K) (hw : weight d.op = 2) (hn : ¬ Don listed i) (hp : ∀ p ∈ pl.getD i [], Don listed p) : i = c := by
 rcases Nat.lt_trichotomy i c with h | h | h
 ·exact absurd (I.cD i d h hi hw) hn
 ·exact h
 ·rcases I.cN with h1 | ⟨d', h1, h2, h3, h4⟩
  ·omega
  ·exact absurd (ordered_closed I.closed (C.heavy c i d' d h h2 hi (by unfold isHeavy; simp [h3]) (by unfold isHeavy; simp [hw]) (by omega)) hp) h4
theorem Inv.early (C : Checked P mu ops ds pl free) (I : Inv P B0 w0 B ds pl tm st K tms sts vs GS wS lo listed a w c G tmS) {i : Nat} {d : DOper} (hi : ds[i]? = some d) (hiK : i < K) (hw : weight d.op = 3) (hn : ¬ Don listed i) (hp : ∀ p ∈ pl.getD i [], Don listed p) : i < c := by
 rcases Nat.lt_trichotomy i c with h | h | h
 ·exact h
 ·rcases I.cN with h1 | ⟨d', h1, h2, h3, h4⟩
  ·omega
  ·subst h; rw [hi] at h2; cases h2; omega
 ·rcases I.cN with h1 | ⟨d', h1, h2, h3, h4⟩
  ·omega
  ·exact absurd (ordered_closed I.closed (C.heavy c i d' d h h2 hi (by unfold isHeavy; simp [h3]) (by unfold isHeavy; simp [hw]) (by omega)) hp) h4
end
end Go.Den
end

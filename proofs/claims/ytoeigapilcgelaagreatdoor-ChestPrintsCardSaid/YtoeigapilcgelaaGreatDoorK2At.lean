/- Part of the proofs of laws of the package chest: the interpreter Den, its soundness, and contracts of the program's functions over it. Texts: DenIter, DenFin. -/
import Derived.Test.YtoeigapilcgelaaGreatDoorK2As
set_option linter.unusedSimpArgs false
set_option linter.unusedVariables false
section
namespace Go.Den
def HExt (h h' : List HObj) : Prop := h.length ≤ h'.length ∧ ∀ l, l < h.length → h'[l]? = h[l]?
def isKept : HObj → Bool
 | .var _ => true
 | .loop .. => true
 | .map _ => true
 | _ => false
def KeepV (W : Nat → Prop) (h h' : List HObj) : Prop := h.length ≤ h'.length ∧ ∀ l o, h[l]? = some o → isKept o = true → ¬ W l → h'[l]? = some o
theorem HExt.refl (h : List HObj) : HExt h h := ⟨Nat.le_refl _, fun _ _ => rfl⟩
theorem HExt.trans {a b c : List HObj} (h : HExt a b) (h' : HExt b c) : HExt a c := ⟨Nat.le_trans h.1 h'.1, fun l hl => (h'.2 l (by have := h.1; omega)).trans (h.2 l hl)⟩
theorem HExt.push (st : St) (o : HObj) : HExt st.heap (st.push o).heap := ⟨by rw [len_push]; omega, fun l hl => by
 have := hp_push st o l
 rw [if_neg (by omega)] at this
 exact this⟩
theorem Fr.hext {a b : St} (h : Fr a.heap.length a b) : HExt a.heap b.heap := ⟨h.len, h.old⟩
theorem HExt.hp {a b : St} (h : HExt a.heap b.heap) {l : Nat} {o : HObj} (ho : hp a l = some o) : hp b l = some o := (h.2 l (hp_lt ho)).trans ho
theorem HExt.keep {a b : List HObj} (W : Nat → Prop) (h : HExt a b) : KeepV W a b := ⟨h.1, fun l o ho _ _ => by rw [h.2 l (List.getElem?_eq_some_iff.1 ho).1]; exact ho⟩
theorem KeepV.refl (W : Nat → Prop) (h : List HObj) : KeepV W h h := ⟨Nat.le_refl _, fun _ _ h _ _ => h⟩
theorem KeepV.trans {W : Nat → Prop} {a b c : List HObj} (h : KeepV W a b) (h' : KeepV W b c) : KeepV W a c := ⟨Nat.le_trans h.1 h'.1, fun l o ho hk hw => h'.2 l o (h.2 l o ho hk hw) hk hw⟩
theorem KeepV.mono {W W' : Nat → Prop} {a b : List HObj} (h : KeepV W a b) (hw : ∀ l, W l → W' l) : KeepV W' a b := ⟨h.1, fun l o ho hk hn => h.2 l o ho hk (fun x => hn (hw l x))⟩
theorem KeepV.hp {W : Nat → Prop} {a b : St} (h : KeepV W a.heap b.heap) {l : Nat} {cs : List PV} (ho : hp a l = some (.var cs)) (hw : ¬ W l) : hp b l = some (.var cs) := h.2 l _ ho rfl hw
structure Yld {α : Type} (E : Env) (y : PV) (X : List α) (Rep : PV → α → Prop) (W : Nat → Prop) (e w : Nat) (I : Nat → List HObj → Prop) (S : List HObj → Prop) : Prop where
 stab : ∀ i h h', I i h → HExt h h' → I i h'
 stabS : ∀ h h', S h → HExt h h' → S h'
 step : ∀ i (hi : i < X.length) v st, Rep v X[i] → I i st.heap → e ≤ st.lo → st.lo ≤ st.heap.length → w < st.heap.length → ∃ b st', Cl E y [v] st (.ret (.bool b)) st' ∧ KeepV W st.heap st'.heap ∧ e ≤ st'.lo ∧ st'.lo ≤ w ∧ (b = true → I (i + 1) st'.heap) ∧ (b = false → S st'.heap)
def Iter {α : Type} (E : Env) (f : PV) (st0 : St) (X : List α) (Rep : PV → α → Prop) (priv : Nat → Prop) : Prop :=
 ∀ (y : PV) (W : Nat → Prop) (e w : Nat) (I : Nat → List HObj → Prop) (S : List HObj → Prop), Yld E y X Rep W e w I S → (∀ l, priv l → ¬ W l) → (∀ l, W l → l ≤ w) → I 0 st0.heap → e ≤ st0.lo → st0.lo ≤ st0.heap.length → w < st0.heap.length → e ≤ w → y.isCell = true → y.cells = [y] →
  ∃ v st', Cl E f [y] st0 (.ret v) st' ∧ KeepV W st0.heap st'.heap ∧ e ≤ st'.lo ∧ st'.lo ≤ st'.heap.length ∧ (I X.length st'.heap ∨ S st'.heap)
def IterM {α : Type} (E : Env) (f : PV) (st0 : St) (X : List α) (Rep : PV → α → Prop) (priv : Nat → Prop) (mm : Nat) : Prop :=
 ∀ (y : PV) (W : Nat → Prop) (e w : Nat) (I : Nat → List HObj → Prop) (S : List HObj → Prop), Yld E y X Rep W e w I S →
  (∀ i h es es', I i h → h[mm]? = some (.map es) → I i (h.set mm (.map es'))) → (∀ h es es', S h → h[mm]? = some (.map es) → S (h.set mm (.map es'))) → ¬ W mm → e ≤ mm → mm ≤ w →
  (∀ l, priv l → ¬ W l) → (∀ l, W l → l ≤ w) → I 0 st0.heap → e ≤ st0.lo → st0.lo ≤ st0.heap.length → w < st0.heap.length → e ≤ w → y.isCell = true → y.cells = [y] →
  ∃ v st', Cl E f [y] st0 (.ret v) st' ∧ KeepV (fun l => W l ∨ l = mm) st0.heap st'.heap ∧ e ≤ st'.lo ∧ st'.lo ≤ st'.heap.length ∧ (I X.length st'.heap ∨ S st'.heap)
def jumpEx : Jump → Ex
 | .ret => .ret
 | .exit i => .exit i
section
variable {E : Env} {Q : Ex → List PV → St → Prop} {tm : List PV} {st : St}
def BodyQ (L : Nat) (tm : List PV) (ps : List Nat) (assign body : DCode) (W : Nat → Prop) (e : Nat) (h0 : List HObj) (J : List HObj → Prop) (D : Jump → List HObj → Prop) : Ex → List PV → St → Prop := fun ex _ st3 =>
 hp st3 L = some (.loop tm ps assign body .busy none) ∧ KeepV W h0 st3.heap ∧ e ≤ st3.lo ∧ st3.lo ≤ st3.heap.length ∧ match ex with
  | .normal => J st3.heap
  | .ret => D .ret st3.heap
  | .exit x => D (.exit x) st3.heap
  | .panic _ => False
theorem yield_ok {α : Type} {X : List α} {Rep : PV → α → Prop} {W : Nat → Prop} {e L : Nat} {ps : List Nat} {assign body : DCode} {J : Nat → List HObj → Prop} {D : Jump → List HObj → Prop} (heL : e ≤ L) (hWL : W L)
  (stab : ∀ i h h', J i h → HExt h h' → J i h') (stabD : ∀ j h h', D j h → HExt h h' → D j h')
  (stabL : ∀ i h s p s' p', J i h → h[L]? = some (.loop tm ps assign body s p) → J i (h.set L (.loop tm ps assign body s' p'))) (stabDL : ∀ j h s p s' p', D j h → h[L]? = some (.loop tm ps assign body s p) → D j (h.set L (.loop tm ps assign body s' p')))
  (step : ∀ i (hi : i < X.length) v st1, Rep v X[i] → J i st1.heap → e ≤ st1.lo → st1.lo ≤ st1.heap.length → hp st1 L = some (.loop tm ps assign body .ready none) →
   ∃ tm0, setParams tm ps [v] = some tm0 ∧ Wp E assign (fun ex tm1 st2 => ex = .normal ∧ HExt st1.heap st2.heap ∧ e ≤ st2.lo ∧ st2.lo ≤ st2.heap.length ∧ Wp E body (BodyQ L tm ps assign body W e st2.heap (J (i + 1)) D) tm1 (setVar st2 L (.loop tm ps assign body .busy none))) tm0 st1) :
  Yld E (.yield L) X Rep W e L (fun i h => J i h ∧ h[L]? = some (.loop tm ps assign body .ready none)) (fun h => ∃ j, D j h ∧ h[L]? = some (.loop tm ps assign body .done (some j))) := by
 refine ⟨fun i h h' ⟨h1, h2⟩ hx => ⟨stab i h h' h1 hx, by rw [hx.2 L (List.getElem?_eq_some_iff.1 h2).1]; exact h2⟩, fun h h' ⟨j, h1, h2⟩ hx => ⟨j, stabD j h h' h1 hx, by rw [hx.2 L (List.getElem?_eq_some_iff.1 h2).1]; exact h2⟩, ?_⟩
 rintro i hi v st1 hv ⟨hJ, hLp⟩ helo hwf hwl
 obtain ⟨tm0, hsp, hA⟩ := step i hi v st1 hv hJ helo hwf hLp
 unfold Wp at hA
 obtain ⟨N, ex, tm1, st2, hN, rfl, hx, he2, hwf2, hB⟩ := hA
 obtain ⟨M, ex, tm3, st3, hM, hL3, hk3, he3, hwf3, hD⟩ := hB
 have hL2 : hp st2 L = some (.loop tm ps assign body .ready none) := hx.hp hLp
 have key : ∀ (n : Nat) (r : CR) (s : LSt) (pd : Option Jump → Option Jump) (b : Bool), max N M ≤ n →
   round (run E n) L [v] st1 = some (.ret (.bool b), setVar st3 L (.loop tm ps assign body s (pd none))) → stepCall E (run E n) (.yield L) [v] st1 = some (.ret (.bool b), setVar st3 L (.loop tm ps assign body s (pd none))) := fun n r s pd b hn h => h
 have hkeep : ∀ s p, KeepV W st1.heap (setVar st3 L (.loop tm ps assign body s p)).heap := by
  intro s p
  refine (hx.keep W).trans (hk3.trans ⟨by rw [len_setVar]; exact Nat.le_refl _, fun l o ho hk hn => ?_⟩)
  have := hp_setVar st3 L l (.loop tm ps assign body s p)
  rw [if_neg (by rintro rfl; exact hn hWL)] at this
  exact this.trans ho
 have hloL : ∀ s p, (setVar st3 L (.loop tm ps assign body s p)).lo ≤ L := fun s p => Nat.min_le_right _ _
 have helL : ∀ s p, e ≤ (setVar st3 L (.loop tm ps assign body s p)).lo := fun s p => by rw [lo_setVar]; omega
 have hatL : ∀ s p, (setVar st3 L (.loop tm ps assign body s p)).heap[L]? = some (.loop tm ps assign body s p) := fun s p => by
  have := hp_setVar st3 L L (.loop tm ps assign body s p)
  rw [if_pos rfl, if_pos (hp_lt hL3)] at this
  exact this
 have hL1' : st1.heap[L]? = some (.loop tm ps assign body .ready none) := hLp
 have hL2' : st2.heap[L]? = some (.loop tm ps assign body .ready none) := hL2
 have hL3' : st3.heap[L]? = some (.loop tm ps assign body .busy none) := hL3
 have mk : ∀ (b : Bool) (s : LSt) (p : Option Jump), (∀ n, max N M ≤ n → round (run E n) L [v] st1 = some (.ret (.bool b), setVar st3 L (.loop tm ps assign body s p))) → Cl E (.yield L) [v] st1 (.ret (.bool b)) (setVar st3 L (.loop tm ps assign body s p)) := by
  intro b s p h
  refine ⟨max N M + 1, fun n hn => ?_⟩
  obtain ⟨m, rfl⟩ : ∃ m, n = m + 1 := ⟨n - 1, by omega⟩
  exact h m (by omega)
 cases ex with
 | normal =>
  refine ⟨true, _, mk true .ready none (fun n hn => ?_), hkeep _ _, helL _ _, hloL _ _, fun _ => ⟨stabL _ _ _ _ _ _ hD hL3', hatL _ _⟩, fun h => by cases h⟩
  simp only [round, hL1', hsp, hN n (by omega), setLoop, hL2', id_eq, hM n (by omega), hL3', Option.map_some]
 | ret =>
  refine ⟨false, _, mk false .done (some .ret) (fun n hn => ?_), hkeep _ _, helL _ _, hloL _ _, (fun h => by cases h), fun _ => ⟨.ret, stabDL _ _ _ _ _ _ hD hL3', hatL _ _⟩⟩
  simp only [round, hL1', hsp, hN n (by omega), setLoop, hL2', id_eq, hM n (by omega), hL3', Option.map_some]
 | exit x =>
  refine ⟨false, _, mk false .done (some (.exit x)) (fun n hn => ?_), hkeep _ _, helL _ _, hloL _ _, (fun h => by cases h), fun _ => ⟨.exit x, stabDL _ _ _ _ _ _ hD hL3', hatL _ _⟩⟩
  simp only [round, hL1', hsp, hN n (by omega), setLoop, hL2', id_eq, hM n (by omega), hL3', Option.map_some]
 | panic v => exact hD.elim
theorem wp_rangeF {α : Type} {X : List α} {Rep : PV → α → Prop} {f : Opd} {g : Nat} {fa fc : List PV} {ps : List Nat} {assign body : DCode} {priv : Nat → Prop} (W : Nat → Prop) (e : Nat) (J : Nat → List HObj → Prop) (D : Jump → List HObj → Prop) (hf : f.ev tm = .func g fa fc) (hI : Iter E (.func g fa fc) (st.push (.loop tm ps assign body .ready none)) X Rep priv)
  (hW : ∀ l, priv l → ¬ W l ∧ l ≠ st.heap.length) (hWl : ∀ l, W l → l ≤ st.heap.length) (he : e ≤ st.lo) (hwf : st.lo ≤ st.heap.length)
  (stab : ∀ i h h', J i h → HExt h h' → J i h') (stabD : ∀ j h h', D j h → HExt h h' → D j h')
  (stabL : ∀ i h s p s' p', J i h → h[st.heap.length]? = some (.loop tm ps assign body s p) → J i (h.set st.heap.length (.loop tm ps assign body s' p'))) (stabDL : ∀ j h s p s' p', D j h → h[st.heap.length]? = some (.loop tm ps assign body s p) → D j (h.set st.heap.length (.loop tm ps assign body s' p')))
  (init : J 0 st.heap)
  (step : ∀ i (hi : i < X.length) v st1, Rep v X[i] → J i st1.heap → e ≤ st1.lo → st1.lo ≤ st1.heap.length → hp st1 st.heap.length = some (.loop tm ps assign body .ready none) →
   ∃ tm0, setParams tm ps [v] = some tm0 ∧ Wp E assign (fun ex tm1 st2 => ex = .normal ∧ HExt st1.heap st2.heap ∧ e ≤ st2.lo ∧ st2.lo ≤ st2.heap.length ∧ Wp E body (BodyQ st.heap.length tm ps assign body (fun l => W l ∨ l = st.heap.length) e st2.heap (J (i + 1)) D) tm1 (setVar st2 st.heap.length (.loop tm ps assign body .busy none))) tm0 st1)
  (done : ∀ st', J X.length st'.heap → KeepV W st.heap st'.heap → e ≤ st'.lo → st'.lo ≤ st'.heap.length → Q .normal tm st')
  (stop : ∀ j st', D j st'.heap → KeepV W st.heap st'.heap → e ≤ st'.lo → st'.lo ≤ st'.heap.length → Q (jumpEx j) tm st') :
  Wp E (.rangeFunc f ps assign body) Q tm st := by
 have hp0 : hp (st.push (.loop tm ps assign body .ready none)) st.heap.length = some (.loop tm ps assign body .ready none) := by rw [hp_push, if_pos rfl]
 have Y := yield_ok (E := E) (X := X) (Rep := Rep) (W := fun l => W l ∨ l = st.heap.length) (e := e) (L := st.heap.length) (tm := tm) (ps := ps) (assign := assign) (body := body) (J := J) (D := D) (by omega) (.inr rfl) stab stabD stabL stabDL step
 obtain ⟨v, st1, ⟨N, hN⟩, hk, he1, hwf1, hfin⟩ := hI (.yield st.heap.length) (fun l => W l ∨ l = st.heap.length) e st.heap.length _ _ Y (fun l hl h => by obtain ⟨h1, h2⟩ := hW l hl; rcases h with h | h; exact h1 h; exact h2 h) (fun l hl => by rcases hl with h | h; exact hWl l h; exact Nat.le_of_eq h) ⟨stab 0 _ _ init (.push st _), hp0⟩ he (by rw [lo_push, len_push]; omega) (by rw [len_push]; omega) (by omega) rfl rfl
 have hpush : ({ heap := st.heap ++ [.loop tm ps assign body .ready none], lo := st.lo } : St) = st.push (.loop tm ps assign body .ready none) := rfl
 have hkeep : ∀ s p, KeepV W st.heap (setVar st1 st.heap.length (.loop tm ps assign body s p)).heap := by
  intro s p
  have h1 := hk.1
  rw [len_push] at h1
  refine ⟨by rw [len_setVar]; omega, fun l o ho hko hn => ?_⟩
  have hl := (List.getElem?_eq_some_iff.1 ho).1
  have h2 := hk.2 l o (by have := hp_push st (.loop tm ps assign body .ready none) l; rw [if_neg (by omega)] at this; exact this.trans ho) hko (by rintro (h | h); exact hn h; omega)
  have := hp_setVar st1 st.heap.length l (.loop tm ps assign body s p)
  rw [if_neg (by omega)] at this
  exact this.trans h2
 have hlen : st.heap.length < st1.heap.length := by have := hk.1; rw [len_push] at this; omega
 have hlo : ∀ s p, e ≤ (setVar st1 st.heap.length (.loop tm ps assign body s p)).lo := fun s p => by rw [lo_setVar]; omega
 have hwfs : ∀ s p, (setVar st1 st.heap.length (.loop tm ps assign body s p)).lo ≤ (setVar st1 st.heap.length (.loop tm ps assign body s p)).heap.length := fun s p => by rw [lo_setVar, len_setVar]; omega
 rcases hfin with ⟨hJ, hL⟩ | ⟨j, hD, hL⟩
 ·refine .of_step N (fun n hn => ?_) (done _ (stabL _ _ _ _ .over none hJ hL) (hkeep _ _) (hlo _ _) (hwfs _ _))
  simp only [stepCode, hf, hpush, hN n hn, setLoop, hL, id_eq]
 ·have hq := stop j _ (stabDL _ _ _ _ .over (some j) hD hL) (hkeep _ _) (hlo _ _) (hwfs _ _)
  cases j with
  | ret =>
   refine .of_step N (fun n hn => ?_) hq
   simp only [stepCode, hf, hpush, hN n hn, setLoop, hL, id_eq, jumpEx]
  | exit i =>
   refine .of_step N (fun n hn => ?_) hq
   simp only [stepCode, hf, hpush, hN n hn, setLoop, hL, id_eq, jumpEx]
theorem wp_rangeFM {α : Type} {X : List α} {Rep : PV → α → Prop} {f : Opd} {g : Nat} {fa fc : List PV} {ps : List Nat} {assign body : DCode} {priv : Nat → Prop} {mm : Nat} (W : Nat → Prop) (e : Nat) (J : Nat → List HObj → Prop) (D : Jump → List HObj → Prop) (hf : f.ev tm = .func g fa fc) (hI : IterM E (.func g fa fc) (st.push (.loop tm ps assign body .ready none)) X Rep priv mm)
  (hW : ∀ l, priv l → ¬ W l ∧ l ≠ st.heap.length) (hWl : ∀ l, W l → l ≤ st.heap.length) (he : e ≤ st.lo) (hwf : st.lo ≤ st.heap.length)
  (stab : ∀ i h h', J i h → HExt h h' → J i h') (stabD : ∀ j h h', D j h → HExt h h' → D j h')
  (stabL : ∀ i h s p s' p', J i h → h[st.heap.length]? = some (.loop tm ps assign body s p) → J i (h.set st.heap.length (.loop tm ps assign body s' p'))) (stabDL : ∀ j h s p s' p', D j h → h[st.heap.length]? = some (.loop tm ps assign body s p) → D j (h.set st.heap.length (.loop tm ps assign body s' p')))
  (hem : e ≤ mm) (hml : mm < st.heap.length) (hWm : ¬ W mm) (stabM : ∀ i h es es', J i h → h[mm]? = some (.map es) → J i (h.set mm (.map es'))) (stabDM : ∀ j h es es', D j h → h[mm]? = some (.map es) → D j (h.set mm (.map es')))
  (init : J 0 st.heap)
  (step : ∀ i (hi : i < X.length) v st1, Rep v X[i] → J i st1.heap → e ≤ st1.lo → st1.lo ≤ st1.heap.length → hp st1 st.heap.length = some (.loop tm ps assign body .ready none) →
   ∃ tm0, setParams tm ps [v] = some tm0 ∧ Wp E assign (fun ex tm1 st2 => ex = .normal ∧ HExt st1.heap st2.heap ∧ e ≤ st2.lo ∧ st2.lo ≤ st2.heap.length ∧ Wp E body (BodyQ st.heap.length tm ps assign body (fun l => W l ∨ l = st.heap.length) e st2.heap (J (i + 1)) D) tm1 (setVar st2 st.heap.length (.loop tm ps assign body .busy none))) tm0 st1)
  (done : ∀ st', J X.length st'.heap → KeepV (fun l => W l ∨ l = mm) st.heap st'.heap → e ≤ st'.lo → st'.lo ≤ st'.heap.length → Q .normal tm st')
  (stop : ∀ j st', D j st'.heap → KeepV (fun l => W l ∨ l = mm) st.heap st'.heap → e ≤ st'.lo → st'.lo ≤ st'.heap.length → Q (jumpEx j) tm st') :
  Wp E (.rangeFunc f ps assign body) Q tm st := by
 have hp0 : hp (st.push (.loop tm ps assign body .ready none)) st.heap.length = some (.loop tm ps assign body .ready none) := by rw [hp_push, if_pos rfl]
 have Y := yield_ok (E := E) (X := X) (Rep := Rep) (W := fun l => W l ∨ l = st.heap.length) (e := e) (L := st.heap.length) (tm := tm) (ps := ps) (assign := assign) (body := body) (J := J) (D := D) (by omega) (.inr rfl) stab stabD stabL stabDL step
 obtain ⟨v, st1, ⟨N, hN⟩, hk, he1, hwf1, hfin⟩ := hI (.yield st.heap.length) (fun l => W l ∨ l = st.heap.length) e st.heap.length _ _ Y (fun i h es es' ⟨h1, h2⟩ hm => ⟨stabM i h es es' h1 hm, by
   rw [List.getElem?_set_ne (by rintro rfl; rw [hm] at h2; cases h2)]; exact h2⟩) (fun h es es' ⟨j, h1, h2⟩ hm => ⟨j, stabDM j h es es' h1 hm, by
   rw [List.getElem?_set_ne (by rintro rfl; rw [hm] at h2; cases h2)]; exact h2⟩) (fun h => by rcases h with h | h; exact hWm h; omega) hem (by omega) (fun l hl h => by obtain ⟨h1, h2⟩ := hW l hl; rcases h with h | h; exact h1 h; exact h2 h) (fun l hl => by rcases hl with h | h; exact hWl l h; exact Nat.le_of_eq h) ⟨stab 0 _ _ init (.push st _), hp0⟩ he (by rw [lo_push, len_push]; omega) (by rw [len_push]; omega) (by omega) rfl rfl
 have hpush : ({ heap := st.heap ++ [.loop tm ps assign body .ready none], lo := st.lo } : St) = st.push (.loop tm ps assign body .ready none) := rfl
 have hkeep : ∀ s p, KeepV (fun l => W l ∨ l = mm) st.heap (setVar st1 st.heap.length (.loop tm ps assign body s p)).heap := by
  intro s p
  have h1 := hk.1
  rw [len_push] at h1
  refine ⟨by rw [len_setVar]; omega, fun l o ho hko hn => ?_⟩
  have hl := (List.getElem?_eq_some_iff.1 ho).1
  have h2 := hk.2 l o (by have := hp_push st (.loop tm ps assign body .ready none) l; rw [if_neg (by omega)] at this; exact this.trans ho) hko (by rintro ((h | h) | h); exact hn (.inl h); omega; exact hn (.inr h))
  have := hp_setVar st1 st.heap.length l (.loop tm ps assign body s p)
  rw [if_neg (by omega)] at this
  exact this.trans h2
 have hlen : st.heap.length < st1.heap.length := by have := hk.1; rw [len_push] at this; omega
 have hlo : ∀ s p, e ≤ (setVar st1 st.heap.length (.loop tm ps assign body s p)).lo := fun s p => by rw [lo_setVar]; omega
 have hwfs : ∀ s p, (setVar st1 st.heap.length (.loop tm ps assign body s p)).lo ≤ (setVar st1 st.heap.length (.loop tm ps assign body s p)).heap.length := fun s p => by rw [lo_setVar, len_setVar]; omega
 rcases hfin with ⟨hJ, hL⟩ | ⟨j, hD, hL⟩
 ·refine .of_step N (fun n hn => ?_) (done _ (stabL _ _ _ _ .over none hJ hL) (hkeep _ _) (hlo _ _) (hwfs _ _))
  simp only [stepCode, hf, hpush, hN n hn, setLoop, hL, id_eq]
 ·have hq := stop j _ (stabDL _ _ _ _ .over (some j) hD hL) (hkeep _ _) (hlo _ _) (hwfs _ _)
  cases j with
  | ret =>
   refine .of_step N (fun n hn => ?_) hq
   simp only [stepCode, hf, hpush, hN n hn, setLoop, hL, id_eq, jumpEx]
  | exit i =>
   refine .of_step N (fun n hn => ?_) hq
   simp only [stepCode, hf, hpush, hN n hn, setLoop, hL, id_eq, jumpEx]
end
end Go.Den
end
section
namespace Go.Den
def RetW (st : St) (n : Nat) (cs : List PV) (v : PV) (st' : St) : Prop := v.sl = some (n, cs) ∧ (st' = st ∨ st' = st.push (.tag true))
theorem RetS.w {st st' : St} {sz n : Nat} {cs : List PV} {v : PV} (h : RetS st sz n cs v st') : RetW st n cs v st' := ⟨h.sl, h.st'⟩
theorem RetW.hp {st st' : St} {n : Nat} {cs : List PV} {v : PV} (h : RetW st n cs v st') {l : Nat} {o : HObj} (hl : hp st l = some o) : hp st' l = some o := by
 rcases h.2 with rfl | rfl
 ·exact hl
 ·rw [hp_push, if_neg (by have := hp_lt hl; omega)]; exact hl
theorem RetW.lo {st st' : St} {n : Nat} {cs : List PV} {v : PV} (h : RetW st n cs v st') : st'.lo = st.lo := by
 rcases h.2 with rfl | rfl <;> rfl
theorem RetW.len {st st' : St} {n : Nat} {cs : List PV} {v : PV} (h : RetW st n cs v st') : st.heap.length ≤ st'.heap.length := by
 rcases h.2 with rfl | rfl
 ·omega
 ·rw [len_push]; omega
theorem RetW.hext {st st' : St} {n : Nat} {cs : List PV} {v : PV} (h : RetW st n cs v st') : HExt st.heap st'.heap := by
 rcases h.2 with rfl | rfl
 ·exact .refl _
 ·exact .push _ _
theorem sl_freeze {m : Nat} {h : List HObj} {v : PV} {r : Nat × List PV} (hv : v.sl = some r) : freeze1 m h v = (v, h) := by
 cases v <;> first | rfl | cases hv
theorem sl_retag {m : Nat} {h : List HObj} {v : PV} {n : Nat} {cs : List PV} (hv : v.sl = some (n, cs)) (hc : ∀ m, lowL m cs = true) : ∃ v' s, retag1 h m [] v = some (v', s) ∧ v'.sl = some (n, cs) ∧ s.length ≤ 1 := by
 cases v with
 | nilslice => exact ⟨.nilslice, [], by simp [retag1, PV.low], hv, by simp⟩
 | slice o k ds =>
  simp only [PV.sl, Option.some.injEq, Prod.mk.injEq] at hv
  obtain ⟨rfl, rfl⟩ := hv
  cases o with
  | shared => exact ⟨.slice .shared k ds, [], by simp [retag1, PV.low, hc], rfl, by simp⟩
  | tag t sz =>
   simp only [retag1, hc, if_true]
   by_cases ht : t < m
   ·rw [if_pos ht]; exact ⟨_, _, rfl, rfl, by simp⟩
   ·rw [if_neg ht]
    split
    ·simp only [List.contains_nil, Bool.false_eq_true, if_false]
     exact ⟨_, _, rfl, rfl, by simp⟩
    ·exact ⟨_, _, rfl, rfl, by simp⟩
 | _ => cases hv
theorem finish_slT {st st1 : St} {v : PV} {vs : List PV} {n : Nat} {cs : List PV} (hv : v.sl = some (n, cs)) (hvs : vs.all PV.flat = true) (hlo : st.heap.length ≤ st1.lo) (hc : ∀ m, lowL m cs = true) : ∃ v', (finishCall st st1 (.tuple (v :: vs))).1 = .tuple (v' :: vs) ∧ RetW st n cs v' (finishCall st st1 (.tuple (v :: vs))).2 := by
 obtain ⟨v', s, h1, h2, h3⟩ := sl_retag (m := st.heap.length) (h := st1.heap) hv hc
 unfold finishCall
 rw [if_pos hlo]
 have : letGo st.heap.length st1.heap (.tuple (v :: vs)) = some (.tuple (v' :: vs), s.length) := by
  have hf := sl_freeze (m := st.heap.length) (h := st1.heap) hv
  simp only [letGo, freezeL, hf, flats_freeze hvs, retagL, h1, flats_retag hvs, Option.map_some]
 rw [this]
 refine ⟨v', rfl, h2, ?_⟩
 match s, h3 with
 | [], _ => left; simp
 | [x], _ => right; rfl
def notSl : PV → Bool
 | .slice .. => false
 | .hslice .. => false
 | _ => true
theorem notSl_freeze {m : Nat} {h : List HObj} {v : PV} (hv : notSl v = true) : freeze1 m h v = (v, h) := by
 cases v with
 | hslice l z n => cases hv
 | _ => rfl
theorem notSls_freeze {m : Nat} {h : List HObj} : ∀ {vs : List PV}, vs.all notSl = true → freezeL m h vs = (vs, h)
 | [], _ => rfl
 | v :: vs, hv => by
  simp only [List.all_cons, Bool.and_eq_true] at hv
  simp only [freezeL, notSl_freeze hv.1, notSls_freeze hv.2]
theorem notSl_retag {m : Nat} {h : List HObj} {s : List Nat} {v : PV} (hv : notSl v = true) : retag1 h m s v = some (v, s) ∨ retag1 h m s v = none := by
 cases v with
 | slice o n cs => cases hv
 | hslice l z n => cases hv
 | _ => simp only [retag1]; split <;> simp
theorem notSls_retag {m : Nat} {h : List HObj} {s : List Nat} : ∀ {vs : List PV}, vs.all notSl = true → retagL h m s vs = some (vs, s) ∨ retagL h m s vs = none
 | [], _ => .inl rfl
 | v :: vs, hv => by
  simp only [List.all_cons, Bool.and_eq_true] at hv
  simp only [retagL]
  rcases notSl_retag (m := m) (h := h) (s := s) hv.1 with h1 | h1 <;> rw [h1]
  ·rcases notSls_retag (m := m) (h := h) (s := s) hv.2 with h2 | h2 <;> simp [h2]
  ·simp
theorem finish_keep {st st1 : St} {vs : List PV} (hv : vs.all notSl = true) (hlo : st.heap.length ≤ st1.lo) : (finishCall st st1 (.tuple vs)).1 = .tuple vs ∧ (finishCall st st1 (.tuple vs)).2.lo = st.lo ∧ ((finishCall st st1 (.tuple vs)).2 = st ∨ (finishCall st st1 (.tuple vs)).2.heap = st1.heap) := by
 unfold finishCall
 rw [if_pos hlo]
 rcases notSls_retag (m := st.heap.length) (h := st1.heap) (s := []) hv with h | h
 ·have : letGo st.heap.length st1.heap (.tuple vs) = some (.tuple vs, 0) := by simp [letGo, notSls_freeze hv, h]
  rw [this]
  exact ⟨rfl, rfl, .inl (by simp)⟩
 ·have : letGo st.heap.length st1.heap (.tuple vs) = none := by simp [letGo, notSls_freeze hv, h]
  rw [this]
  exact ⟨rfl, rfl, .inr rfl⟩
def bestF {α : Type} (bt : α → α → Bool) (X : List α) : Option α := X.foldl (fun acc x => match acc with
 | none => some x
 | some o => if bt x o then some x else some o) none
theorem bestF_take {α : Type} (bt : α → α → Bool) (X : List α) {i : Nat} (hi : i < X.length) : bestF bt (X.take (i + 1)) = match bestF bt (X.take i) with
 | none => some X[i]
 | some o => if bt X[i] o then some X[i] else some o := by
 rw [List.take_succ_eq_append_getElem hi, bestF, List.foldl_append]; rfl
theorem bestF_mem {α : Type} (bt : α → α → Bool) (X : List α) {i : Nat} {o : α} (hi : i ≤ X.length) (h : bestF bt (X.take i) = some o) : o ∈ X := by
 induction i with
 | zero => simp [bestF] at h
 | succ i ih =>
  rw [bestF_take bt X (by omega)] at h
  split at h
  ·cases h; exact List.getElem_mem _
  ·rename_i o' ho
   split at h
   ·cases h; exact List.getElem_mem _
   ·cases h; exact ih (by omega) ho
end Go.Den
namespace Go.Den
theorem set_var {h : List HObj} {l L : Nat} {cs : List PV} {tm : List PV} {ps : List Nat} {a b : DCode} {s : LSt} {p : Option Jump} {o : HObj} (hl : h[l]? = some (.var cs)) (hL : h[L]? = some (.loop tm ps a b s p)) : (h.set L o)[l]? = some (.var cs) := by
 rw [List.getElem?_set_ne (by rintro rfl; rw [hL] at hl; cases hl)]
 exact hl
theorem KeepV.set {W : Nat → Prop} {a h : List HObj} (hk : KeepV W a h) {L : Nat} {o : HObj} (hL : a.length ≤ L) : KeepV W a (h.set L o) := by
 refine ⟨by rw [List.length_set]; exact hk.1, fun l x hx hko hn => ?_⟩
 rw [List.getElem?_set_ne (by have := (List.getElem?_eq_some_iff.1 hx).1; omega)]
 exact hk.2 l x hx hko hn
theorem HExt.var {a b : List HObj} (h : HExt a b) {l : Nat} {o : HObj} (ho : a[l]? = some o) : b[l]? = some o := (h.2 l (List.getElem?_eq_some_iff.1 ho).1).trans ho
def KeepA (a b : List HObj) : Prop := KeepV (fun _ => False) a b
theorem KeepV.low {W : Nat → Prop} {a b c : List HObj} (hk : KeepA a b) (h : KeepV W b c) (hW : ∀ l, W l → a.length ≤ l) : KeepA a c :=
 ⟨Nat.le_trans hk.1 h.1, fun l o ho hko _ => h.2 l o (hk.2 l o ho hko (fun x => x)) hko (fun hw => by have := hW l hw; have := (List.getElem?_eq_some_iff.1 ho).1; omega)⟩
end Go.Den
namespace Go.Den
theorem wp_gen {E : Env} {c : DCode} {Q : Ex → List PV → St → Prop} {tm : List PV} {st : St} (P : List PV → St → Prop) (h : P tm st) (k : ∀ tm st, P tm st → Wp E c Q tm st) : Wp E c Q tm st := k tm st h
theorem setParams_one {tm : List PV} {p : Nat} {v : PV} : setParams tm [p] [v] = some (put tm (some p) v) := rfl
theorem hp_set_other {st : St} {l L : Nat} {o : HObj} {x : HObj} (h : hp st l = some x) (hne : l ≠ L) : hp (setVar st L o) l = some x := by rw [hp_setVar, if_neg hne]; exact h
end Go.Den
namespace Go.Den
theorem wopsD_append {E : Env} {QD : Ex → List PV → St → List Foot → Prop} {tm : List PV} {st : St} {sz : Nat} {x y : Opd} {dst : Option Nat} {g : Option (Nat × Bool)} {os : List DOper} {b : Bool} {m n k : Nat} {v w : PV} {cs ys : List PV} (hlo : st.lo ≤ st.heap.length) (hw : wants tm g = b) (hb : b = true) (hx : x.ev tm = v) (hy : y.ev tm = w) (ho : OwnS m st sz v n cs) (hyl : w.sl = some (k, ys)) (hm : m ≤ st.heap.length) (hl : ys.length = k * sz) (hc : ys.all PV.isCell = true) (hn : n + k ≤ maxList)
  (h : ∀ v' st' ft, OwnS m st' sz v' (n + k) (cs ++ ys.map PV.share) → Fr m st st' → (∀ l o, hp st l = some o → (∀ b, o ≠ .tag b) → hp st' l = some o) → WOpsD E os (fun e tm' st'' fs => QD e tm' st'' (ft :: fs)) (put tm dst v') st') : WOpsD E (⟨.append false sz x y, dst, g⟩ :: os) QD tm st := by
 have ho' : OwnS m { st with lo := st.heap.length } sz v n cs := ho.keep fun _ _ h => h
 obtain ⟨v', st1, h1, h2, h3, h4⟩ := ho'.append hm hl hc hn
 refine wopsD_cons (v := v') (st1 := st1) (hw.trans hb) 0 (fun n _ => ?_) ?_
 ·simp only [stepOp, hx, hy]
  cases w <;> simp only [PV.sl, Option.some.injEq, Prod.mk.injEq, reduceCtorEq] at hyl
  ·obtain ⟨rfl, rfl⟩ := hyl; exact h1
  ·obtain ⟨rfl, rfl⟩ := hyl; exact h1
 ·refine h v' { st1 with lo := min st.lo st1.lo } _ (h2.keep fun _ _ h => h) ⟨h3.len, ?_, h3.old, Nat.min_le_left _ _⟩ h4
  have := h3.lo
  simp only at this
  show min m st.lo ≤ min st.lo st1.lo
  omega
end Go.Den
namespace Go.Den
theorem share_share (v : PV) : v.share.share = v.share := by cases v <;> rfl
theorem share_isCell (v : PV) : v.share.isCell = v.isCell := by cases v <;> rfl
theorem share_sl (v : PV) : v.share.sl = v.sl := by cases v <;> rfl
theorem SlOf.share {α : Type} {sz : Nat} {enc : α → List PV} {F : PV} {l : List α} (h : SlOf sz enc F l) : SlOf sz enc F.share l := ⟨by rw [share_sl]; exact h.sl, h.len⟩
theorem RetW.own_sl {α : Type} {sz : Nat} {enc : α → List PV} {st st' : St} {v : PV} {l : List α} (h : RetW st l.length (l.flatMap enc) v st') (he : ∀ a, (enc a).length = sz) : SlOf sz enc v l := SlOf.of_sl h.1 rfl rfl he
theorem OwnS.heap {m : Nat} {a b : St} {sz : Nat} {v : PV} {n : Nat} {cs : List PV} (h : OwnS m a sz v n cs) (hx : HExt a.heap b.heap) : OwnS m b sz v n cs := h.keep fun _ _ ht => hx.hp ht
end Go.Den
end

/- Part of the proof that for every input the function ChestEnough returns true and each argument reads as it did. Texts: ChEn. -/
import Derived.Test.YtoeigapilcgelaaGreatDoorM2P
set_option linter.unusedSimpArgs false
set_option linter.unusedVariables false
section
namespace Go.Den.Ch
def roomy (c : CL) (r : Int) : CL := { c with room := r }
theorem OkL.roomy {c : CL} (h : OkL c) (r : Int) : OkL (roomy c r) := ⟨h.len, h.figs, h.d0, h.d1⟩
theorem rights_roomy {c : CL} (hc : OkL c) {r : Int} {p : List Int} : p ∈ rightsL (roomy c r) ↔ OkP c p ∧ (∀ n : Int, 0 ≤ n → n < c.depth → sumL c p n ≤ r) ∧ NoGap c p ∧ NoDis c p 0 ∧ NoDis c p 1 := by
 rw [mem_rights]
 constructor
 ·rintro ⟨h1, h2⟩
  obtain ⟨a1, a2, a3, a4⟩ := fault_none (hc.roomy r) h2
  exact ⟨⟨h1.len, h1.rng⟩, fun n h0 h => by have := a1 n h0 h; have e : sumL (Ch.roomy c r) p n = sumL c p n := rfl; rw [e] at this; exact Int.not_lt.1 this, a2, a3, a4⟩
 ·rintro ⟨h1, h2, h3, h4, h5⟩
  exact ⟨⟨h1.len, h1.rng⟩, fault_of (fun n h0 h => Int.not_lt.2 (h2 n h0 h)) h3 h4 h5⟩
theorem needs_le {c : CL} {p : List Int} {r : Int} (h0 : 0 ≤ r) : ∀ n : Nat, needsT c p n ≤ r ↔ ∀ k : Nat, k < n → sumL c p k ≤ r
 | 0 => by simp [needsT, h0]
 | n + 1 => by
  rw [needsT_succ]
  have ih := needs_le (c := c) (p := p) h0 n
  constructor
  ·intro h k hk
   by_cases hkn : k = n
   ·subst hkn
    show (layerL c.figs p (k : Nat)).sum ≤ r
    omega
   ·exact ih.1 (by omega) k (by omega)
  ·intro h
   have h1 := ih.2 fun k hk => h k (by omega)
   have h2 : (layerL c.figs p (n : Nat)).sum ≤ r := h n (by omega)
   omega
theorem needs_iff {c : CL} (hc : OkL c) {p : List Int} {r : Int} (h0 : 0 ≤ r) : needsL c p ≤ r ↔ ∀ n : Int, 0 ≤ n → n < c.depth → sumL c p n ≤ r := by
 rw [needsL, needs_le h0]
 constructor
 ·intro h n h1 h2
  have := h n.toNat (by omega)
  rwa [Int.toNat_of_nonneg h1] at this
 ·intro h k hk
  exact h k (by omega) (by have := hc.d0; omega)
theorem layer_ge : ∀ {fs : List Fig} {p : List Int} {i : Nat} {x : Int} {f : Fig}, (∀ f ∈ fs, 0 ≤ f.size) → p[i]? = some x → fs[i]? = some f → f.size ≤ (layerL fs p x).sum ∧ ∀ n, 0 ≤ (layerL fs p n).sum
 | [], _, _, _, _, _, _, h => by cases h
 | _ :: _, [], _, _, _, _, h, _ => by cases h
 | g :: fs, y :: p, i, x, f, hs, hp, hf => by
  have hg := hs g (by simp)
  have pos : ∀ (fs : List Fig) (p : List Int) (n : Int), (∀ f ∈ fs, 0 ≤ f.size) → 0 ≤ (layerL fs p n).sum := by
   intro fs
   induction fs with
   | nil => intro p n _; exact Int.le_refl _
   | cons g fs ih =>
    intro p n h
    cases p with
    | nil => exact Int.le_refl _
    | cons y p =>
     have := h g (by simp)
     have := ih p n (fun f hf => h f (by simp [hf]))
     simp only [layerL]
     split
     ·rw [List.sum_cons]; omega
     ·assumption
  refine ⟨?_, fun n => pos _ _ _ hs⟩
  cases i with
  | zero =>
   simp only [List.getElem?_cons_zero, Option.some.injEq] at hp hf
   subst hp hf
   simp only [layerL, if_true, List.sum_cons]
   have := pos fs p y (fun f hf => hs f (by simp [hf]))
   omega
  | succ i =>
   simp only [List.getElem?_cons_succ] at hp hf
   have := (layer_ge (fun f hf => hs f (by simp [hf])) hp hf).1
   simp only [layerL]
   split
   ·rw [List.sum_cons]; omega
   ·exact this
theorem layer_le : ∀ {fs : List Fig} {p : List Int} {n : Int}, (∀ f ∈ fs, 0 ≤ f.size) → (layerL fs p n).sum ≤ (fs.map (·.size)).sum ∧ 0 ≤ (fs.map (·.size)).sum
 | [], _, _, _ => ⟨Int.le_refl _, Int.le_refl _⟩
 | g :: fs, [], n, hs => by
  have hg := hs g (by simp)
  have := (layer_le (fs := fs) (p := []) (n := n) (fun f hf => hs f (by simp [hf]))).2
  simp only [layerL, List.map_cons, List.sum_cons, List.sum_nil]
  omega
 | g :: fs, y :: p, n, hs => by
  have hg := hs g (by simp)
  have := layer_le (fs := fs) (p := p) (n := n) (fun f hf => hs f (by simp [hf]))
  simp only [layerL, List.map_cons, List.sum_cons]
  split
  ·rw [List.sum_cons]; omega
  ·omega
theorem layer_zero (fs : List Fig) : (layerL fs (List.replicate fs.length 0) 0) = fs.map (·.size) := by
 induction fs with
 | nil => rfl
 | cons g fs ih => simp only [List.length_cons, List.replicate_succ, layerL, if_true, List.map_cons, ih]
theorem layers_zero (n : Nat) : layersL (List.replicate n 0) ≤ 1 := layersL_bound (by omega) (fun x hx => by rw [(List.mem_replicate.1 hx).2]; omega)
theorem pos_sizes {c : CL} (hc : OkL c) : ∀ f ∈ c.figs, 0 ≤ f.size := fun f hf => by have := hc.size hf; omega
theorem zero_right {c : CL} (hc : OkL c) (hd : 1 ≤ c.depth) : List.replicate c.figs.length 0 ∈ rightsL (roomy c (sizesL c).sum) := by
 refine (rights_roomy hc).2 ⟨⟨by simp, fun x hx => by rw [(List.mem_replicate.1 hx).2]; omega⟩, fun n _ _ => (layer_le (pos_sizes hc)).1, ?_, ?_, ?_⟩
 ·intro n h0 h1 h2
  have := layers_zero c.figs.length
  obtain rfl : n = 0 := by omega
  have h3 : (layerL c.figs (List.replicate c.figs.length 0) 0).sum = 0 := h2
  rw [layer_zero] at h3
  have h4 := sum_zero (l := c.figs.map (·.size)) (fun x hx => by obtain ⟨f, hf, rfl⟩ := List.mem_map.1 hx; exact (hc.size hf).1) h3
  have h5 : c.figs.length = 0 := by have := congrArg List.length h4; simpa using this
  rw [h5] at h1
  exact absurd h1 (by decide)
 ·intro a b x y f g ha hb _ _ hxy
  have := (List.mem_replicate.1 (List.mem_of_getElem? ha)).2
  have := (List.mem_replicate.1 (List.mem_of_getElem? hb)).2
  omega
 ·intro a b x y f g ha hb _ _ hxy
  have := (List.mem_replicate.1 (List.mem_of_getElem? ha)).2
  have := (List.mem_replicate.1 (List.mem_of_getElem? hb)).2
  omega
theorem fold_min {g : List Int → Int} : ∀ (X : List (List Int)) (a : Int), X.foldl (fun o p => min o (g p)) a ≤ a ∧ (∀ p ∈ X, X.foldl (fun o p => min o (g p)) a ≤ g p) ∧ (X.foldl (fun o p => min o (g p)) a = a ∨ ∃ p ∈ X, X.foldl (fun o p => min o (g p)) a = g p)
 | [], a => ⟨Int.le_refl _, (fun _ h => by cases h), .inl rfl⟩
 | p :: X, a => by
  obtain ⟨h1, h2, h3⟩ := fold_min (g := g) X (min a (g p))
  rw [List.foldl_cons]
  refine ⟨by omega, fun q hq => ?_, ?_⟩
  ·rcases List.mem_cons.1 hq with rfl | hq
   ·omega
   ·exact h2 q hq
  ·rcases h3 with h3 | ⟨q, hq, h3⟩
   ·by_cases h : a ≤ g p
    ·exact .inl (by omega)
    ·exact .inr ⟨p, by simp, by omega⟩
   ·exact .inr ⟨q, by simp [hq], h3⟩
theorem room_law {c : CL} (hc : OkL c) (hd : 1 ≤ c.depth) {r : Int} (h0 : 0 ≤ r) : rightsL (roomy c r) ≠ [] ↔ roomT c (rightsL (wideL c)) ≤ r := by
 have hw : wideL c = roomy c (sizesL c).sum := rfl
 rw [hw]
 obtain ⟨h1, h2, h3⟩ := fold_min (g := needsL c) (rightsL (roomy c (sizesL c).sum)) (sizesL c).sum
 have hS : 0 ≤ (sizesL c).sum := (layer_le (p := []) (n := 0) (pos_sizes hc)).2
 have hz := zero_right hc hd
 have hall : ∀ p ∈ rightsL (roomy c (sizesL c).sum), needsL c p ≤ (sizesL c).sum := fun p hp => (needs_iff hc hS).2 ((rights_roomy hc).1 hp).2.1
 constructor
 ·intro h
  obtain ⟨p, hp⟩ := List.exists_mem_of_ne_nil _ h
  have hq := (rights_roomy hc).1 hp
  have hn := (needs_iff hc h0).2 hq.2.1
  have hpw : p ∈ rightsL (roomy c (sizesL c).sum) := (rights_roomy hc).2 ⟨hq.1, fun n _ _ => (layer_le (pos_sizes hc)).1, hq.2.2⟩
  exact Int.le_trans (h2 p hpw) hn
 ·intro h
  have : ∃ p ∈ rightsL (roomy c (sizesL c).sum), needsL c p ≤ r := by
   rcases h3 with h3 | ⟨p, hp, h3⟩
   ·exact ⟨_, hz, Int.le_trans (hall _ hz) (by have : roomT c (rightsL (roomy c (sizesL c).sum)) = (sizesL c).sum := h3; omega)⟩
   ·exact ⟨p, hp, by have : roomT c (rightsL (roomy c (sizesL c).sum)) = needsL c p := h3; omega⟩
  obtain ⟨p, hp, hn⟩ := this
  have hq := (rights_roomy hc).1 hp
  exact List.ne_nil_of_mem ((rights_roomy hc).2 ⟨hq.1, (needs_iff hc h0).1 hn, hq.2.2⟩)
def mostT (c : CL) (n : Nat) : Int := ((sizesL c).take n).foldl max 0
theorem mostT_succ {c : CL} {n : Nat} (h : n < c.figs.length) : mostT c (n + 1) = max (mostT c n) c.figs[n].size := by
 have hs : n < (sizesL c).length := by simpa [sizesL] using h
 have e : (sizesL c)[n] = c.figs[n].size := by simp [sizesL]
 rw [mostT, List.take_succ_eq_append_getElem hs, List.foldl_append, e]; rfl
theorem sumT_succ {c : CL} {n : Nat} (h : n < c.figs.length) : ((sizesL c).take (n + 1)).sum = ((sizesL c).take n).sum + c.figs[n].size := by
 have hs : n < (sizesL c).length := by simpa [sizesL] using h
 have e : (sizesL c)[n] = c.figs[n].size := by simp [sizesL]
 rw [List.take_succ_eq_append_getElem hs, e]; simp
theorem most_le {c : CL} {r : Int} (h0 : 0 ≤ r) : ∀ n : Nat, n ≤ c.figs.length → (∀ f ∈ c.figs, f.size ≤ r) → mostT c n ≤ r
 | 0, _, _ => by simp [mostT, h0]
 | n + 1, hn, h => by
  rw [mostT_succ (by omega)]
  have := most_le h0 n (by omega) h
  have := h _ (List.getElem_mem (show n < c.figs.length by omega))
  omega
theorem room_most {c : CL} (hc : OkL c) (hd : 1 ≤ c.depth) : (∀ f ∈ c.figs, f.size ≤ roomT c (rightsL (wideL c))) ∧ 0 ≤ roomT c (rightsL (wideL c)) ∧ roomT c (rightsL (wideL c)) ≤ (sizesL c).sum := by
 have hw : wideL c = roomy c (sizesL c).sum := rfl
 rw [hw]
 obtain ⟨h1, h2, h3⟩ := fold_min (g := needsL c) (rightsL (roomy c (sizesL c).sum)) (sizesL c).sum
 have hS : 0 ≤ (sizesL c).sum := (layer_le (p := []) (n := 0) (pos_sizes hc)).2
 have hz := zero_right hc hd
 have hge : ∀ p ∈ rightsL (roomy c (sizesL c).sum), 0 ≤ needsL c p := fun p _ => by
  have : ∀ n, 0 ≤ needsT c p n := fun n => by
   induction n with
   | zero => simp [needsT]
   | succ n ih => rw [needsT_succ]; omega
  exact this _
 have hsz : ∀ p ∈ rightsL (roomy c (sizesL c).sum), ∀ f ∈ c.figs, f.size ≤ needsL c p := fun p hp f hf => by
  have hq := (rights_roomy hc).1 hp
  obtain ⟨i, hi, rfl⟩ := List.getElem_of_mem hf
  have hip : i < p.length := by have := hq.1.len; omega
  have hr := hq.1.rng _ (List.getElem_mem hip)
  have h4 := (layer_ge (x := p[i]) (pos_sizes hc) (List.getElem?_eq_getElem hip) (List.getElem?_eq_getElem hi)).1
  have h5 := (needs_iff hc (hge p hp)).1 (Int.le_refl _) p[i] hr.1 hr.2
  exact Int.le_trans h4 h5
 have hR : roomT c (rightsL (roomy c (sizesL c).sum)) = (sizesL c).sum ∨ ∃ p ∈ rightsL (roomy c (sizesL c).sum), roomT c (rightsL (roomy c (sizesL c).sum)) = needsL c p := h3
 refine ⟨fun f hf => ?_, ?_, h1⟩
 ·rcases hR with h | ⟨p, hp, h⟩
  ·rw [h]
   have h4 := hsz _ hz f hf
   have h5 := (needs_iff hc hS).2 ((rights_roomy hc).1 hz).2.1
   omega
  ·rw [h]; exact hsz p hp f hf
 ·rcases hR with h | ⟨p, hp, h⟩
  ·omega
  ·rw [h]; exact hge p hp
theorem ret_agg {st st1 : St} {a b : Int} {v : PV} {l : List Fig} (hv : SlOf 3 encF v l) (hlo : st.heap.length ≤ st1.lo) : ∃ F', (finishCall st st1 (.agg [iv a, iv b, v])).1 = .agg [iv a, iv b, F'] ∧ SlOf 3 encF F' l ∧ Keep st (finishCall st st1 (.agg [iv a, iv b, v])).2 := by
 obtain ⟨F', e1, hW⟩ := finish_agg (a := a) (b := b) hv.sl hlo (fun m => lowL_of (encF_low _ m))
 exact ⟨F', e1, retF hW, keepW hW⟩
theorem c66 (c : CL) (F : PV) (r : Int) (hF : SlOf 3 encF F c.figs) (st : St) : ClR EE (.func 66 [] []) [clPV c F, iv r] st (fun v st' => ∃ F', v = clPV (roomy c r) F' ∧ SlOf 3 encF F' (roomy c r).figs ∧ Keep st st') := by
 have hFc := hF.cells
 have hFi := hF.isCell
 refine clr_fn (pr66 · _ _) fn66 2 rfl (by decide) (fun tm hl hg => ?_); have h0 : tg tm 0 = clPV c F := (hg 0 (by decide)); have h1 : tg tm 1 = iv r := (hg 1 (by decide)); clear hg
 refine go (bw5 hl h0 h1 hFc hFi) fnil ?_
 refine fnr_ret (v := .agg [iv r, iv c.depth, F]) (results_one ?_) ?_
 ·rw [rdRes_hp (l := st.heap.length + 1) (off := 0) (by simp only [↓reduceIte, go_sem, hl])]
  simp only [↓reduceIte, go_sem, hl]
  first | done | rfl
 ·exact ret_agg hF (by simp only [lo_push, lo_setVar]; omega)
theorem roomy_list {c : CL} {r : Int} (hA : listB c = true) (h1 : 1 ≤ r) (h2 : r ≤ 20) : listB (roomy c r) = true := by
 simp only [listB, Bool.and_eq_true] at hA ⊢
 refine ⟨?_, hA.2⟩
 simp only [inB, Bool.and_eq_true]
 exact ⟨decide_eq_true h1, decide_eq_true h2⟩
set_option maxHeartbeats 32000000 in
theorem c18 (c : CL) (F : PV) (r : Int) (hF : SlOf 3 encF F c.figs) (st : St) : Cl EE (.func 18 [] []) [clPV c F, iv r] st (.ret (.bool true)) st := by
 have hFc := hF.cells
 have hFi := hF.isCell
 have hFs := hF.slen
 refine cl_fn (pr18 · _ _) fn18 2 rfl (by decide) (fun tm hl hg => ?_); have h0 : tg tm 0 = clPV c F := (hg 0 (by decide)); have h1 : tg tm 1 = iv r := (hg 1 (by decide)); clear hg
 have k24 := c24 c F hF
 cases hA : listB c
 ·refine go (bw4 hl h0 h1 hA) (bw3 k24 c26 fnil) ?_
  refine fnq_flat (results_one (by rw [rdRes_tmp]; simp only [↓reduceIte, go_sem, hl]; first | done | rfl)) (by first | exact Nat.le_refl _ | omega | (simp only [lo_push, lo_setVar]; omega)) (by rfl)
 have hc := OkL.of hA
 have hlen := hc.len
 cases d1 : decide (r < 1)
 case true =>
  refine go (bw5 hl h0 h1 hA d1) (bw3 k24 c26 fnil) ?_
  refine fnq_flat (results_one (by rw [rdRes_tmp]; simp only [↓reduceIte, go_sem, hl]; first | done | rfl)) (by first | exact Nat.le_refl _ | omega | (simp only [lo_push, lo_setVar]; omega)) (by rfl)
 cases d2 : decide (r > 20)
 case true =>
  refine go (bw6 hl h0 h1 hA d1 d2) (bw3 k24 c26 fnil) ?_
  refine fnq_flat (results_one (by rw [rdRes_tmp]; simp only [↓reduceIte, go_sem, hl]; first | done | rfl)) (by first | exact Nat.le_refl _ | omega | (simp only [lo_push, lo_setVar]; omega)) (by rfl)
 have hr1 := of_decide_eq_false d1
 have hr2 := of_decide_eq_false d2
 have hd1 : 1 ≤ c.depth := by
  simp only [listB, inB, Bool.and_eq_true, decide_eq_true_eq] at hA
  omega
 have hrl := room_law hc hd1 (show 0 ≤ r by omega)
 obtain ⟨hm1, hm2, hm3⟩ := room_most hc hd1
 have k63 : ∀ st, Cl EE (.func 63 [] []) [clPV c F] st (.ret (.tuple [iv (roomT c (rightsL (wideL c))), iv 0])) st := fun st => by
  have := c63 c F hF st
  rw [show roomR c = (roomT c (rightsL (wideL c)), 0) by simp [roomR, hA]] at this
  exact this
 generalize roomT c (rightsL (wideL c)) = N at hrl hm1 hm2 hm3 k63
 refine go (bw6 hl h0 h1 hA d1 d2) (bw3 k24 k63 fnil) ?_
 refine wops_callR rfl rfl (by simp only [↓reduceIte, go_sem, hl]; first | done | rfl) (by simp only [↓reduceIte, go_sem, hl]; exact c66 c F r hF _) ?_
 rintro v S1 ⟨G, rfl, hG, hK⟩
 have q1 := hK.2
 have q2 := hK.len
 try simp only [lo_push, len_push] at q1 q2
 have b1 := hK.hp (l := st.heap.length) (o := .var [iv c.room, iv c.depth, F]) (by simp only [↓reduceIte, go_sem])
 refine wops_callR rfl rfl (by simp only [↓reduceIte, go_sem, hl]; first | done | rfl) (by simp only [↓reduceIte, go_sem, hl]; exact r31 (roomy c r) G hG _) ?_
 rintro w S2 ⟨B, rfl, hBs, hK2⟩
 have q3 := hK2.2
 have q4 := hK2.len
 have b2 := hK2.hp b1
 have m2 := hp_lt b2
 obtain ⟨n, e, hne⟩ : ∃ n e, bestR (roomy c r) = ((bestR (roomy c r)).1, n, e) ∧ ((rightsL (roomy c r) ≠ [] ∧ e = 0) ∨ (rightsL (roomy c r) = [] ∧ e = 5)) := by
  have hL := roomy_list hA (show 1 ≤ r by omega) (show r ≤ 20 by omega)
  cases hb : bestF ltLay (rightsL (roomy c r)) with
  | none => exact ⟨0, 5, by simp [bestR, hL, hb], .inr ⟨best_none hb, rfl⟩⟩
  | some b => exact ⟨layersL b, 0, by simp [bestR, hL, hb], .inl ⟨List.ne_nil_of_mem (best_law (m := layersL) (rights_sorted _) hb).1, rfl⟩⟩
 obtain ⟨hbe, hcase⟩ := hne
 rw [hbe]
 refine go (bw hl h1) fnil ?_
 refine wp_for [12, 11, 10] (fun i vs s => vs = [iv i, iv ((sizesL c).take i).sum, iv (mostT c i)] ∧ i ≤ c.figs.length ∧ s = S2) (fun i => c.figs.length - i) ⟨by simp only [↓reduceIte, go_sem, hl]; rfl, Nat.zero_le _, rfl⟩ ?_
 rintro i tm1 s1 ⟨hv, hi, rfl⟩ hS
 simp only [List.map_cons, List.map_nil, List.cons.injEq, and_true] at hv
 obtain ⟨hv12, hv11, hv10⟩ := hv
 have hl1 : tm1.length = 92 := (by rw [hS.1]; simp only [put_len, hl]); have i1 : tg tm1 1 = iv r := (by rw [hS.2 1 (by decide)]; simp only [↓reduceIte, go_sem, hl, h1]); have i2 : tg tm1 2 = .ptr st.heap.length 0 := (by rw [hS.2 2 (by decide)]; simp only [↓reduceIte, go_sem, hl, h1]); have i5 : tg tm1 5 = iv N := (by rw [hS.2 5 (by decide)]; simp only [↓reduceIte, go_sem, hl, h1]); have i6 : tg tm1 6 = iv 0 := (by rw [hS.2 6 (by decide)]; simp only [↓reduceIte, go_sem, hl, h1]); have i9 : tg tm1 9 = iv e := (by rw [hS.2 9 (by decide)]; simp only [↓reduceIte, go_sem, hl, h1]); clear hS
 refine go (bw10 hl1 hv12 i2 b2 (neL m2) (neA m2) (ltL m2) (ltA m2) m2 hFs) fnil ?_
 refine ⟨decide ((i : Int) < c.figs.length), by simp only [↓reduceIte, go_sem, hl1], fun hb => ?_, fun hb1 => ?_⟩
 rotate_left
 ·have hlt : i < c.figs.length := by have := of_decide_eq_true hb1; omega
  have hw1 : IntKind.wrap .i64 ((i : Int) + 1) = ((i + 1 : Nat) : Int) := wrap_nat (n := i + 1) (by omega)
  have hss := sumT_succ (c := c) hlt
  have hms := mostT_succ (c := c) hlt
  have hbd := sum_bound (l := (sizesL c).take (i + 1)) (b := 9) (by omega) (fun x hx => by
   obtain ⟨f, hf, rfl⟩ := List.mem_map.1 (List.mem_of_mem_take hx)
   have := hc.size hf; omega)
  have hbl : ((sizesL c).take (i + 1)).length ≤ i + 1 := by simp; omega
  have hw : IntKind.wrap .i64 (((sizesL c).take i).sum + c.figs[i].size) = ((sizesL c).take (i + 1)).sum := by rw [← hss]; exact wrap_in (by unfold inI; omega)
  refine ⟨by omega, ?_⟩
  refine go (bw14 hl1 hv12 hv11 hv10 i2 b2 (neL m2) (neA m2) (ltL m2) (ltA m2) m2 @mm2 hw hw1) fnil ?_
  exact ⟨by simp only [↓reduceIte, go_sem, hl1, hms], by omega, rfl⟩
 have hlt := of_decide_eq_false hb
 obtain rfl : i = c.figs.length := by omega
 have hsl : (sizesL c).length = c.figs.length := by simp [sizesL]
 rw [← hsl, List.take_length] at hv11
 have hml := most_le hm2 c.figs.length (Nat.le_refl _) hm1
 have y1 : decide (N ≥ mostT c c.figs.length) = true := by rw [decide_eq_true_eq]; omega
 have y2 : decide (N ≤ (sizesL c).sum) = true := by rw [decide_eq_true_eq]; omega
 have zb : (true == true) = true ∧ (false == false) = true := ⟨rfl, rfl⟩
 rcases hcase with ⟨hx, rfl⟩ | ⟨hx, rfl⟩
 ·have y3 : decide (r ≥ N) = true := by rw [decide_eq_true_eq]; exact hrl.1 hx
  refine go (bw12 hl1 hv11 hv10 i1 i5 i6 i9 zs zb y1 y2 y3) (bw c26 fnil) ?_
  refine fnq_flat (results_one (by rw [rdRes_tmp]; simp only [↓reduceIte, go_sem, hl1]; first | done | rfl)) (by first | exact Nat.le_refl _ | omega | (simp only [lo_push, lo_setVar]; omega)) (by rfl)
 ·have y3 : decide (r ≥ N) = false := by rw [decide_eq_false_iff_not]; exact fun h => hrl.2 h hx
  refine go (bw12 hl1 hv11 hv10 i1 i5 i6 i9 zs zb y1 y2 y3) (bw c26 fnil) ?_
  refine fnq_flat (results_one (by rw [rdRes_tmp]; simp only [↓reduceIte, go_sem, hl1]; first | done | rfl)) (by first | exact Nat.le_refl _ | omega | (simp only [lo_push, lo_setVar]; omega)) (by rfl)
end Go.Den.Ch
end

/- Part of the proofs of laws of the package chest: the interpreter Den, its soundness, and contracts of the program's functions over it. Texts: ChI, ChJ. -/
import Derived.Test.YtoeigapilcgelaaGreatDoorK2Ba
set_option linter.unusedSimpArgs false
set_option linter.unusedVariables false
section
namespace Go.Den.Ch
theorem searchL_mem {c : CL} : ∀ {k : Nat} {now p : List Int}, p ∈ searchL c k now → now.length + k = c.figs.length → (∀ x ∈ now, 0 ≤ x ∧ x < c.depth) → OkP c p ∧ fault c p = none
 | 0, now, p, h, hl, hr => by
  simp only [searchL] at h
  split at h
  ·rename_i hf
   simp only [List.mem_singleton] at h
   subst h
   exact ⟨⟨by omega, hr⟩, by simpa using hf⟩
  ·cases h
 | k + 1, now, p, h, hl, hr => by
  simp only [searchL, List.mem_flatMap, List.mem_range] at h
  obtain ⟨n, hn, h⟩ := h
  split at h
  ·cases h
  ·refine searchL_mem h (by simp; omega) (fun x hx => ?_)
   rcases List.mem_append.1 hx with h1 | h1
   ·exact hr x h1
   ·simp only [List.mem_singleton] at h1; subst h1; omega
theorem rightsL_mem {c : CL} {p : List Int} (h : p ∈ rightsL c) : OkP c p ∧ fault c p = none := searchL_mem h (by simp) (by simp)
theorem layersL_small {c : CL} {p : List Int} (hc : OkL c) (hp : OkP c p) : ∀ x ∈ p, inI (x + 1) := fun x hx => by
 have := hp.rng x hx
 have := hc.d1
 unfold inI; omega
def ltLay (a b : List Int) : Bool := decide (layersL a < layersL b)
theorem c83 (c : CL) (F P P2 : PV) (p p2 : List Int) (hc : OkL c) (hF : F.cells = [F]) (hp : OkP c p) (hp2 : OkP c p2) (hP : SlOf 1 encI P p) (hP2 : SlOf 1 encI P2 p2) (st : St) : Cl EE (.func 83 [] []) [paPV c F P, paPV c F P2] st (.ret (.bool (ltLay p p2))) st := by
 have hPc := hP.cells
 have hPc2 := hP2.cells
 have := hc.len
 have := hp.len
 have := hp2.len
 refine cl_fn (pr83 · _ _) fn83 2 rfl (by decide) (fun tm hl hg => ?_); have h0 : tg tm 0 = paPV c F P := (hg 0 (by decide)); have h1 : tg tm 1 = paPV c F P2 := (hg 1 (by decide)); clear hg
 refine go (bw3 hl h0 h1) (bw3 (c84 c F P p hF hP (by omega) (layersL_small hc hp)) (c84 c F P2 p2 hF hP2 (by omega) (layersL_small hc hp2)) fnil) ?_
 unfold ltLay
 refine fnq_flat (results_one (by rw [rdRes_tmp]; simp only [go_sem, hl]; first | done | rfl)) (by first | exact Nat.le_refl _ | omega | (simp only [lo_push, lo_setVar]; omega)) (by rfl)
def bestR (c : CL) : List Int × Int × Int := if listB c then (match bestF ltLay (rightsL c) with | some p => (p, layersL p, 0) | none => ([], 0, 5)) else ([], 0, 2)
theorem ints_low (l : List Int) (m : Nat) : lowL m (l.flatMap encI) = true := lowL_of (fun c hc => encI_low l m c hc)
set_option maxHeartbeats 4000000 in
theorem c31 (c : CL) (F : PV) (hF : SlOf 3 encF F c.figs) (st : St) : ClR EE (.func 31 [] []) [clPV c F] st (fun v st' => ∃ P, v = .tuple [P, iv (bestR c).2.1, iv (bestR c).2.2] ∧ RetW st (bestR c).1.length ((bestR c).1.flatMap encI) P st') := by
 have hFc := hF.cells
 have hFi := hF.isCell
 refine clr_fn (pr31 · _ _) fn31 1 rfl (by decide) (fun tm hl hg => ?_); have h0 : tg tm 0 = clPV c F := (hg 0 (by decide)); clear hg
 cases hA : listB c
 ·have e : bestR c = ([], 0, 2) := by simp [bestR, hA]
  rw [e]
  refine go (bw3 hl h0 hA) (bw (c77 c F hF) fnil) ?_
  refine fnr_ret (v := .tuple [.nilslice, iv 0, iv 2]) (by simp only [results, rdResL, rdRes_tmp]; simp only [go_sem, hl]) ?_
  exact finish_slT rfl (by rfl) (by simp only [lo_push]; omega) (fun m => rfl)
 ·have hc := OkL.of hA
  refine go (bw3 hl h0 hA) (bw3 (c77 c F hF) (c82 c F) fnil) ?_
  have hb1 : hp ((({ heap := st.heap, lo := st.heap.length } : St).push (.var [iv c.room, iv c.depth, F])).push (.var [iv c.room, iv c.depth, F])) (st.heap.length + 1) = some (.var [iv c.room, iv c.depth, F]) := by simp only [go_sem]
  refine wops_callR rfl rfl (by simp only [go_sem, hl]; first | done | rfl) (by simp only [go_sem, hl]; exact c81 c F hFc hFi 129 [] [.ptr (st.heap.length + 1) 0] (.func 83 [] []) rfl (rightsL c) ltLay (fun l => l = st.heap.length + 1) _ (fun l h => by subst h; simp only [len_push]; omega) (fun st' hx => iter129 hF hc (hx.hp hb1)) (fun st' _ x hx o ho vx vo ⟨P, e1, hP⟩ ⟨P2, e2, hP2⟩ => by subst e1; subst e2; exact c83 c F P P2 x o hc hFc (rightsL_mem hx).1 (rightsL_mem ho).1 hP hP2 st')) ?_
  rintro v st1 ⟨cs, rfl, hO, hk, hlo⟩
  simp only [lo_push] at hlo
  have hk1 := hk.1
  simp only [len_push] at hk1
  have hwf1 : st1.lo ≤ st1.heap.length := by omega
  cases hb : bestF ltLay (rightsL c) with
  | none =>
   have e : bestR c = ([], 0, 5) := by simp [bestR, hA, hb]
   rw [e]
   rw [hb] at hO
   simp only [OutP] at hO
   subst hO
   refine go (bw4 hl @isS @isN hb) fnil ?_
   refine fnr_ret (v := .tuple [.nilslice, iv 0, iv 5]) (by simp only [results, rdResL, rdRes_tmp]; simp only [go_sem, hl]) ?_
   exact finish_slT rfl (by rfl) (by simp only [lo_push, lo_setVar]; omega) (fun m => rfl)
  | some p =>
   have e : bestR c = (p, layersL p, 0) := by simp [bestR, hA, hb]
   rw [e]
   rw [hb] at hO
   obtain ⟨P, rfl, hP⟩ := hO
   have hPc := hP.cells
   have hPi := hP.isCell
   have hlen := hc.len
   have hp := (rightsL_mem (bestF_mem ltLay (rightsL c) (Nat.le_refl _) (by rw [List.take_length]; exact hb))).1
   have hpl := hp.len
   refine go (bw6 hl @isS @isN hb hFi hPi) (bw (c84 c F P p hFc hP (by omega) (layersL_small hc hp)) fnil) ?_
   refine fnr_ret (v := .tuple [P, iv (layersL p), iv 0]) (by simp only [results, rdResL, rdRes_tmp]; simp only [go_sem, hl]) ?_
   exact finish_slT hP.sl (by rfl) (by simp only [lo_push, lo_setVar]; omega) (fun m => ints_low p m)
set_option maxHeartbeats 4000000 in
theorem c32 (c : CL) (F : PV) (hF : SlOf 3 encF F c.figs) (hX : (rightsL c).length < 1000000) (st : St) : Cl EE (.func 32 [] []) [clPV c F] st (.ret (.tuple [iv (if listB c then (rightsL c).length else 0), iv (if listB c then 0 else 2)])) st := by
 have hFc := hF.cells
 refine cl_fn (pr32 · _ _) fn32 1 rfl (by decide) (fun tm hl hg => ?_); have h0 : tg tm 0 = clPV c F := (hg 0 (by decide)); clear hg
 cases hA : listB c
 ·simp only [Bool.false_eq_true, if_false]
  refine go (bw3 hl h0 hA) (bw (c77 c F hF) fnil) ?_
  exact fnq_tuple (by simp only [results, rdResL, rdRes_tmp]; simp only [go_sem, hl]) (by simp only [lo_push]; omega) (by rfl)
 ·have hc := OkL.of hA
  simp only [if_true]
  refine go (bw3 hl h0 hA) (bw3 (c77 c F hF) (c82 c F) fnil) ?_
  apply wp_block
  refine wp_gen (fun tm1 s1 => tm1.length = 14 ∧ tg tm1 4 = .ptr (st.heap.length + 1) 0 ∧ tg tm1 9 = .func 129 [] [.ptr (st.heap.length + 2) 0] ∧ s1.heap.length = st.heap.length + 3 ∧ st.heap.length ≤ s1.lo ∧ s1.lo ≤ s1.heap.length ∧ hp s1 (st.heap.length + 1) = some (.var [iv 0]) ∧ hp s1 (st.heap.length + 2) = some (.var [iv c.room, iv c.depth, F]))
   ⟨by simp only [go_sem, hl], by simp only [go_sem, hl], by simp only [go_sem, hl], by simp only [go_sem], by simp only [lo_push, lo_setVar]; omega, by simp only [lo_push, lo_setVar, len_push, len_setVar]; omega, by simp only [go_sem], by simp only [go_sem]⟩ ?_
  rintro tm1 s1 ⟨hl1, q4, q9, hsl, hlo, hwf, z1, z2⟩
  refine wp_rangeF (X := rightsL c) (Rep := RepP c F) (priv := fun l => l = st.heap.length + 2) (fun l => l = st.heap.length + 1) st.heap.length
   (fun i h => h[st.heap.length + 1]? = some (.var [iv i])) (fun _ _ => False) (by simp only [go_sem, q9]) (iter129 hF hc ((HExt.push _ _).hp z2)) (fun l hl => by omega) (fun l hl => by omega) hlo hwf
   (fun i h h' a0 hx => hx.var a0) (fun _ _ _ h _ => h) (fun i h s p s' p' a0 hL => set_var a0 hL) (fun _ _ _ _ _ _ h _ => h) z1 ?_ ?_ (fun _ _ h => h.elim)
  ·rintro i hi v st1 ⟨P, rfl, hP⟩ a0 he1 hwf1 hL
   refine ⟨_, setParams_one, ?_⟩
   have lL := hp_lt hL
   have a0' : hp st1 (st.heap.length + 1) = some (.var [iv i]) := a0
   have m0 := hp_lt a0'
   apply wp_skip
   refine ⟨rfl, .refl _, he1, hwf1, ?_⟩
   have hw : IntKind.wrap .i64 ((i : Int) + 1) = ((i + 1 : Nat) : Int) := wrap_in (by unfold inI; omega)
   have a1 : ∀ o, hp (setVar st1 s1.heap.length o) (st.heap.length + 1) = some (.var [iv i]) := fun o => hp_set_other a0' (by omega)
   refine go (bw8 hl1 q4 a1 hw (neL m0) (neA m0) (ltL m0) (ltA m0)) fnil ?_
   refine ⟨hp_set_other (by simp only [go_sem, neL lL, neA lL, ltL lL, ltA lL]) (by omega), ⟨by simp only [len_setVar]; exact Nat.le_refl _, fun l o ho _ hn => hp_set_other (hp_set_other ho (fun h => hn (.inr h))) (fun h => hn (.inl h))⟩, by simp only [lo_setVar]; omega, by simp only [lo_setVar, len_setVar]; omega, ?_⟩
   have : ∀ o, hp (setVar (setVar st1 s1.heap.length o) (st.heap.length + 1) (.var [iv ((i + 1 : Nat) : Int)])) (st.heap.length + 1) = some (.var [iv ((i + 1 : Nat) : Int)]) := fun o => by simp only [go_sem, neL m0, neA m0, ltL m0, ltA m0]
   exact this _
  ·rintro s2 a0 hk2 he2 hwf2
   have a0' : hp s2 (st.heap.length + 1) = some (.var [iv (rightsL c).length]) := a0
   apply inBlock_normal
   refine go (bw3 hl1 q4 a0') fnil ?_
   exact fnq_tuple (by simp only [results, rdResL, rdRes_tmp]; simp only [go_sem, hl1]) he2 (by rfl)
end Go.Den.Ch
end
section
namespace Go.Den.Ch
def hasI (l : List Int) (x : Int) : Bool := l.any fun a => x == a
def lowestL (p fs : List Int) : Int := fs.foldl (fun n k => max n (p.getD k.toNat 0)) (-1)
def castL (l : List Nat) : List Int := l.map fun (i : Nat) => (i : Int)
def outP (p fs : List Int) (i : Nat) : Bool := decide (p.getD i 0 < lowestL p fs) && !hasI fs i
def outL (p fs : List Int) : List Int := castL ((List.range p.length).filter (outP p fs))
def wantP (c : CL) (e : Int) (i : Nat) : Bool := match c.figs[i]? with
 | some f => f.eve == e
 | none => false
def wantL (c : CL) (e : Int) : List Int := castL ((List.range c.figs.length).filter (wantP c e))
def troubleT (c : CL) (p : List Int) (n : Nat) : Int := ((List.range n).map fun (e : Nat) => ((outL p (wantL c e)).length : Int)).sum
def troubleL (c : CL) (p : List Int) : Int := troubleT c p 6
theorem castL_succ (P : Nat → Bool) (i : Nat) : castL ((List.range (i + 1)).filter P) = castL ((List.range i).filter P) ++ (if P i then [(i : Int)] else []) := by
 rw [List.range_succ, List.filter_append, castL, castL, List.map_append]
 cases h : P i <;> simp [h]
theorem castL_len (P : Nat → Bool) (i : Nat) : (castL ((List.range i).filter P)).length ≤ i := by
 rw [castL, List.length_map]
 have := List.length_filter_le P (List.range i)
 simpa using this
theorem c148 (F : PV) (l : List Int) (hF : SlOf 1 encI F l) (hN : l.length < 1000) (x : Int) (st : St) : Cl EE (.func 148 [] []) [F, iv x] st (.ret (iv (idxI (fun a => x == a) l))) st := by
 refine cl_fn (pr148 · _ _) fn148 2 rfl (by decide) (fun tm hl hg => ?_); have h0 : tg tm 0 = F := (hg 0 (by decide)); have h1 : tg tm 1 = iv x := (hg 1 (by decide)); clear hg
 have hs := hF.slen
 refine go (bw4 hl h0 h1 hs) fnil ?_
 refine wp_range l.length [] (fun i vs st' => st' = { heap := st.heap, lo := st.heap.length } ∧ ∀ k (hk : k < i) (hl : k < l.length), (x == l[k]) = false) (by omega) (by simp only [go_sem, hl]) (by simp only [go_sem, hl]) (by simp only [go_sem, hl]) (by decide) ⟨rfl, fun k hk => absurd hk (by omega)⟩ ?_ ?_
 ·rintro i hi tm1 st1 ⟨rfl, hk⟩ hS hia
  have hl1 : tm1.length = 19 := (by rw [hS.1]; simp only [put_len, hl]); have i0 : tg tm1 0 = F := (by rw [hS.2 0 (by decide)]; simp only [go_sem, hl, h0, h1]); have i1 : tg tm1 1 = iv x := (by rw [hS.2 1 (by decide)]; simp only [go_sem, hl, h0, h1]); clear hS
  cases hp : (x == l[i])
  ·refine go (bw5 hl1 i0 i1 hia hp) fnil ?_
   refine ⟨rfl, fun k hk1 hk2 => ?_⟩
   by_cases hki : k = i
   ·subst hki; exact hp
   ·exact hk k (by omega) hk2
  ·rw [idxI_at hi (fun k hk1 => hk k hk1 (by omega)) hp]
   refine go (bw5 hl1 i0 i1 hia hp) fnil ?_
   refine fnq_flat (results_one (by rw [rdRes_tmp]; simp only [go_sem, hl1]; first | done | rfl)) (by first | exact Nat.le_refl _ | omega | (simp only [lo_push, lo_setVar]; omega)) (by rfl)
 ·rintro tm1 st1 ⟨rfl, hk⟩ hS
  have hl1 : tm1.length = 19 := (by rw [hS.1]; simp only [put_len, hl]); clear hS
  rw [idxI_no (fun k hk1 => hk k hk1 hk1)]
  refine go hl1 fnil ?_
  refine fnq_flat (results_one (by rw [rdRes_tmp]; simp only [go_sem, hl1]; first | done | rfl)) (by first | exact Nat.le_refl _ | omega | (simp only [lo_push, lo_setVar]; omega)) (by rfl)
theorem c133 (F : PV) (l : List Int) (hF : SlOf 1 encI F l) (hN : l.length < 1000) (x : Int) (st : St) : Cl EE (.func 133 [] []) [F, iv x] st (.ret (.bool (hasI l x))) st := by
 refine cl_fn (pr133 · _ _) fn133 2 rfl (by decide) (fun tm hl hg => ?_); have h0 : tg tm 0 = F := (hg 0 (by decide)); have h1 : tg tm 1 = iv x := (hg 1 (by decide)); clear hg
 rw [hasI, ← idxI_ge]
 refine go (bw3 hl h0 h1) (bw (c148 F l hF hN x) fnil) ?_
 refine fnq_flat (results_one (by rw [rdRes_tmp]; simp only [go_sem, hl]; first | done | rfl)) (by first | exact Nat.le_refl _ | omega | (simp only [lo_push, lo_setVar]; omega)) (by rfl)
theorem lowestL_take {p fs : List Int} {i : Nat} (h : i < fs.length) : lowestL p (fs.take (i + 1)) = max (lowestL p (fs.take i)) (p.getD fs[i].toNat 0) := by
 rw [List.take_succ_eq_append_getElem h, lowestL, List.foldl_append]; rfl
def OkF (n : Nat) (fs : List Int) : Prop := ∀ x ∈ fs, 0 ≤ x ∧ x < n
set_option maxHeartbeats 4000000 in
theorem c91 (c : CL) (F P G : PV) (p fs : List Int) (hF : F.cells = [F]) (hP : SlOf 1 encI P p) (hG : SlOf 1 encI G fs) (hp : p.length < 1000) (hg : fs.length < 1000) (hfs : OkF p.length fs) (st : St) : ClR EE (.func 91 [] []) [paPV c F P, G] st (RetS st 1 (outL p fs).length ((outL p fs).flatMap encI)) := by
 have hPc := hP.cells
 have hPs := hP.slen
 have hGs := hG.slen
 refine clr_fn (pr91 · _ _) fn91 2 rfl (by decide) (fun tm hl hg => ?_); have h0 : tg tm 0 = paPV c F P := (hg 0 (by decide)); have h1 : tg tm 1 = G := (hg 1 (by decide)); clear hg
 refine go (bw4 hl h0 h1 hGs) fnil ?_
 refine wp_range fs.length [5] (fun i vs st' => vs = [iv (lowestL p (fs.take i))] ∧ st' = (({ heap := st.heap, lo := st.heap.length } : St).push (.var [iv c.room, iv c.depth, F, P]))) (by omega) (by simp only [go_sem, hl]) (by simp only [go_sem, hl]) (by simp only [go_sem, hl]) (by decide) ⟨by simp only [go_sem, hl]; rfl, by simp only [go_sem]⟩ ?_ ?_
 ·rintro i hi tm1 st1 ⟨hv, rfl⟩ hS hia
  simp only [List.map_cons, List.map_nil, List.cons.injEq, and_true] at hv
  have hl1 : tm1.length = 48 := (by rw [hS.1]; simp only [put_len, hl]); have i2 : tg tm1 2 = .ptr st.heap.length 0 := (by rw [hS.2 2 (by decide)]; simp only [go_sem, hl, h1]); have i11 : tg tm1 11 = G := (by rw [hS.2 11 (by decide)]; simp only [go_sem, hl, h1]); clear hS
  have hr := hfs _ (List.getElem_mem hi)
  refine go (bw6 hl1 i2 i11 hia hv @mm2) fnil ?_
  refine ⟨?_, rfl⟩
  simp only [go_sem, hl1]
  rw [lowestL_take hi, List.getD_eq_getElem?_getD, List.getElem?_eq_getElem (by omega)]
  rfl
 ·rintro tm1 st1 ⟨hv, rfl⟩ hS
  simp only [List.map_cons, List.map_nil, List.cons.injEq, and_true, List.take_length] at hv
  have hl1 : tm1.length = 48 := (by rw [hS.1]; simp only [put_len, hl]); have i1 : tg tm1 1 = G := (by rw [hS.2 1 (by decide)]; simp only [go_sem, hl, h1]); have i2 : tg tm1 2 = .ptr st.heap.length 0 := (by rw [hS.2 2 (by decide)]; simp only [go_sem, hl, h1]); clear hS
  refine go (bw3 hl1 i2 hPs) fnil ?_
  refine wp_range p.length [8] (fun i vs st' => ∃ v, vs = [v] ∧ OwnS st.heap.length st' 1 v (castL ((List.range i).filter (outP p fs))).length ((castL ((List.range i).filter (outP p fs))).flatMap encI) ∧ st.heap.length ≤ st'.lo ∧ st.heap.length ≤ st'.heap.length) (by omega) (by simp only [go_sem, hl1]) (by simp only [go_sem, hl1]) (by simp only [go_sem, hl1]) (by decide) ⟨_, by simp only [go_sem, hl1], .nil, by simp [lo_push], by simp [len_push]⟩ ?_ ?_
  ·rintro i hi tm2 st2 ⟨v, hv2, hO, hlo, hwf⟩ hS hia
   simp only [List.map_cons, List.map_nil, List.cons.injEq, and_true] at hv2
   have hl2 : tm2.length = 48 := (by rw [hS.1]; simp only [put_len, hl1]); have j1 : tg tm2 1 = G := (by rw [hS.2 1 (by decide)]; simp only [go_sem, hl1, i1, hv]); have j5 : tg tm2 5 = iv (lowestL p fs) := (by rw [hS.2 5 (by decide)]; simp only [go_sem, hl1, i1, hv]); have j26 : tg tm2 26 = P := (by rw [hS.2 26 (by decide)]; simp only [go_sem, hl1, i1, hv]); clear hS
   rw [castL_succ]
   have hget : p.getD i 0 = p[i] := by rw [List.getD_eq_getElem?_getD, List.getElem?_eq_getElem hi]; rfl
   have hll := castL_len (outP p fs) i
   cases hx : decide (p[i] < lowestL p fs)
   ·have ho : outP p fs i = false := by simp only [outP, hget, hx, Bool.false_and]
    refine go (bw7 hl2 j1 j5 j26 hia hv2 hx) fnil ?_
    exact ⟨v, by simp only [go_sem, hl2, hv2], by simpa [ho] using hO, hlo, hwf⟩
   ·cases hy : hasI fs (i : Int)
    ·have ho : outP p fs i = true := by simp only [outP, hget, hx, hy, Bool.not_false, Bool.and_self]
     refine go (bw8 hl2 j1 j5 j26 hia hv2 hx hy) (bw (c133 G fs hG hg) fnil) ?_
     refine wops_append rfl rfl (by simp only [go_sem, hl2, hv2]; first | done | rfl) (by simp only [go_sem, hl2, hv2]; first | done | rfl) (hO.push) rfl (by first | omega | (simp only [len_push, len_setVar]; omega)) (by rfl) (by rfl) (by simp only [maxList]; omega) ?_
     intro v' st3 hO' hFr hk
     refine go hl2 fnil ?_
     refine ⟨v', by simp only [go_sem, hl2], by simpa [ho, share_int] using hO', ?_, ?_⟩
     ·have := hFr.lo
      simp only [lo_push] at this
      omega
     ·have := hFr.len
      simp only [len_push] at this
      omega
    ·have ho : outP p fs i = false := by simp only [outP, hget, hx, hy, Bool.not_true, Bool.and_false]
     refine go (bw8 hl2 j1 j5 j26 hia hv2 hx hy) (bw (c133 G fs hG hg) fnil) ?_
     exact ⟨v, by simp only [go_sem, hl2, hv2], by simpa [ho] using hO, hlo, hwf⟩
  ·rintro tm2 st2 ⟨v, hv2, hO, hlo, hwf⟩ hS
   simp only [List.map_cons, List.map_nil, List.cons.injEq, and_true] at hv2
   have hl2 : tm2.length = 48 := (by rw [hS.1]; simp only [put_len, hl1]); clear hS
   refine go (bw hl2 hv2) fnil ?_
   exact fnr_ret (results_one (v := v) (by rw [rdRes_tmp]; simp only [go_sem, hl2])) (hO.finish hlo (fun m c hc => encI_low _ m c hc))
end Go.Den.Ch
end

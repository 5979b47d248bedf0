/- Part of the proofs of laws of the package chest: the interpreter Den, its soundness, and contracts of the program's functions over it. Texts: ChR. -/
import Derived.Test.YtoeigapilcgelaaGreatDoorK2Bg
set_option linter.unusedSimpArgs false
set_option linter.unusedVariables false
section
namespace Go.Den.Ch
def ownL (next : List Int) (n : Int) : List Int := castL ((List.range next.length).filter fun i => next.getD i 0 == n)
def chestL (c : CL) : Nat → List Int → Nat → List (List Int)
 | 0, now, _ => [now]
 | k + 1, now, many => (List.range (many + 1)).flatMap fun (n : Nat) => if canB c (ownL (now ++ [(n : Int)]) n) then chestL c k (now ++ [(n : Int)]) (max many (n + 1)) else []
def chestsX (c : CL) : List (List Int) := chestL c c.figs.length [] 0
def RepI (v : PV) (x : List Int) : Prop := SlOf 1 encI v x
theorem castL_ris (P : Nat → Bool) (n : Nat) : (castL ((List.range n).filter P)).Pairwise (· < ·) := by
 rw [castL, List.pairwise_map]
 have h : (List.range n).Pairwise (· < ·) := List.pairwise_lt_range
 exact (h.filter P).imp fun h => by omega
theorem ownL_ok {n : Nat} (next : List Int) (x : Int) (h : next.length ≤ n) : OkR n (ownL next x) := ⟨fun y hy => by
 obtain ⟨k, hk, rfl⟩ := mem_castL hy
 simp only [List.mem_filter, List.mem_range] at hk
 omega, castL_ris _ _⟩
theorem c102 (F : PV) (p : List Int) (hF : SlOf 1 encI F p) (hN : p.length < 1000) (hb : ∀ x ∈ p, inI (x + 1)) (st : St) : Cl EE (.func 102 [] []) [F] st (.ret (iv (layersL p))) st := by
 have hs := hF.slen
 refine cl_fn (pr102 · _ _) fn102 1 rfl (by decide) (fun tm hl hg => ?_); have h0 : tg tm 0 = F := (hg 0 (by decide)); clear hg
 refine go (bw3 hl h0 hs) fnil ?_
 refine wp_range p.length [3] (fun i vs st' => vs = [iv (layersL (p.take i))] ∧ st' = { heap := st.heap, lo := st.heap.length }) (by omega) (by simp only [go_sem, hl]) (by simp only [go_sem, hl]) (by simp only [go_sem, hl]) (by decide) ⟨by simp only [go_sem, hl]; rfl, rfl⟩ ?_ ?_
 ·rintro i hi tm1 st1 ⟨hv, rfl⟩ hS hia
  simp only [List.map_cons, List.map_nil, List.cons.injEq, and_true] at hv
  have hl1 : tm1.length = 18 := (by rw [hS.1]; simp only [put_len, hl]); have i6 : tg tm1 6 = F := (by rw [hS.2 6 (by decide)]; simp only [go_sem, hl, h0]); clear hS
  have hw : IntKind.wrap .i64 (p[i] + 1) = p[i] + 1 := wrap_in (hb _ (List.getElem_mem hi))
  refine go (bw6 hl1 i6 hia hv hw @mm2) fnil ?_
  rw [layersL_take hi]
  refine ⟨?_, rfl⟩
  simp only [go_sem, hl1]
 ·rintro tm1 st1 ⟨hv, rfl⟩ hS
  simp only [List.map_cons, List.map_nil, List.cons.injEq, and_true, List.take_length] at hv
  have hl1 : tm1.length = 18 := (by rw [hS.1]; simp only [put_len, hl]); clear hS
  refine go (bw hl1 hv) fnil ?_
  refine fnq_flat (results_one (by rw [rdRes_tmp]; simp only [go_sem, hl1]; first | done | rfl)) (by first | exact Nat.le_refl _ | omega | (simp only [lo_push, lo_setVar]; omega)) (by rfl)
def LeftM (c : CL) (mm : Nat) (W : Nat → Prop) (e w : Nat) (I : Nat → List HObj → Prop) (S : List HObj → Prop) (i n : Nat) (st : St) (r : Bool) (st' : St) : Prop :=
 (r = true → I (i + n) st'.heap) ∧ (r = false → S st'.heap) ∧ KeepV (fun l => W l ∨ l = mm) st.heap st'.heap ∧ e ≤ st'.lo ∧ st'.lo ≤ st'.heap.length ∧ (∃ es, hp st' mm = some (.map es) ∧ MapOk c es) ∧ ((n = 0 ∧ r = true ∧ st' = st) ∨ st'.lo ≤ w)
theorem leftM_fin {c : CL} {mm : Nat} {W : Nat → Prop} {e w : Nat} {I : Nat → List HObj → Prop} {S : List HObj → Prop} {i n : Nat} {st st1 : St} {r : Bool} (h0 : I i st.heap) (he : e ≤ st.lo) (hwf : st.lo ≤ st.heap.length) (hw : w < st.heap.length) (hk : KeepV (fun l => W l ∨ l = mm) st.heap st1.heap) (he1 : e ≤ st1.lo) (hm0 : ∃ es, hp st mm = some (.map es) ∧ MapOk c es) (hm1 : ∃ es, hp st1 mm = some (.map es) ∧ MapOk c es)
  (h : (st.heap.length ≤ st1.lo ∧ n = 0 ∧ r = true) ∨ (st1.lo ≤ w ∧ (r = true → I (i + n) st1.heap) ∧ (r = false → S st1.heap))) :
  ∃ r', (finishCall st st1 (.bool r)).1 = .bool r' ∧ LeftM c mm W e w I S i n st r' (finishCall st st1 (.bool r)).2 := by
 rcases h with ⟨h1, rfl, rfl⟩ | ⟨h1, h2, h3⟩
 ·rw [finish_flat h1 rfl]
  exact ⟨true, rfl, (fun _ => h0), (fun h => by cases h), .refl _ _, he, hwf, hm0, .inl ⟨rfl, rfl, rfl⟩⟩
 ·unfold finishCall
  rw [if_neg (by omega)]
  exact ⟨r, rfl, h2, h3, hk, by show e ≤ min st.lo st1.lo; omega, by show min st.lo st1.lo ≤ st1.heap.length; have := hk.1; omega, hm1, .inr (by show min st.lo st1.lo ≤ w; omega)⟩
section
variable {c : CL} {F y : PV} {b mm mY mS e w : Nat} {X : List (List Int)} {W : Nat → Prop} {I : Nat → List HObj → Prop} {S : List HObj → Prop}
set_option maxHeartbeats 8000000 in
theorem c135 (hF : SlOf 3 encF F c.figs) (hc : OkL c) (Y : Yld EE y X RepI W e w I S) (hIM : ∀ i h es es', I i h → h[mm]? = some (.map es) → I i (h.set mm (.map es'))) (hWm : ¬ W mm) (hem : e ≤ mm) (hmw : mm ≤ w) (hWb : ¬ W b) (hWy : ¬ W mY) (hWs : ¬ W mS) (hWw : ∀ l, W l → l ≤ w) :
  ∀ (k : Nat) (now : List Int) (many : Nat) (v : PV) (st : St) (i : Nat), SlOf 1 encI v now → now.length + k = c.figs.length → many ≤ now.length → chestL c k now many <+: X.drop i → I i st.heap → e ≤ st.lo → st.lo ≤ st.heap.length → w < st.heap.length →
   hp st b = some (.var [iv c.room, iv c.depth, F, .map mm]) → hp st mY = some (.var [y]) → hp st mS = some (.var [.func 135 [] [.ptr b 0, .ptr mY 0, .ptr mS 0]]) → (∃ es, hp st mm = some (.map es) ∧ MapOk c es) →
   ClR EE (.func 135 [] [.ptr b 0, .ptr mY 0, .ptr mS 0]) [v, iv many] st (fun u st' => ∃ r, u = .bool r ∧ LeftM c mm W e w I S i (chestL c k now many).length st r st')
 | 0, now, many, v, st, i, hv, hlen, hmany, hX, hI, helo, hwf, hw, hb, hy, hs, hm => by
  have hFs := hF.slen
  have hvs := hv.slen
  have lb := hp_lt hb
  have ly := hp_lt hy
  have hb' : hp { heap := st.heap, lo := st.heap.length } b = some (.var [iv c.room, iv c.depth, F, .map mm]) := hb
  have hy' : hp { heap := st.heap, lo := st.heap.length } mY = some (.var [y]) := hy
  have hbe : ((now.length : Int) == (c.figs.length : Int)) = true := by simp; omega
  refine clr_fn (pr135 · _ _) fn135 5 rfl (by decide) (fun tm hl hg => ?_); have h0 : tg tm 0 = v := (hg 0 (by decide)); have h1 : tg tm 1 = iv many := (hg 1 (by decide)); have h2 : tg tm 2 = .ptr b 0 := (hg 2 (by decide)); have h3 : tg tm 3 = .ptr mY 0 := (hg 3 (by decide)); have h4 : tg tm 4 = .ptr mS 0 := (hg 4 (by decide)); clear hg
  obtain ⟨t, ht⟩ := hX
  have hi : i < X.length := by
   rcases Nat.lt_or_ge i X.length with h | h
   ·exact h
   ·rw [List.drop_eq_nil_of_le h] at ht; cases ht
  have hXi : X[i] = now := by
   rw [List.drop_eq_getElem_cons hi] at ht
   simp only [chestL, List.singleton_append, List.cons.injEq] at ht
   exact ht.1.symm
  obtain ⟨r, st', hcl, hk, he', hw', hT, hS'⟩ := Y.step i hi v { heap := st.heap, lo := st.heap.length } (by rw [hXi]; exact hv) hI (by show e ≤ st.heap.length; omega) (Nat.le_refl _) hw
  refine go (bw19 hl h0 h1 h2 h3 h4 hb' hy' hFs hvs (neL lb) (neA lb) (ltL lb) (ltA lb) (neL ly) (neA ly) (ltL ly) (ltA ly) hbe) (bw hcl fnil) ?_
  refine fnr_ret (v := .bool r) (results_one (by rw [rdRes_tmp]; simp only [go_sem, hl])) ?_
  have hm' : ∃ es, hp st' mm = some (.map es) ∧ MapOk c es := by
   obtain ⟨es, h1, h2⟩ := hm
   exact ⟨es, hk.2 mm _ h1 rfl hWm, h2⟩
  exact leftM_fin hI helo hwf hw (hk.mono fun l h => .inl h) he' hm hm' (.inr ⟨hw', hT, hS'⟩)
 | k + 1, now, many, v, st, i, hv, hlen, hmany, hX, hI, helo, hwf, hw, hb, hy, hs, hm => by
  have hFs := hF.slen
  have hvs := hv.slen
  have hlen6 := hc.len
  have lb := hp_lt hb
  have ls := hp_lt hs
  have hb' : hp { heap := st.heap, lo := st.heap.length } b = some (.var [iv c.room, iv c.depth, F, .map mm]) := hb
  have hbe : ((now.length : Int) == (c.figs.length : Int)) = false := by simp; omega
  have hwr : IntKind.wrap .i64 ((many : Int) + 1) = ((many + 1 : Nat) : Int) := wrap_in (by unfold inI; omega)
  refine clr_fn (pr135 · _ _) fn135 5 rfl (by decide) (fun tm hl hg => ?_); have h0 : tg tm 0 = v := (hg 0 (by decide)); have h1 : tg tm 1 = iv many := (hg 1 (by decide)); have h2 : tg tm 2 = .ptr b 0 := (hg 2 (by decide)); have h3 : tg tm 3 = .ptr mY 0 := (hg 3 (by decide)); have h4 : tg tm 4 = .ptr mS 0 := (hg 4 (by decide)); clear hg
  refine go (bw15 hl h0 h1 h2 h3 h4 hb' hFs hvs (neL lb) (neA lb) (ltL lb) (ltA lb) hbe hwr) fnil ?_
  let g : Nat → List (List Int) := fun n => if canB c (ownL (now ++ [(n : Int)]) n) then chestL c k (now ++ [(n : Int)]) (max many (n + 1)) else []
  have hsg : chestL c (k + 1) now many = (List.range (many + 1)).flatMap g := rfl
  refine wp_range (many + 1) [] (fun n vs st1 => I (i + ((List.range n).flatMap g).length) st1.heap ∧ KeepV (fun l => W l ∨ l = mm) st.heap st1.heap ∧ e ≤ st1.lo ∧ st1.lo ≤ st1.heap.length ∧ (∃ es, hp st1 mm = some (.map es) ∧ MapOk c es) ∧ ((st.heap.length ≤ st1.lo ∧ ((List.range n).flatMap g).length = 0) ∨ st1.lo ≤ w)) (by omega) (by simp only [go_sem, hl]) (by simp only [go_sem, hl]) (by simp only [go_sem, hl]) (by decide) ⟨hI, .refl _ _, by show e ≤ st.heap.length; omega, Nat.le_refl _, hm, .inl ⟨Nat.le_refl _, rfl⟩⟩ ?_ ?_
  ·rintro n hn tm1 st1 ⟨hI1, hk1, he1, hwf1, ⟨es1, hm1, hmo1⟩, hlo1⟩ hS hia
   have hl1 : tm1.length = 62 := (by rw [hS.1]; simp only [put_len, hl]); have i0 : tg tm1 0 = v := (by rw [hS.2 0 (by decide)]; simp only [go_sem, hl, h0, h1, h2, h4]); have i1 : tg tm1 1 = iv many := (by rw [hS.2 1 (by decide)]; simp only [go_sem, hl, h0, h1, h2, h4]); have i2 : tg tm1 2 = .ptr b 0 := (by rw [hS.2 2 (by decide)]; simp only [go_sem, hl, h0, h1, h2, h4]); have i4 : tg tm1 4 = .ptr mS 0 := (by rw [hS.2 4 (by decide)]; simp only [go_sem, hl, h0, h1, h2, h4]); clear hS
   have hWb' : ¬ (W b ∨ b = mm) := by rintro (h | rfl); exact hWb h; obtain ⟨es, h1, _⟩ := hm; rw [hb] at h1; cases h1
   have hWy' : ¬ (W mY ∨ mY = mm) := by rintro (h | rfl); exact hWy h; obtain ⟨es, h1, _⟩ := hm; rw [hy] at h1; cases h1
   have hWs' : ¬ (W mS ∨ mS = mm) := by rintro (h | rfl); exact hWs h; obtain ⟨es, h1, _⟩ := hm; rw [hs] at h1; cases h1
   refine go (bw3 hl1 i0 hia) fnil ?_
   refine wops_callR rfl rfl (by simp only [go_sem, hl1, i0]; first | done | rfl) (by simp only [go_sem, hl1, i0]; exact c109 v now hv (by omega) _) ?_
   intro v1 st2 hR
   have hlen2 := hR.len
   have hlo2 := hR.lo
   refine go (bw hl1 hia) fnil ?_
   refine wops_append rfl rfl (by simp only [go_sem, hl1]; first | done | rfl) (by simp only [go_sem, hl1]; first | done | rfl) ((hR.own (Nat.le_refl _)).push) rfl (by first | omega | (simp only [len_push, len_setVar]; omega)) (by rfl) (by rfl) (by simp only [maxList]; omega) ?_
   intro v' st3 hO' hFr hk3
   have hv' : SlOf 1 encI v' (now ++ [(n : Int)]) := SlOf.of_sl hO'.sl (by simp) (by simp [encI_map, share_int]) (fun _ => rfl)
   have hv's := hv'.slen
   have hFr3 : Fr st1.heap.length st1 st3 := (hR.fr.push (by omega)).trans (hFr.mono (Nat.le_refl _))
   have hup3 := hFr3.up
   have hln3 := hFr3.len
   have hlo3 := hFr3.lo
   have hwf3 : st3.lo ≤ st3.heap.length := by omega
   have hx3 := hFr3.hext
   generalize hnx : now ++ [(n : Int)] = next at hv' hv's
   have hnl : next.length = now.length + 1 := by rw [← hnx]; simp
   refine go (bw hl1 hv's) fnil ?_
   refine wp_range next.length [10] (fun j vs st' => ∃ u, vs = [u] ∧ OwnS st1.heap.length st' 1 u (castL ((List.range j).filter fun i => next.getD i 0 == (n : Int))).length ((castL ((List.range j).filter fun i => next.getD i 0 == (n : Int))).flatMap encI) ∧ Fr st1.heap.length st1 st') (by omega) (by simp only [go_sem, hl1]) (by simp only [go_sem, hl1]) (by simp only [go_sem, hl1]) (by decide) ⟨_, by simp only [go_sem, hl1], .nil, hFr3⟩ ?_ ?_
   ·rintro j hj tm4 st4 ⟨u, hu, hO4, hF4⟩ hS hja
    simp only [List.map_cons, List.map_nil, List.cons.injEq, and_true] at hu
    have hl4 : tm4.length = 62 := (by rw [hS.1]; simp only [put_len, hl1]); have t8 : tg tm4 8 = iv n := (by rw [hS.2 8 (by decide)]; simp only [go_sem, hl1, hia]); have t33 : tg tm4 33 = v' := (by rw [hS.2 33 (by decide)]; simp only [go_sem, hl1, hia]); clear hS
    have q1 := hF4.len
    have q2 := hF4.lo
    have hll := castL_len (fun i => next.getD i 0 == (n : Int)) j
    have hget : (next.getD j 0 == (n : Int)) = (next[j] == (n : Int)) := by rw [List.getD_eq_getElem?_getD, List.getElem?_eq_getElem hj]; rfl
    rw [castL_succ, hget]
    cases hx : (next[j] == (n : Int))
    ·refine go (bw6 hl4 t8 t33 hja hu hx) fnil ?_
     exact ⟨u, by simp only [go_sem, hl4, hu], by simpa using hO4, hF4⟩
    ·refine go (bw6 hl4 t8 t33 hja hu hx) fnil ?_
     refine wops_append rfl rfl (by simp only [go_sem, hl4, hu]; first | done | rfl) (by simp only [go_sem, hl4, hu]; first | done | rfl) (hO4.push) rfl (by first | omega | (simp only [len_push, len_setVar]; omega)) (by rfl) (by rfl) (by simp only [maxList]; omega) ?_
     intro u' st5 hO5 hFr5 hk5
     refine go hl4 fnil ?_
     exact ⟨u', by simp only [go_sem, hl4], by simpa [share_int] using hO5, (hF4.push (by omega)).trans hFr5⟩
   ·rintro tm4 st4 ⟨u, hu, hO4, hF4⟩ hS
    simp only [List.map_cons, List.map_nil, List.cons.injEq, and_true] at hu
    have hl4 : tm4.length = 62 := (by rw [hS.1]; simp only [put_len, hl1]); have t1 : tg tm4 1 = iv many := (by rw [hS.2 1 (by decide)]; simp only [go_sem, hl1, i1, i2, i4, hia]); have t2 : tg tm4 2 = .ptr b 0 := (by rw [hS.2 2 (by decide)]; simp only [go_sem, hl1, i1, i2, i4, hia]); have t4 : tg tm4 4 = .ptr mS 0 := (by rw [hS.2 4 (by decide)]; simp only [go_sem, hl1, i1, i2, i4, hia]); have t8 : tg tm4 8 = iv n := (by rw [hS.2 8 (by decide)]; simp only [go_sem, hl1, i1, i2, i4, hia]); have t9 : tg tm4 9 = v' := (by rw [hS.2 9 (by decide)]; simp only [go_sem, hl1, i1, i2, i4, hia]); clear hS
    have q1 := hF4.len
    have q2 := hF4.lo
    have q3 := hF4.up
    have hx4 := hF4.hext
    have hb4 : hp st4 b = some (.var [iv c.room, iv c.depth, F, .map mm]) := hx4.hp (hk1.hp hb hWb')
    have hs4 : hp st4 mS = some (.var [.func 135 [] [.ptr b 0, .ptr mY 0, .ptr mS 0]]) := hx4.hp (hk1.hp hs hWs')
    have hm4 : hp st4 mm = some (.map es1) := hx4.hp hm1
    have m4b := hp_lt hb4
    have m4s := hp_lt hs4
    have m4m := hp_lt hm4
    have hU : SlOf 1 encI u (ownL next n) := SlOf.of_sl hO4.sl rfl rfl (fun _ => rfl)
    have hok := ownL_ok next (n : Int) (show next.length ≤ c.figs.length by omega)
    have hol : (ownL next n).length ≤ c.figs.length := by have : (ownL next n).length ≤ next.length := castL_len _ _; omega
    have hk1l := hk1.1
    have hcan := c108 c F u (ownL next n) mm es1 hF hc hU hok hol st4 (by omega) hm4 hmo1
    have hcnt := flatMap_range_succ g n
    refine go (bw8 hl4 t2 hb4 hu (neL m4b) (neA m4b) (ltL m4b) (ltA m4b)) fnil ?_
    refine wops_callR rfl rfl (by simp only [go_sem, hl4, hu]; first | done | rfl) (by simp only [go_sem, hl4, hu]; exact hcan) ?_
    rintro z st5 ⟨rfl, es5, hm5, hmo5, hx5, hlo5, hup5, hor5⟩
    have hI5 : I (i + ((List.range n).flatMap g).length) st5.heap := Y.stab _ _ _ (hIM _ _ es1 es5 (Y.stab _ _ _ hI1 hx4) hm4) hx5
    have hkM : KeepV (fun l => W l ∨ l = mm) st4.heap st5.heap := by
     refine ⟨by have := hx5.1; rw [List.length_set] at this; exact this, fun l o ho hko hn => ?_⟩
     refine hx5.var ?_
     rw [List.getElem?_set_ne (fun h => hn (.inr h.symm))]; exact ho
    have hk5 := (hk1.trans (hx4.keep _)).trans hkM
    have hl5 : st4.heap.length ≤ st5.heap.length := hkM.1
    cases hcb : canB c (ownL next n)
    ·have hgn : g n = [] := by simp only [g, hnx, hcb, Bool.false_eq_true, if_false]
     rw [hgn, List.length_nil, Nat.add_zero] at hcnt
     refine go (bw hl4 hcb) fnil ?_
     rw [hcnt]
     refine ⟨hI5, hk5, by omega, by omega, ⟨es5, hm5, hmo5⟩, ?_⟩
     rcases hor5 with rfl | h5
     ·rcases hlo1 with ⟨h3, h4⟩ | h3
      ·exact .inl ⟨by omega, h4⟩
      ·exact .inr (by omega)
     ·exact .inr (by omega)
    ·have hgn : g n = chestL c k next (max many (n + 1)) := by simp only [g, hnx, hcb, if_true]
     have hXn : chestL c k next (max many (n + 1)) <+: X.drop (i + ((List.range n).flatMap g).length) := by
      obtain ⟨r, hr⟩ := flatMap_range_split g hn
      rw [hsg, hr] at hX
      rw [← hgn, ← List.drop_drop]
      exact prefix_drop hX
     have hb5 := hk5.hp hb hWb'
     have hy5 := hk5.hp hy hWy'
     have hs5 := hk5.hp hs hWs'
     have m5s := hp_lt hs5
     have hw1 : IntKind.wrap .i64 ((n : Int) + 1) = ((n + 1 : Nat) : Int) := wrap_in (by unfold inI; omega)
     have hmx : max (many : Int) ((n + 1 : Nat) : Int) = ((max many (n + 1) : Nat) : Int) := by omega
     have hrec := c135 hF hc Y hIM hWm hem hmw hWb hWy hWs hWw k next (max many (n + 1)) v' st5 (i + ((List.range n).flatMap g).length) hv' (by omega) (by omega) hXn hI5 (by omega) (by omega) (by omega) hb5 hy5 hs5 ⟨es5, hm5, hmo5⟩
     refine go (bw14 hl4 t1 t4 t8 t9 hcb hs5 (neL m5s) (neA m5s) (ltL m5s) (ltA m5s) hw1 @mm2 hmx) fnil ?_
     refine wops_callR (by simp only [go_sem, hl4, hcb]; first | done | rfl) (by with_reducible rfl) (by simp only [go_sem, hl4, hcb]; first | done | rfl) (by simp only [go_sem, hl4, hcb]; exact hrec) ?_
     rintro z st6 ⟨r, rfl, hT, hS', hk6, he6, hwf6, hm6, hlo6⟩
     rw [hgn] at hcnt
     cases r
     ·refine go (bw hl4 hcb) fnil ?_
      refine fnr_ret (v := .bool false) (results_one (by rw [rdRes_tmp]; simp only [go_sem, hl4])) ?_
      refine leftM_fin hI helo hwf hw (hk5.trans hk6) he6 hm hm6 (.inr ⟨?_, (fun h => by cases h), hS'⟩)
      rcases hlo6 with ⟨_, h2, _⟩ | h2
      ·cases h2
      ·exact h2
     ·refine go (bw hl4 hcb) fnil ?_
      refine ⟨by rw [hcnt, ← Nat.add_assoc]; exact hT rfl, hk5.trans hk6, he6, hwf6, hm6, ?_⟩
      rcases hlo6 with ⟨h1, _, rfl⟩ | h2
      ·rcases hor5 with rfl | h5
       ·rcases hlo1 with ⟨h3, h4⟩ | h3
        ·exact .inl ⟨by omega, by omega⟩
        ·exact .inr (by omega)
       ·exact .inr (by omega)
      ·exact .inr h2
  ·rintro tm1 st1 ⟨hI1, hk1, he1, hwf1, hm1, hlo1⟩ hS
   have hl1 : tm1.length = 62 := (by rw [hS.1]; simp only [put_len, hl]); clear hS
   refine go hl1 fnil ?_
   rw [hsg]
   refine fnr_ret (v := .bool true) (results_one (by rw [rdRes_tmp]; simp only [go_sem, hl1])) ?_
   refine leftM_fin hI helo hwf hw hk1 he1 hm hm1 ?_
   rcases hlo1 with ⟨h1, h2⟩ | h1
   ·exact .inl ⟨h1, h2, rfl⟩
   ·exact .inr ⟨h1, fun _ => hI1, fun h => by cases h⟩
end
end Go.Den.Ch
end

/- Part of the proofs of laws of the package chest: the interpreter Den, its soundness, and contracts of the program's functions over it. Texts: ChO. -/
import Derived.Test.YtoeigapilcgelaaGreatDoorK2Bd
set_option linter.unusedSimpArgs false
set_option linter.unusedVariables false
section
namespace Go.Den.Ch
def needsT (c : CL) (p : List Int) (n : Nat) : Int := (List.range n).foldl (fun m (k : Nat) => max m (layerL c.figs p k).sum) 0
def needsL (c : CL) (p : List Int) : Int := needsT c p c.depth.toNat
theorem needsT_succ (c : CL) (p : List Int) (n : Nat) : needsT c p (n + 1) = max (needsT c p n) (layerL c.figs p (n : Nat)).sum := by
 rw [needsT, List.range_succ, List.foldl_append]; rfl
def sizesL (c : CL) : List Int := c.figs.map (·.size)
def wideL (c : CL) : CL := { c with room := (sizesL c).sum }
def roomT (c : CL) (X : List (List Int)) : Int := X.foldl (fun o p => min o (needsL c p)) (sizesL c).sum
theorem roomT_take (c : CL) (X : List (List Int)) {i : Nat} (h : i < X.length) : roomT c (X.take (i + 1)) = min (roomT c (X.take i)) (needsL c X[i]) := by
 rw [List.take_succ_eq_append_getElem h, roomT, List.foldl_append]; rfl
def roomR (c : CL) : Int × Int := if listB c then (roomT c (rightsL (wideL c)), 0) else (0, 2)
set_option maxHeartbeats 8000000 in
theorem c63 (c : CL) (F : PV) (hF : SlOf 3 encF F c.figs) (st : St) : Cl EE (.func 63 [] []) [clPV c F] st (.ret (.tuple [iv (roomR c).1, iv (roomR c).2])) st := by
 have hFc := hF.cells
 have hFi := hF.isCell
 have hFs := hF.slen
 refine cl_fn (pr63 · _ _) fn63 1 rfl (by decide) (fun tm hl hg => ?_); have h0 : tg tm 0 = clPV c F := (hg 0 (by decide)); clear hg
 cases hA : listB c
 ·have e : roomR c = (0, 2) := by simp [roomR, hA]
  rw [e]
  refine go (bw3 hl h0 hA) (bw (c77 c F hF) fnil) ?_
  exact fnq_tuple (by simp only [results, rdResL, rdRes_tmp]; simp only [go_sem, hl]) (by simp only [lo_push]; omega) (by rfl)
 ·have hc := OkL.of hA
  have hlen := hc.len
  have e : roomR c = (roomT c (rightsL (wideL c)), 0) := by simp [roomR, hA]
  rw [e]
  obtain ⟨d, hd⟩ : ∃ d : Nat, c.depth = d := ⟨c.depth.toNat, by have := hc.d0; omega⟩
  have hd5 : d ≤ 5 := by have := hc.d1; omega
  have hcw : OkL (wideL c) := ⟨hc.len, hc.figs, hc.d0, hc.d1⟩
  have hFw : SlOf 3 encF F (wideL c).figs := hF
  refine go (bw4 hl h0 hA hFs) (bw (c77 c F hF) fnil) ?_
  refine wp_range c.figs.length [4] (fun i vs st' => ∃ v, vs = [v] ∧ OwnS st.heap.length st' 1 v ((sizesL c).take i).length (((sizesL c).take i).flatMap encI) ∧ st.heap.length ≤ st'.lo ∧ st'.lo ≤ st'.heap.length ∧ hp st' st.heap.length = some (.var [iv c.room, iv c.depth, F])) (by omega) (by simp only [go_sem, hl]) (by simp only [go_sem, hl]) (by simp only [go_sem, hl]) (by decide) ⟨_, by simp only [go_sem, hl], .nil, by simp [lo_push], by simp only [lo_push, len_push]; omega, by simp only [go_sem]⟩ ?_ ?_
  ·rintro i hi tm1 st1 ⟨v, hv, hO, hlo, hwf, hb⟩ hS hia
   simp only [List.map_cons, List.map_nil, List.cons.injEq, and_true] at hv
   have hl1 : tm1.length = 51 := (by rw [hS.1]; simp only [put_len, hl]); have i15 : tg tm1 15 = F := (by rw [hS.2 15 (by decide)]; simp only [go_sem, hl, h0]); clear hS
   have lb := hp_lt hb
   have hsz : i < (sizesL c).length := by simp [sizesL, hi]
   have hsi : (sizesL c)[i] = c.figs[i].size := by simp [sizesL]
   have hln : ((sizesL c).take i).length ≤ i := by simp; omega
   refine go (bw9 hl1 i15 hia hv hb (neL lb) (neA lb) (ltL lb) (ltA lb)) fnil ?_
   refine wops_append rfl rfl (by simp only [go_sem, hl1, hv]; first | done | rfl) (by simp only [go_sem, hl1, hv]; first | done | rfl) ((hO.push.setVar (by simp [hp_push])).push) rfl (by first | omega | (simp only [len_push, len_setVar]; omega)) (by rfl) (by rfl) (by simp only [maxList]; omega) ?_
   intro v' st2 hO' hFr hk
   have f1 := hFr.lo
   have f2 := hFr.up
   have f3 := hFr.len
   simp only [lo_push, lo_setVar, len_push, len_setVar] at f1 f2 f3
   refine go hl1 fnil ?_
   refine ⟨v', by simp only [go_sem, hl1], ?_, by omega, by omega, hk _ _ (by simp only [go_sem, hb, neL lb, neA lb, ltL lb, ltA lb]) (by simp)⟩
   rw [List.take_succ_eq_append_getElem hsz, hsi]
   simpa [share_int, wideL] using hO'
  ·rintro tm1 st1 ⟨v, hv, hO, hlo, hwf, hb⟩ hS
   simp only [List.map_cons, List.map_nil, List.cons.injEq, and_true] at hv
   have hsl0 : (sizesL c).length = c.figs.length := by simp [sizesL]
   rw [← hsl0, List.take_length] at hO
   have hl1 : tm1.length = 51 := (by rw [hS.1]; simp only [put_len, hl]); have i1 : tg tm1 1 = .ptr st.heap.length 0 := (by rw [hS.2 1 (by decide)]; simp only [go_sem, hl, h0]); clear hS
   have lb := hp_lt hb
   have hV : SlOf 1 encI v (sizesL c) := SlOf.of_sl hO.sl rfl rfl (fun _ => rfl)
   have hsr : ∀ x ∈ sizesL c, 0 ≤ x ∧ x ≤ 1000 := fun x hx => by
    simp only [sizesL, List.mem_map] at hx
    obtain ⟨f, hf, rfl⟩ := hx
    have := hc.size hf; omega
   have hcl : ∀ st, Cl EE (.func 82 [] []) [.agg [iv (sizesL c).sum, iv c.depth, F]] st (.ret (.func 129 [] [.ptr st.heap.length 0])) (st.push (.var [iv (sizesL c).sum, iv c.depth, F])) := fun st => c82 (wideL c) F st
   refine go (bw10 hl1 i1 hv hb hFc hFi (neL lb) (neA lb) (ltL lb) (ltA lb)) (bw3 (c110 v (sizesL c) hV (by omega) (sum_inI (by omega) hsr)) hcl fnil) ?_
   apply wp_block
   refine wp_gen (fun tm2 s1 => tm2.length = 51 ∧ tg tm2 1 = .ptr st.heap.length 0 ∧ tg tm2 7 = .ptr st1.heap.length 0 ∧ tg tm2 33 = .func 129 [] [.ptr (st1.heap.length + 1) 0] ∧ s1.heap.length = st1.heap.length + 2 ∧ st.heap.length ≤ s1.lo ∧ s1.lo ≤ s1.heap.length ∧ hp s1 st.heap.length = some (.var [iv (sizesL c).sum, iv c.depth, F]) ∧ hp s1 st1.heap.length = some (.var [iv (sizesL c).sum]) ∧ hp s1 (st1.heap.length + 1) = some (.var [iv (sizesL c).sum, iv c.depth, F]))
    ⟨by simp only [go_sem, hl1], by simp only [go_sem, hl1, i1], by simp only [go_sem, hl1], by simp only [go_sem, hl1], by simp only [go_sem], by simp only [lo_push, lo_setVar]; omega, by simp only [lo_push, lo_setVar, len_push, len_setVar]; omega, by simp only [go_sem, neL lb, neA lb, ltL lb, ltA lb], by simp only [go_sem], by simp only [go_sem]⟩ ?_
   rintro tm2 s1 ⟨hl2, q1, q7, q33, hsl, hlo2, hwf2, z0, z1, z2⟩
   refine wp_rangeF (X := rightsL (wideL c)) (Rep := RepP (wideL c) F) (priv := fun l => l = st1.heap.length + 1) (fun l => l = st1.heap.length) st.heap.length
    (fun i h => h[st.heap.length]? = some (.var [iv (sizesL c).sum, iv c.depth, F]) ∧ h[st1.heap.length]? = some (.var [iv (roomT c ((rightsL (wideL c)).take i))])) (fun _ _ => False) (by simp only [go_sem, q33]) (iter129 hFw hcw ((HExt.push _ _).hp z2)) (fun l hl => by omega) (fun l hl => by omega) hlo2 hwf2
    (fun i h h' ⟨a0, a1⟩ hx => ⟨hx.var a0, hx.var a1⟩) (fun _ _ _ h _ => h) (fun i h s p s' p' ⟨a0, a1⟩ hL => ⟨set_var a0 hL, set_var a1 hL⟩) (fun _ _ _ _ _ _ h _ => h) ⟨z0, z1⟩ ?_ ?_ (fun _ _ h => h.elim)
   ·rintro i hi u st2 ⟨P, rfl, hP⟩ ⟨a0, a1⟩ he1 hwf1 hL
    refine ⟨_, setParams_one, ?_⟩
    have lL := hp_lt hL
    have hPc := hP.cells
    have hPi := hP.isCell
    have hpp := (rightsL_mem (List.getElem_mem hi)).1
    have hpl := hpp.len
    have a0' : hp st2 st.heap.length = _ := a0
    have a1' : hp st2 st1.heap.length = _ := a1
    have m0 := hp_lt a0'
    have m1 := hp_lt a1'
    refine go (bw3 hl2 hFi hPi) fnil ?_
    have hx1 : HExt st2.heap (setVar (st2.push (.var [iv 0, iv 0, .nilslice, .nilslice])) st2.heap.length (.var [iv (wideL c).room, iv (wideL c).depth, F, P])).heap := (((Fr.refl st2.heap.length st2).push (Nat.le_refl _)).setVar (Nat.le_refl _)).hext
    refine ⟨rfl, hx1, by simp only [lo_push, lo_setVar]; omega, by simp only [lo_push, lo_setVar, len_push, len_setVar]; omega, ?_⟩
    refine wp_gen (fun tm3 s2 => tm3.length = 51 ∧ tg tm3 1 = .ptr st.heap.length 0 ∧ tg tm3 7 = .ptr st1.heap.length 0 ∧ tg tm3 8 = .ptr st2.heap.length 0 ∧ s2.heap.length = st2.heap.length + 1 ∧ st.heap.length ≤ s2.lo ∧ s2.lo ≤ s2.heap.length ∧ hp s2 st.heap.length = some (.var [iv (sizesL c).sum, iv c.depth, F]) ∧ hp s2 st1.heap.length = some (.var [iv (roomT c ((rightsL (wideL c)).take i))]) ∧ hp s2 st2.heap.length = some (.var [iv (wideL c).room, iv (wideL c).depth, F, P]) ∧ hp s2 s1.heap.length = some (.loop tm2 [34] _ _ .busy none) ∧ KeepV (fun l => l = s1.heap.length) (setVar (st2.push (.var [iv 0, iv 0, .nilslice, .nilslice])) st2.heap.length (.var [iv (wideL c).room, iv (wideL c).depth, F, P])).heap s2.heap)
     ⟨by simp only [go_sem, hl2], by simp only [go_sem, hl2, q1], by simp only [go_sem, hl2, q7], by simp only [go_sem, hl2], by simp only [go_sem], by simp only [lo_push, lo_setVar]; omega, by simp only [lo_push, lo_setVar, len_push, len_setVar]; omega, hp_set_other (hx1.hp a0') (by omega), hp_set_other (hx1.hp a1') (by omega), hp_set_other (by simp only [go_sem]) (by omega), by simp only [go_sem, neL lL, neA lL, ltL lL, ltA lL]; rfl, ⟨by simp only [len_push, len_setVar]; omega, fun l o ho _ hn => hp_set_other ho hn⟩⟩ ?_
    rintro tm3 s2 ⟨hl3, p1, p7, p8, hsl2, hlo3, hwf3, b0, b1, b8, bL, hk2⟩
    have n0 := hp_lt b0
    have n1 := hp_lt b1
    have n8 := hp_lt b8
    refine go (bw9 hl3 p1 p7 p8 b0 (neL n0) (neA n0) (ltL n0) (ltA n0)) fnil ?_
    refine wp_range d [9] (fun k vs st' => vs = [iv (needsT c (rightsL (wideL c))[i] k)] ∧ HExt s2.heap st'.heap ∧ st.heap.length ≤ st'.lo ∧ st'.lo ≤ st'.heap.length) (by omega) (by simp only [go_sem, hl3]) (by simp only [go_sem, hl3, hd]) (by simp only [go_sem, hl3]) (by decide) ⟨by simp only [go_sem, hl3]; rfl, .refl _, hlo3, hwf3⟩ ?_ ?_
    ·rintro k hk tm4 st4 ⟨hv4, hx4, hlo4, hwf4⟩ hS hka
     simp only [List.map_cons, List.map_nil, List.cons.injEq, and_true] at hv4
     have hl4 : tm4.length = 51 := (by rw [hS.1]; simp only [put_len, hl3]); have t8 : tg tm4 8 = .ptr st2.heap.length 0 := (by rw [hS.2 8 (by decide)]; simp only [go_sem, hl3, p8]); clear hS
     have b84 := hx4.hp b8
     have n84 := hp_lt b84
     refine go (bw9 hl4 t8 hka hv4 b84 (neL n84) (neA n84) (ltL n84) (ltA n84)) fnil ?_
     have hly := c111 (wideL c) F P (rightsL (wideL c))[i] k hFw hP (by show c.figs.length < 1000; omega) hpl st4
     refine wops_callR rfl rfl (by simp only [go_sem, hl4]; first | done | rfl) (by simp only [go_sem, hl4]; exact hly) ?_
     intro w st5 hR
     have r1 := hR.lo
     have r2 := hR.len
     refine go (bw3 hl4 hv4 @mm2) (bw (c110' hcw _ _ w (slI hR)) fnil) ?_
     rw [needsT_succ]
     exact ⟨by simp only [go_sem, hl4]; rfl, hx4.trans hR.fr.hext, by omega, by omega⟩
    ·rintro tm4 st4 ⟨hv4, hx4, hlo4, hwf4⟩ hS
     simp only [List.map_cons, List.map_nil, List.cons.injEq, and_true] at hv4
     have hl4 : tm4.length = 51 := (by rw [hS.1]; simp only [put_len, hl3]); have t7 : tg tm4 7 = .ptr st1.heap.length 0 := (by rw [hS.2 7 (by decide)]; simp only [go_sem, hl3, p7]); clear hS
     have b14 := hx4.hp b1
     have n14 := hp_lt b14
     refine go (bw9 hl4 t7 hv4 b14 @mm2' (neL n14) (neA n14) (ltL n14) (ltA n14)) fnil ?_
     have b04 := hx4.hp b0
     have bL4 := hx4.hp bL
     refine ⟨hp_set_other bL4 (by omega), ⟨?_, fun l o ho hko hn => ?_⟩, by simp only [lo_setVar]; omega, by simp only [lo_setVar, len_setVar]; omega, hp_set_other b04 (by omega), ?_⟩
     ·have h1 := hk2.1; have h2 := hx4.1; simp only [len_push, len_setVar] at h1 ⊢; omega
     ·have h1 : hp s2 l = some o := hk2.2 l o ho hko (fun h => hn (.inr h))
      exact hp_set_other (hx4.hp h1) (fun h => hn (.inl h))
     ·rw [roomT_take c _ hi]
      have hnd : needsL c (rightsL (wideL c))[i] = needsT c (rightsL (wideL c))[i] d := by rw [needsL, hd]; rfl
      rw [hnd]
      have : hp (setVar st4 st1.heap.length (.var [iv (min (roomT c (List.take i (rightsL (wideL c)))) (needsT c (rightsL (wideL c))[i] d))])) st1.heap.length = some (.var [iv (min (roomT c (List.take i (rightsL (wideL c)))) (needsT c (rightsL (wideL c))[i] d))]) := by simp only [go_sem, neL n14, neA n14, ltL n14, ltA n14]
      exact this
   ·rintro s2 ⟨a0, a1⟩ hk2 he2 hwf2
    rw [List.take_length] at a1
    have a1' : hp s2 st1.heap.length = _ := a1
    have m1 := hp_lt a1'
    apply inBlock_normal
    refine go (bw7 hl2 q7 a1' (neL m1) (neA m1) (ltL m1) (ltA m1)) fnil ?_
    exact fnq_tuple (by simp only [results, rdResL, rdRes_tmp]; simp only [go_sem, hl2]) he2 (by rfl)
end Go.Den.Ch
end

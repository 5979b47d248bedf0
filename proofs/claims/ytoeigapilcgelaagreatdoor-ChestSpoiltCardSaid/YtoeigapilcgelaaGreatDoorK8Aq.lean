/- Part of the proofs of laws of the package chest. Texts: ChR, ChS, ChT, ChU. -/
import Derived.Test.YtoeigapilcgelaaGreatDoorK8Ap
set_option linter.unusedSimpArgs false
set_option linter.unusedVariables false
section
namespace Go.Den.Ch
def ownL (next : List Int) (n : Int) : List Int := castL ((List.range next.length).filter fun i => next.getD i 0 == n)
def chestL (c : CL) : Nat → List Int → Nat → List (List Int)
 | 0,now,_ => [now]
 | k + 1,now,many => (List.range (many + 1)).flatMap fun (n : Nat) => if canB c (ownL (now ++ [(n : Int)]) n) then chestL c k (now ++ [(n : Int)]) (max many (n + 1)) else []
def chestsX (c : CL) : List (List Int) := chestL c c.figs.length [] 0
def RepI (v : PV) (x : List Int) : Prop := SlOf 1 encI v x
theorem castL_ris (P : Nat → Bool) (n : Nat) : (castL ((List.range n).filter P)).Pairwise (· < ·) := by
 rw [castL,List.pairwise_map]
 have h : (List.range n).Pairwise (· < ·) := List.pairwise_lt_range
 exact (h.filter P).imp fun h => by omega
theorem ownL_ok {n : Nat} (next : List Int) (x : Int) (h : next.length ≤ n) : OkR n (ownL next x) := ⟨fun y hy => by
 obtain ⟨k,hk,rfl⟩ := mem_castL hy
 simp only [List.mem_filter,List.mem_range] at hk
 omega,castL_ris _ _⟩
theorem c102 (F : PV) (p : List Int) (hF : SlOf 1 encI F p) (hN : p.length < 1000) (hb : ∀ x ∈ p,inI (x + 1)) (st : St) : Cl EE (.func 102 [] []) [F] st (.ret (iv (layersL p))) st := by
 have hs := hF.slen
 refine cl_fn (pr102 · _ _) fn102 1 rfl (by decide) (fun tm hl hg => ?_);have h0 : tg tm 0 = F := (hg 0 (by decide));clear hg
 refine go (bw3 hl h0 hs) fnil ?_
 refine wp_range p.length [3] (fun i vs st' => vs = [iv (layersL (p.take i))] ∧ st' = { heap := st.heap,lo := st.heap.length }) (by omega) (by simp only [go_sem,hl]) (by simp only [go_sem,hl]) (by simp only [go_sem,hl]) (by decide) ⟨by simp only [go_sem,hl];rfl,rfl⟩ ?_ ?_
 ·rintro i hi tm1 st1 ⟨hv,rfl⟩ hS hia
  simp only [List.map_cons,List.map_nil,List.cons.injEq,and_true] at hv
  have hl1 : tm1.length = 18 := (by rw [hS.1];simp only [put_len,hl]);have i6 : tg tm1 6 = F := (by rw [hS.2 6 (by decide)];simp only [go_sem,hl,h0]);clear hS
  have hw : IntKind.wrap .i64 (p[i] + 1) = p[i] + 1 := wrap_in (hb _ (List.getElem_mem hi))
  refine go (bw6 hl1 i6 hia hv hw @mm2) fnil ?_
  rw [layersL_take hi]
  refine ⟨?_,rfl⟩
  simp only [go_sem,hl1]
 ·rintro tm1 st1 ⟨hv,rfl⟩ hS
  simp only [List.map_cons,List.map_nil,List.cons.injEq,and_true,List.take_length] at hv
  have hl1 : tm1.length = 18 := (by rw [hS.1];simp only [put_len,hl]);clear hS
  refine go (bw hl1 hv) fnil ?_
  refine fnq_flat (results_one (by rw [rdRes_tmp];simp only [go_sem,hl1];first | done | rfl)) (by first | exact Nat.le_refl _ | omega | (simp only [lo_push,lo_setVar];omega)) (by rfl)
def LeftM (c : CL) (mm : Nat) (W : Nat → Prop) (e w : Nat) (I : Nat → List HObj → Prop) (S : List HObj → Prop) (i n : Nat) (st : St) (r : Bool) (st' : St) : Prop :=
 (r = true → I (i + n) st'.heap) ∧ (r = false → S st'.heap) ∧ KeepV (fun l => W l ∨ l = mm) st.heap st'.heap ∧ e ≤ st'.lo ∧ st'.lo ≤ st'.heap.length ∧ (∃ es,hp st' mm = some (.map es) ∧ MapOk c es) ∧ ((n = 0 ∧ r = true ∧ st' = st) ∨ st'.lo ≤ w)
theorem leftM_fin {c : CL} {mm : Nat} {W : Nat → Prop} {e w : Nat} {I : Nat → List HObj → Prop} {S : List HObj → Prop} {i n : Nat} {st st1 : St} {r : Bool} (h0 : I i st.heap) (he : e ≤ st.lo) (hwf : st.lo ≤ st.heap.length) (hw : w < st.heap.length) (hk : KeepV (fun l => W l ∨ l = mm) st.heap st1.heap) (he1 : e ≤ st1.lo) (hm0 : ∃ es,hp st mm = some (.map es) ∧ MapOk c es) (hm1 : ∃ es,hp st1 mm = some (.map es) ∧ MapOk c es)
  (h : (st.heap.length ≤ st1.lo ∧ n = 0 ∧ r = true) ∨ (st1.lo ≤ w ∧ (r = true → I (i + n) st1.heap) ∧ (r = false → S st1.heap))) :
  ∃ r',(finishCall st st1 (.bool r)).1 = .bool r' ∧ LeftM c mm W e w I S i n st r' (finishCall st st1 (.bool r)).2 := by
 rcases h with ⟨h1,rfl,rfl⟩ | ⟨h1,h2,h3⟩
 ·rw [finish_flat h1 rfl]
  exact ⟨true,rfl,(fun _ => h0),(fun h => by cases h),.refl _ _,he,hwf,hm0,.inl ⟨rfl,rfl,rfl⟩⟩
 ·unfold finishCall
  rw [if_neg (by omega)]
  exact ⟨r,rfl,h2,h3,hk,by show e ≤ min st.lo st1.lo;omega,by show min st.lo st1.lo ≤ st1.heap.length;have := hk.1;omega,hm1,.inr (by show min st.lo st1.lo ≤ w;omega)⟩
section
variable {c : CL} {F y : PV} {b mm mY mS e w : Nat} {X : List (List Int)} {W : Nat → Prop} {I : Nat → List HObj → Prop} {S : List HObj → Prop}
set_option maxHeartbeats 8000000 in
theorem c135 (hF : SlOf 3 encF F c.figs) (hc : OkL c) (Y : Yld EE y X RepI W e w I S) (hIM : ∀ i h es es',I i h → h[mm]? = some (.map es) → I i (h.set mm (.map es'))) (hWm : ¬ W mm) (hem : e ≤ mm) (hmw : mm ≤ w) (hWb : ¬ W b) (hWy : ¬ W mY) (hWs : ¬ W mS) (hWw : ∀ l,W l → l ≤ w) :
  ∀ (k : Nat) (now : List Int) (many : Nat) (v : PV) (st : St) (i : Nat),SlOf 1 encI v now → now.length + k = c.figs.length → many ≤ now.length → chestL c k now many <+: X.drop i → I i st.heap → e ≤ st.lo → st.lo ≤ st.heap.length → w < st.heap.length →
   hp st b = some (.var [iv c.room,iv c.depth,F,.map mm]) → hp st mY = some (.var [y]) → hp st mS = some (.var [.func 135 [] [.ptr b 0,.ptr mY 0,.ptr mS 0]]) → (∃ es,hp st mm = some (.map es) ∧ MapOk c es) →
   ClR EE (.func 135 [] [.ptr b 0,.ptr mY 0,.ptr mS 0]) [v,iv many] st (fun u st' => ∃ r,u = .bool r ∧ LeftM c mm W e w I S i (chestL c k now many).length st r st')
 | 0,now,many,v,st,i,hv,hlen,hmany,hX,hI,helo,hwf,hw,hb,hy,hs,hm => by
  have hFs := hF.slen
  have hvs := hv.slen
  have lb := hp_lt hb
  have ly := hp_lt hy
  have hb' : hp { heap := st.heap,lo := st.heap.length } b = some (.var [iv c.room,iv c.depth,F,.map mm]) := hb
  have hy' : hp { heap := st.heap,lo := st.heap.length } mY = some (.var [y]) := hy
  have hbe : ((now.length : Int) == (c.figs.length : Int)) = true := by simp;omega
  refine clr_fn (pr135 · _ _) fn135 5 rfl (by decide) (fun tm hl hg => ?_);have h0 : tg tm 0 = v := (hg 0 (by decide));have h1 : tg tm 1 = iv many := (hg 1 (by decide));have h2 : tg tm 2 = .ptr b 0 := (hg 2 (by decide));have h3 : tg tm 3 = .ptr mY 0 := (hg 3 (by decide));have h4 : tg tm 4 = .ptr mS 0 := (hg 4 (by decide));clear hg
  obtain ⟨t,ht⟩ := hX
  have hi : i < X.length := by
   rcases Nat.lt_or_ge i X.length with h | h
   ·exact h
   ·rw [List.drop_eq_nil_of_le h] at ht;cases ht
  have hXi : X[i] = now := by
   rw [List.drop_eq_getElem_cons hi] at ht
   simp only [chestL,List.singleton_append,List.cons.injEq] at ht
   exact ht.1.symm
  obtain ⟨r,st',hcl,hk,he',hw',hT,hS'⟩ := Y.step i hi v { heap := st.heap,lo := st.heap.length } (by rw [hXi];exact hv) hI (by show e ≤ st.heap.length;omega) (Nat.le_refl _) hw
  refine go (bw19 hl h0 h1 h2 h3 h4 hb' hy' hFs hvs (neL lb) (neA lb) (ltL lb) (ltA lb) (neL ly) (neA ly) (ltL ly) (ltA ly) hbe) (bw hcl fnil) ?_
  refine fnr_ret (v := .bool r) (results_one (by rw [rdRes_tmp];simp only [go_sem,hl])) ?_
  have hm' : ∃ es,hp st' mm = some (.map es) ∧ MapOk c es := by
   obtain ⟨es,h1,h2⟩ := hm
   exact ⟨es,hk.2 mm _ h1 rfl hWm,h2⟩
  exact leftM_fin hI helo hwf hw (hk.mono fun l h => .inl h) he' hm hm' (.inr ⟨hw',hT,hS'⟩)
 | k + 1,now,many,v,st,i,hv,hlen,hmany,hX,hI,helo,hwf,hw,hb,hy,hs,hm => by
  have hFs := hF.slen
  have hvs := hv.slen
  have hlen6 := hc.len
  have lb := hp_lt hb
  have ls := hp_lt hs
  have hb' : hp { heap := st.heap,lo := st.heap.length } b = some (.var [iv c.room,iv c.depth,F,.map mm]) := hb
  have hbe : ((now.length : Int) == (c.figs.length : Int)) = false := by simp;omega
  have hwr : IntKind.wrap .i64 ((many : Int) + 1) = ((many + 1 : Nat) : Int) := wrap_in (by unfold inI;omega)
  refine clr_fn (pr135 · _ _) fn135 5 rfl (by decide) (fun tm hl hg => ?_);have h0 : tg tm 0 = v := (hg 0 (by decide));have h1 : tg tm 1 = iv many := (hg 1 (by decide));have h2 : tg tm 2 = .ptr b 0 := (hg 2 (by decide));have h3 : tg tm 3 = .ptr mY 0 := (hg 3 (by decide));have h4 : tg tm 4 = .ptr mS 0 := (hg 4 (by decide));clear hg
  refine go (bw15 hl h0 h1 h2 h3 h4 hb' hFs hvs (neL lb) (neA lb) (ltL lb) (ltA lb) hbe hwr) fnil ?_
  let g : Nat → List (List Int) := fun n => if canB c (ownL (now ++ [(n : Int)]) n) then chestL c k (now ++ [(n : Int)]) (max many (n + 1)) else []
  have hsg : chestL c (k + 1) now many = (List.range (many + 1)).flatMap g := rfl
  refine wp_range (many + 1) [] (fun n vs st1 => I (i + ((List.range n).flatMap g).length) st1.heap ∧ KeepV (fun l => W l ∨ l = mm) st.heap st1.heap ∧ e ≤ st1.lo ∧ st1.lo ≤ st1.heap.length ∧ (∃ es,hp st1 mm = some (.map es) ∧ MapOk c es) ∧ ((st.heap.length ≤ st1.lo ∧ ((List.range n).flatMap g).length = 0) ∨ st1.lo ≤ w)) (by omega) (by simp only [go_sem,hl]) (by simp only [go_sem,hl]) (by simp only [go_sem,hl]) (by decide) ⟨hI,.refl _ _,by show e ≤ st.heap.length;omega,Nat.le_refl _,hm,.inl ⟨Nat.le_refl _,rfl⟩⟩ ?_ ?_
  ·rintro n hn tm1 st1 ⟨hI1,hk1,he1,hwf1,⟨es1,hm1,hmo1⟩,hlo1⟩ hS hia
   have hl1 : tm1.length = 62 := (by rw [hS.1];simp only [put_len,hl]);have i0 : tg tm1 0 = v := (by rw [hS.2 0 (by decide)];simp only [go_sem,hl,h0,h1,h2,h4]);have i1 : tg tm1 1 = iv many := (by rw [hS.2 1 (by decide)];simp only [go_sem,hl,h0,h1,h2,h4]);have i2 : tg tm1 2 = .ptr b 0 := (by rw [hS.2 2 (by decide)];simp only [go_sem,hl,h0,h1,h2,h4]);have i4 : tg tm1 4 = .ptr mS 0 := (by rw [hS.2 4 (by decide)];simp only [go_sem,hl,h0,h1,h2,h4]);clear hS
   have hWb' : ¬ (W b ∨ b = mm) := by rintro (h | rfl);exact hWb h;obtain ⟨es,h1,_⟩ := hm;rw [hb] at h1;cases h1
   have hWy' : ¬ (W mY ∨ mY = mm) := by rintro (h | rfl);exact hWy h;obtain ⟨es,h1,_⟩ := hm;rw [hy] at h1;cases h1
   have hWs' : ¬ (W mS ∨ mS = mm) := by rintro (h | rfl);exact hWs h;obtain ⟨es,h1,_⟩ := hm;rw [hs] at h1;cases h1
   refine go (bw3 hl1 i0 hia) fnil ?_
   refine wops_callR rfl rfl (by simp only [go_sem,hl1,i0];first | done | rfl) (by simp only [go_sem,hl1,i0];exact c109 v now hv (by omega) _) ?_
   intro v1 st2 hR
   have hlen2 := hR.len
   have hlo2 := hR.lo
   refine go (bw hl1 hia) fnil ?_
   refine wops_append rfl rfl (by simp only [go_sem,hl1];first | done | rfl) (by simp only [go_sem,hl1];first | done | rfl) ((hR.own (Nat.le_refl _)).push) rfl (by first | omega | (simp only [len_push,len_setVar];omega)) (by rfl) (by rfl) (by simp only [maxList];omega) ?_
   intro v' st3 hO' hFr hk3
   have hv' : SlOf 1 encI v' (now ++ [(n : Int)]) := SlOf.of_sl hO'.sl (by simp) (by simp [encI_map,share_int]) (fun _ => rfl)
   have hv's := hv'.slen
   have hFr3 : Fr st1.heap.length st1 st3 := (hR.fr.push (by omega)).trans (hFr.mono (Nat.le_refl _))
   have hup3 := hFr3.up
   have hln3 := hFr3.len
   have hlo3 := hFr3.lo
   have hwf3 : st3.lo ≤ st3.heap.length := by omega
   have hx3 := hFr3.hext
   generalize hnx : now ++ [(n : Int)] = next at hv' hv's
   have hnl : next.length = now.length + 1 := by rw [← hnx];simp
   refine go (bw hl1 hv's) fnil ?_
   refine wp_range next.length [10] (fun j vs st' => ∃ u,vs = [u] ∧ OwnS st1.heap.length st' 1 u (castL ((List.range j).filter fun i => next.getD i 0 == (n : Int))).length ((castL ((List.range j).filter fun i => next.getD i 0 == (n : Int))).flatMap encI) ∧ Fr st1.heap.length st1 st') (by omega) (by simp only [go_sem,hl1]) (by simp only [go_sem,hl1]) (by simp only [go_sem,hl1]) (by decide) ⟨_,by simp only [go_sem,hl1],.nil,hFr3⟩ ?_ ?_
   ·rintro j hj tm4 st4 ⟨u,hu,hO4,hF4⟩ hS hja
    simp only [List.map_cons,List.map_nil,List.cons.injEq,and_true] at hu
    have hl4 : tm4.length = 62 := (by rw [hS.1];simp only [put_len,hl1]);have t8 : tg tm4 8 = iv n := (by rw [hS.2 8 (by decide)];simp only [go_sem,hl1,hia]);have t33 : tg tm4 33 = v' := (by rw [hS.2 33 (by decide)];simp only [go_sem,hl1,hia]);clear hS
    have q1 := hF4.len
    have q2 := hF4.lo
    have hll := castL_len (fun i => next.getD i 0 == (n : Int)) j
    have hget : (next.getD j 0 == (n : Int)) = (next[j] == (n : Int)) := by rw [List.getD_eq_getElem?_getD,List.getElem?_eq_getElem hj];rfl
    rw [castL_succ,hget]
    cases hx : (next[j] == (n : Int))
    ·refine go (bw6 hl4 t8 t33 hja hu hx) fnil ?_
     exact ⟨u,by simp only [go_sem,hl4,hu],by simpa using hO4,hF4⟩
    ·refine go (bw6 hl4 t8 t33 hja hu hx) fnil ?_
     refine wops_append rfl rfl (by simp only [go_sem,hl4,hu];first | done | rfl) (by simp only [go_sem,hl4,hu];first | done | rfl) (hO4.push) rfl (by first | omega | (simp only [len_push,len_setVar];omega)) (by rfl) (by rfl) (by simp only [maxList];omega) ?_
     intro u' st5 hO5 hFr5 hk5
     refine go hl4 fnil ?_
     exact ⟨u',by simp only [go_sem,hl4],by simpa [share_int] using hO5,(hF4.push (by omega)).trans hFr5⟩
   ·rintro tm4 st4 ⟨u,hu,hO4,hF4⟩ hS
    simp only [List.map_cons,List.map_nil,List.cons.injEq,and_true] at hu
    have hl4 : tm4.length = 62 := (by rw [hS.1];simp only [put_len,hl1]);have t1 : tg tm4 1 = iv many := (by rw [hS.2 1 (by decide)];simp only [go_sem,hl1,i1,i2,i4,hia]);have t2 : tg tm4 2 = .ptr b 0 := (by rw [hS.2 2 (by decide)];simp only [go_sem,hl1,i1,i2,i4,hia]);have t4 : tg tm4 4 = .ptr mS 0 := (by rw [hS.2 4 (by decide)];simp only [go_sem,hl1,i1,i2,i4,hia]);have t8 : tg tm4 8 = iv n := (by rw [hS.2 8 (by decide)];simp only [go_sem,hl1,i1,i2,i4,hia]);have t9 : tg tm4 9 = v' := (by rw [hS.2 9 (by decide)];simp only [go_sem,hl1,i1,i2,i4,hia]);clear hS
    have q1 := hF4.len
    have q2 := hF4.lo
    have q3 := hF4.up
    have hx4 := hF4.hext
    have hb4 : hp st4 b = some (.var [iv c.room,iv c.depth,F,.map mm]) := hx4.hp (hk1.hp hb hWb')
    have hs4 : hp st4 mS = some (.var [.func 135 [] [.ptr b 0,.ptr mY 0,.ptr mS 0]]) := hx4.hp (hk1.hp hs hWs')
    have hm4 : hp st4 mm = some (.map es1) := hx4.hp hm1
    have m4b := hp_lt hb4
    have m4s := hp_lt hs4
    have m4m := hp_lt hm4
    have hU : SlOf 1 encI u (ownL next n) := SlOf.of_sl hO4.sl rfl rfl (fun _ => rfl)
    have hok := ownL_ok next (n : Int) (show next.length ≤ c.figs.length by omega)
    have hol : (ownL next n).length ≤ c.figs.length := by have : (ownL next n).length ≤ next.length := castL_len _ _;omega
    have hk1l := hk1.1
    have hcan := c108 c F u (ownL next n) mm es1 hF hc hU hok hol st4 (by omega) hm4 hmo1
    have hcnt := flatMap_range_succ g n
    refine go (bw8 hl4 t2 hb4 hu (neL m4b) (neA m4b) (ltL m4b) (ltA m4b)) fnil ?_
    refine wops_callR rfl rfl (by simp only [go_sem,hl4,hu];first | done | rfl) (by simp only [go_sem,hl4,hu];exact hcan) ?_
    rintro z st5 ⟨rfl,es5,hm5,hmo5,hx5,hlo5,hup5,hor5⟩
    have hI5 : I (i + ((List.range n).flatMap g).length) st5.heap := Y.stab _ _ _ (hIM _ _ es1 es5 (Y.stab _ _ _ hI1 hx4) hm4) hx5
    have hkM : KeepV (fun l => W l ∨ l = mm) st4.heap st5.heap := by
     refine ⟨by have := hx5.1;rw [List.length_set] at this;exact this,fun l o ho hko hn => ?_⟩
     refine hx5.var ?_
     rw [List.getElem?_set_ne (fun h => hn (.inr h.symm))];exact ho
    have hk5 := (hk1.trans (hx4.keep _)).trans hkM
    have hl5 : st4.heap.length ≤ st5.heap.length := hkM.1
    cases hcb : canB c (ownL next n)
    ·have hgn : g n = [] := by simp only [g,hnx,hcb,Bool.false_eq_true,if_false]
     rw [hgn,List.length_nil,Nat.add_zero] at hcnt
     refine go (bw hl4 hcb) fnil ?_
     rw [hcnt]
     refine ⟨hI5,hk5,by omega,by omega,⟨es5,hm5,hmo5⟩,?_⟩
     rcases hor5 with rfl | h5
     ·rcases hlo1 with ⟨h3,h4⟩ | h3
      ·exact .inl ⟨by omega,h4⟩
      ·exact .inr (by omega)
     ·exact .inr (by omega)
    ·have hgn : g n = chestL c k next (max many (n + 1)) := by simp only [g,hnx,hcb,if_true]
     have hXn : chestL c k next (max many (n + 1)) <+: X.drop (i + ((List.range n).flatMap g).length) := by
      obtain ⟨r,hr⟩ := flatMap_range_split g hn
      rw [hsg,hr] at hX
      rw [← hgn,← List.drop_drop]
      exact prefix_drop hX
     have hb5 := hk5.hp hb hWb'
     have hy5 := hk5.hp hy hWy'
     have hs5 := hk5.hp hs hWs'
     have m5s := hp_lt hs5
     have hw1 : IntKind.wrap .i64 ((n : Int) + 1) = ((n + 1 : Nat) : Int) := wrap_in (by unfold inI;omega)
     have hmx : max (many : Int) ((n + 1 : Nat) : Int) = ((max many (n + 1) : Nat) : Int) := by omega
     have hrec := c135 hF hc Y hIM hWm hem hmw hWb hWy hWs hWw k next (max many (n + 1)) v' st5 (i + ((List.range n).flatMap g).length) hv' (by omega) (by omega) hXn hI5 (by omega) (by omega) (by omega) hb5 hy5 hs5 ⟨es5,hm5,hmo5⟩
     refine go (bw14 hl4 t1 t4 t8 t9 hcb hs5 (neL m5s) (neA m5s) (ltL m5s) (ltA m5s) hw1 @mm2 hmx) fnil ?_
     refine wops_callR (by simp only [go_sem,hl4,hcb];first | done | rfl) (by with_reducible rfl) (by simp only [go_sem,hl4,hcb];first | done | rfl) (by simp only [go_sem,hl4,hcb];exact hrec) ?_
     rintro z st6 ⟨r,rfl,hT,hS',hk6,he6,hwf6,hm6,hlo6⟩
     rw [hgn] at hcnt
     cases r
     ·refine go (bw hl4 hcb) fnil ?_
      refine fnr_ret (v := .bool false) (results_one (by rw [rdRes_tmp];simp only [go_sem,hl4])) ?_
      refine leftM_fin hI helo hwf hw (hk5.trans hk6) he6 hm hm6 (.inr ⟨?_,(fun h => by cases h),hS'⟩)
      rcases hlo6 with ⟨_,h2,_⟩ | h2
      ·cases h2
      ·exact h2
     ·refine go (bw hl4 hcb) fnil ?_
      refine ⟨by rw [hcnt,← Nat.add_assoc];exact hT rfl,hk5.trans hk6,he6,hwf6,hm6,?_⟩
      rcases hlo6 with ⟨h1,_,rfl⟩ | h2
      ·rcases hor5 with rfl | h5
       ·rcases hlo1 with ⟨h3,h4⟩ | h3
        ·exact .inl ⟨by omega,by omega⟩
        ·exact .inr (by omega)
       ·exact .inr (by omega)
      ·exact .inr h2
  ·rintro tm1 st1 ⟨hI1,hk1,he1,hwf1,hm1,hlo1⟩ hS
   have hl1 : tm1.length = 62 := (by rw [hS.1];simp only [put_len,hl]);clear hS
   refine go hl1 fnil ?_
   rw [hsg]
   refine fnr_ret (v := .bool true) (results_one (by rw [rdRes_tmp];simp only [go_sem,hl1])) ?_
   refine leftM_fin hI helo hwf hw hk1 he1 hm hm1 ?_
   rcases hlo1 with ⟨h1,h2⟩ | h1
   ·exact .inl ⟨h1,h2,rfl⟩
   ·exact .inr ⟨h1,fun _ => hI1,fun h => by cases h⟩
end
end Go.Den.Ch
end
section
namespace Go.Den.Ch
theorem c100 (c : CL) (F : PV) (mm : Nat) (st : St) : Cl EE (.func 100 [] []) [.agg [iv c.room,iv c.depth,F,.map mm]] st (.ret (.func 134 [] [.ptr st.heap.length 0])) (st.push (.var [iv c.room,iv c.depth,F,.map mm])) := by
 refine cl_fn (pr100 · _ _) fn100 1 rfl (by decide) (fun tm hl hg => ?_);have h0 : tg tm 0 = .agg [iv c.room,iv c.depth,F,.map mm] := (hg 0 (by decide));clear hg
 refine go (bw hl h0) fnil ?_
 unfold FnQ
 refine ⟨.func 134 [] [.ptr st.heap.length 0],results_one (by rw [rdRes_tmp];simp only [go_sem,hl]),_,?_,rfl⟩
 unfold finishCall
 rw [if_pos (by simp only [lo_push];omega)]
 have : letGo st.heap.length (({ heap := st.heap,lo := st.heap.length } : St).push (.var [iv c.room,iv c.depth,F,.map mm])).heap (.func 134 [] [.ptr st.heap.length 0]) = none := by
  simp [letGo,freeze1,retag1,PV.low,lowL]
 rw [this]
 rfl
set_option maxHeartbeats 2000000 in
theorem iter134 {c : CL} {F : PV} {b mm : Nat} {es : List (PV × PV)} {st : St} (hF : SlOf 3 encF F c.figs) (hc : OkL c) (hb : hp st b = some (.var [iv c.room,iv c.depth,F,.map mm])) (hm : hp st mm = some (.map es)) (hes : MapOk c es) : IterM EE (.func 134 [] [.ptr b 0]) st (chestsX c) RepI (fun l => l = b) mm := by
 intro y W e w I S Y hIM hSM hWm hem hmw hWp hWw hI he hwf hw hew hyi hyc
 have hWb : ¬ W b := hWp b rfl
 have hWy : ¬ W st.heap.length := fun h => by have := hWw _ h;omega
 have hWs : ¬ W (st.heap.length + 1) := fun h => by have := hWw _ h;omega
 have hx0 : HExt st.heap (setVar ((({ heap := st.heap,lo := st.heap.length } : St).push (.var [y])).push (.var [.nilfunc])) (st.heap.length + 1) (.var [.func 135 [] [.ptr b 0,.ptr st.heap.length 0,.ptr (st.heap.length + 1) 0]])).heap :=
  (show HExt ({ heap := st.heap,lo := st.heap.length } : St).heap _ from ((((Fr.refl st.heap.length { heap := st.heap,lo := st.heap.length }).push (Nat.le_refl _)).push (by simp only [len_push];omega)).setVar (by omega)).hext)
 have hrec := c135 (X := chestsX c) (mY := st.heap.length) (mS := st.heap.length + 1) hF hc Y hIM hWm hem hmw hWb hWy hWs hWw c.figs.length [] 0 .nilslice (setVar ((({ heap := st.heap,lo := st.heap.length } : St).push (.var [y])).push (.var [.nilfunc])) (st.heap.length + 1) (.var [.func 135 [] [.ptr b 0,.ptr st.heap.length 0,.ptr (st.heap.length + 1) 0]])) 0 .nil (by simp) (by simp) (by simp only [List.drop_zero];exact List.prefix_refl _) (Y.stab _ _ _ hI hx0) (by simp only [lo_setVar,lo_push];omega) (by simp only [lo_setVar,lo_push,len_setVar,len_push];omega) (by simp only [len_setVar,len_push];omega)
  (hx0.hp hb) (by simp only [go_sem]) (by simp only [go_sem]) ⟨es,hx0.hp hm,hes⟩
 have hgoal : ClR EE (.func 134 [] [.ptr b 0]) [y] st (fun v st' => KeepV (fun l => W l ∨ l = mm) st.heap st'.heap ∧ e ≤ st'.lo ∧ st'.lo ≤ st'.heap.length ∧ (I (chestsX c).length st'.heap ∨ S st'.heap)) := by
  refine clr_fn (pr134 · _ _) fn134 2 rfl (by decide) (fun tm hl hg => ?_);have h0 : tg tm 0 = y := (hg 0 (by decide));have h1 : tg tm 1 = .ptr b 0 := (hg 1 (by decide));clear hg
  refine go (bw5 hl h0 h1 hyi hyc) fnil ?_
  refine wops_callR rfl rfl (by simp only [go_sem,hl,h0,h1];first | done | rfl) (by simp only [go_sem,hl,h0,h1];exact hrec) ?_
  rintro u st5 ⟨r,rfl,hT,hS',hk5,he5,hwf5,hm5,hlo5⟩
  rw [Nat.zero_add] at hT
  refine go hl fnil ?_
  refine fnr_normal results_nil ?_
  rcases hlo5 with ⟨h1,rfl,rfl⟩ | h1
  ·rw [finish_tuple (by simp only [lo_setVar,lo_push];omega) (by rfl)]
   have : (chestsX c).length = 0 := h1
   rw [this]
   exact ⟨.refl _ _,he,hwf,.inl hI⟩
  ·unfold finishCall
   rw [if_neg (by omega)]
   refine ⟨(hx0.keep _).trans hk5,?_,?_,?_⟩
   ·show e ≤ min st.lo st5.lo;omega
   ·show min st.lo st5.lo ≤ st5.heap.length;omega
   ·cases r
    ·exact .inr (hS' rfl)
    ·exact .inl (hT rfl)
 obtain ⟨v,st',h1,h2⟩ := hgoal
 exact ⟨v,st',h1,h2⟩
theorem chestL_mem {c : CL} : ∀ {k : Nat} {now : List Int} {many : Nat} {p : List Int},p ∈ chestL c k now many → many ≤ now.length → (∀ x ∈ now,0 ≤ x ∧ x ≤ now.length) → p.length = now.length + k ∧ ∀ x ∈ p,0 ≤ x ∧ x ≤ p.length
 | 0,now,many,p,h,hm,hr => by
  simp only [chestL,List.mem_singleton] at h
  subst h
  exact ⟨rfl,hr⟩
 | k + 1,now,many,p,h,hm,hr => by
  simp only [chestL,List.mem_flatMap,List.mem_range] at h
  obtain ⟨n,hn,h⟩ := h
  split at h
  ·have := chestL_mem h (by simp;omega) (fun x hx => by
    rcases List.mem_append.1 hx with h1 | h1
    ·have := hr x h1;simp;omega
    ·simp only [List.mem_singleton] at h1;subst h1;simp;omega)
   exact ⟨by have := this.1;simp at this;omega,this.2⟩
  ·cases h
theorem chestsX_mem {c : CL} {p : List Int} (h : p ∈ chestsX c) : p.length = c.figs.length ∧ ∀ x ∈ p,0 ≤ x ∧ x ≤ p.length := by
 have := chestL_mem h (by simp) (by simp)
 simpa using this
theorem c101 (P P2 : PV) (p p2 : List Int) (hP : SlOf 1 encI P p) (hP2 : SlOf 1 encI P2 p2) (hn1 : p.length < 1000) (hn2 : p2.length < 1000) (hb : ∀ x ∈ p,inI (x + 1)) (hb2 : ∀ x ∈ p2,inI (x + 1)) (st : St) : Cl EE (.func 101 [] []) [P,P2] st (.ret (.bool (ltLay p p2))) st := by
 refine cl_fn (pr101 · _ _) fn101 2 rfl (by decide) (fun tm hl hg => ?_);have h0 : tg tm 0 = P := (hg 0 (by decide));have h1 : tg tm 1 = P2 := (hg 1 (by decide));clear hg
 refine go (bw3 hl h0 h1) (bw3 (c102 P p hP hn1 hb) (c102 P2 p2 hP2 hn2 hb2) fnil) ?_
 unfold ltLay
 refine fnq_flat (results_one (by rw [rdRes_tmp];simp only [go_sem,hl];first | done | rfl)) (by first | exact Nat.le_refl _ | omega | (simp only [lo_push,lo_setVar];omega)) (by rfl)
def OutI (o : Option (List Int)) (P : PV) : Prop := match o with
 | none => P = .nilslice
 | some p => SlOf 1 encI P p
theorem OutI.cell {o : Option (List Int)} {P : PV} (h : OutI o P) : P.isCell = true ∧ P.cells = [P] ∧ ∃ (n : Nat) (l : List Int),P.sl = some (n,l.flatMap encI) := by
 cases o with
 | none => simp only [OutI] at h;subst h;exact ⟨rfl,rfl,0,[],rfl⟩
 | some p => exact ⟨h.isCell,h.cells,_,p,h.sl⟩
set_option maxHeartbeats 8000000 in
theorem c99 (g : Nat) (fa fc : List PV) (bf : PV) (hbc : bf.cells = [bf]) (X : List (List Int)) (bt : List Int → List Int → Bool) (priv : Nat → Prop) (mm : Nat) (es : List (PV × PV)) (st : St) (hpriv : ∀ l,priv l → l < st.heap.length) (hm : hp st mm = some (.map es))
  (hIt : ∀ st',HExt st.heap st'.heap → IterM EE (.func g fa fc) st' X RepI priv mm)
  (hbt : ∀ st',∀ x,x ∈ X → ∀ o,o ∈ X → ∀ vx vo,RepI vx x → RepI vo o → Cl EE bf [vx,vo] st' (.ret (.bool (bt x o))) st') :
  ClR EE (.func 99 [] []) [.func g fa fc,bf] st (fun v st' => ∃ P,v = .tuple [P,.bool (bestF bt X).isSome] ∧ OutI (bestF bt X) P ∧ KeepV (fun l => l = mm) st.heap st'.heap ∧ min mm st.lo ≤ st'.lo) := by
 have lm := hp_lt hm
 refine clr_fn (pr99 · _ _) fn99 2 rfl (by decide) (fun tm hl hg => ?_);have h0 : tg tm 0 = .func g fa fc := (hg 0 (by decide));have h1 : tg tm 1 = bf := (hg 1 (by decide));clear hg
 refine go (bw4 hl h0 h1 hbc) fnil ?_
 apply wp_block
 refine wp_gen (fun tm1 s1 => tm1.length = 22 ∧ tg tm1 3 = .ptr st.heap.length 0 ∧ tg tm1 6 = .ptr (st.heap.length + 1) 0 ∧ tg tm1 7 = .ptr (st.heap.length + 2) 0 ∧ tg tm1 9 = .func g fa fc ∧ HExt st.heap s1.heap ∧ s1.heap.length = st.heap.length + 3 ∧ st.heap.length ≤ s1.lo ∧ s1.lo ≤ s1.heap.length ∧ hp s1 st.heap.length = some (.var [bf]) ∧ hp s1 (st.heap.length + 1) = some (.var [.nilslice]) ∧ hp s1 (st.heap.length + 2) = some (.var [.bool false]))
  ⟨by simp only [go_sem,hl],by simp only [go_sem,hl],by simp only [go_sem,hl],by simp only [go_sem,hl],by simp only [go_sem,hl],(show HExt ({ heap := st.heap,lo := st.heap.length } : St).heap _ from (((((Fr.refl st.heap.length { heap := st.heap,lo := st.heap.length }).push (Nat.le_refl _)).push (by simp only [len_push];omega)).push (by simp only [len_push];omega)).setVar (by omega)).hext),by simp only [go_sem],by simp only [lo_push,lo_setVar];omega,by simp only [lo_push,lo_setVar,len_push,len_setVar];omega,by simp only [go_sem],by simp only [go_sem],by simp only [go_sem]⟩ ?_
 rintro tm1 s1 ⟨hl1,q3,q6,q7,q9,hx,hsl,hlo,hwf,z0,z2,z3⟩
 refine wp_rangeFM (X := X) (Rep := RepI) (priv := priv) (mm := mm) (fun l => l = st.heap.length + 1 ∨ l = st.heap.length + 2) mm
  (fun i h => h[st.heap.length]? = some (.var [bf]) ∧ (∃ P,h[st.heap.length + 1]? = some (.var [P]) ∧ OutI (bestF bt (X.take i)) P) ∧ h[st.heap.length + 2]? = some (.var [.bool (bestF bt (X.take i)).isSome]))
  (fun _ _ => False) (by simp only [go_sem,q9]) (hIt _ (hx.trans (HExt.push _ _))) (fun l hl => by have := hpriv l hl;omega) (fun l hl => by omega) (by omega) hwf
  (fun i h h' ⟨a0,⟨P,a2,a3⟩,a4⟩ hx => ⟨hx.var a0,⟨P,hx.var a2,a3⟩,hx.var a4⟩) (fun _ _ _ h _ => h)
  (fun i h s p s' p' ⟨a0,⟨P,a2,a3⟩,a4⟩ hL => ⟨set_var a0 hL,⟨P,set_var a2 hL,a3⟩,set_var a4 hL⟩) (fun _ _ _ _ _ _ h _ => h)
  (Nat.le_refl _) (by omega) (by omega)
  (fun i h es es' ⟨a0,⟨P,a2,a3⟩,a4⟩ hM => by
   have hs : ∀ (l : Nat) (cs : List PV),h[l]? = some (HObj.var cs) → (h.set mm (.map es'))[l]? = some (HObj.var cs) := fun l cs hl => by
    rw [List.getElem?_set_ne (by rintro rfl;rw [hM] at hl;cases hl)];exact hl
   exact ⟨hs _ _ a0,⟨P,hs _ _ a2,a3⟩,hs _ _ a4⟩) (fun _ _ _ _ h _ => h)
  ⟨z0,⟨_,z2,rfl⟩,z3⟩ ?_ ?_ (fun _ _ h => h.elim)
 ·rintro i hi v st1 hv ⟨a0,⟨P,a2,a3⟩,a4⟩ he1 hwf1 hL
  refine ⟨_,setParams_one,?_⟩
  have hvc : v.cells = [v] := SlOf.cells hv
  have hvi : v.isCell = true := SlOf.isCell hv
  have lL := hp_lt hL
  have a0' : hp st1 st.heap.length = _ := a0
  have a2' : hp st1 (st.heap.length + 1) = _ := a2
  have a4' : hp st1 (st.heap.length + 2) = _ := a4
  refine go hl1 fnil ?_
  refine ⟨rfl,.refl _,he1,hwf1,?_⟩
  have htk := bestF_take bt X hi
  refine wp_gen (fun tm2 s2 => tm2.length = 22 ∧ tg tm2 3 = .ptr st.heap.length 0 ∧ tg tm2 6 = .ptr (st.heap.length + 1) 0 ∧ tg tm2 7 = .ptr (st.heap.length + 2) 0 ∧ tg tm2 8 = v ∧ s2.heap.length = st1.heap.length ∧ mm ≤ s2.lo ∧ s2.lo ≤ s2.heap.length ∧ hp s2 st.heap.length = some (.var [bf]) ∧ hp s2 (st.heap.length + 1) = some (.var [P]) ∧ hp s2 (st.heap.length + 2) = some (.var [.bool (bestF bt (X.take i)).isSome]) ∧ hp s2 s1.heap.length = some (.loop tm1 [10] _ _ .busy none) ∧ KeepV (fun l => l = s1.heap.length) st1.heap s2.heap)
   ⟨by simp only [go_sem,hl1],by simp only [go_sem,hl1,q3],by simp only [go_sem,hl1,q6],by simp only [go_sem,hl1,q7],by simp only [go_sem,hl1],len_setVar _ _ _,by simp only [lo_setVar];omega,by simp only [lo_setVar,len_setVar];omega,hp_set_other a0' (by omega),hp_set_other a2' (by omega),hp_set_other a4' (by omega),by simp only [go_sem,neL lL,neA lL,ltL lL,ltA lL];rfl,⟨by simp only [len_setVar];omega,fun l o ho _ hn => hp_set_other ho hn⟩⟩ ?_
  rintro tm2 s2 ⟨hl2,p3,p6,p7,p8,hsl2,hlo2,hwf2,b0,b2,b3,bL,hk2⟩
  have m0 := hp_lt b0
  have m2 := hp_lt b2
  have m3 := hp_lt b3
  have mL := hp_lt bL
  have yes : bestF bt (X.take (i + 1)) = some X[i] → ∀ Z,hp s2 s1.heap.length = Z → (hp (setVar (setVar s2 (st.heap.length + 1) (.var [v])) (st.heap.length + 2) (.var [.bool true])) s1.heap.length = Z ∧ KeepV (fun l => (l = st.heap.length + 1 ∨ l = st.heap.length + 2) ∨ l = s1.heap.length) st1.heap (setVar (setVar s2 (st.heap.length + 1) (.var [v])) (st.heap.length + 2) (.var [.bool true])).heap ∧ mm ≤ (setVar (setVar s2 (st.heap.length + 1) (.var [v])) (st.heap.length + 2) (.var [.bool true])).lo ∧ (setVar (setVar s2 (st.heap.length + 1) (.var [v])) (st.heap.length + 2) (.var [.bool true])).lo ≤ (setVar (setVar s2 (st.heap.length + 1) (.var [v])) (st.heap.length + 2) (.var [.bool true])).heap.length ∧
    (setVar (setVar s2 (st.heap.length + 1) (.var [v])) (st.heap.length + 2) (.var [.bool true])).heap[st.heap.length]? = some (.var [bf]) ∧ (∃ P,(setVar (setVar s2 (st.heap.length + 1) (.var [v])) (st.heap.length + 2) (.var [.bool true])).heap[st.heap.length + 1]? = some (.var [P]) ∧ OutI (bestF bt (X.take (i + 1))) P) ∧ (setVar (setVar s2 (st.heap.length + 1) (.var [v])) (st.heap.length + 2) (.var [.bool true])).heap[st.heap.length + 2]? = some (.var [.bool (bestF bt (X.take (i + 1))).isSome])) := by
   intro hbn Z hZ
   refine ⟨by rw [hp_setVar,if_neg (by omega),hp_setVar,if_neg (by omega)];exact hZ,⟨by have := hk2.1;simp only [len_setVar];exact this,fun l o ho hko hn => hp_set_other (hp_set_other (hk2.2 l o ho hko (fun h => hn (.inr h))) (fun h => hn (.inl (.inl h)))) (fun h => hn (.inl (.inr h)))⟩,by simp only [lo_setVar];omega,by simp only [lo_setVar,len_setVar];omega,hp_set_other (hp_set_other b0 (by omega)) (by omega),⟨v,hp_set_other (by simp only [go_sem,m2]) (by omega),?_⟩,?_⟩
   ·rw [hbn];exact hv
   ·rw [hbn]
    have : hp (setVar (setVar s2 (st.heap.length + 1) (.var [v])) (st.heap.length + 2) (.var [.bool true])) (st.heap.length + 2) = some (.var [.bool true]) := by simp only [go_sem,m3]
    exact this
  cases hbf : bestF bt (X.take i) with
  | none =>
   rw [hbf] at a3 b3 htk
   dsimp only at htk
   simp only [OutI] at a3
   subst a3
   refine go (bw24 hl2 p3 p6 p7 p8 b0 b2 b3 hvc hvi @isS @isN (neL m0) (neA m0) (ltL m0) (ltA m0) (neL m2) (neA m2) (ltL m2) (ltA m2) (neL m3) (neA m3) (ltL m3) (ltA m3)) fnil ?_
   exact yes htk _ bL
  | some o =>
   rw [hbf] at a3 b3 htk
   dsimp only at htk
   have hcall := hbt s2 X[i] (List.getElem_mem _) o (bestF_mem bt X (by omega) hbf) v P hv a3
   cases hb : bt X[i] o
   ·rw [hb] at hcall htk
    refine go (bw24 hl2 p3 p6 p7 p8 b0 b2 b3 hvc hvi @isS @isN (neL m0) (neA m0) (ltL m0) (ltA m0) (neL m2) (neA m2) (ltL m2) (ltA m2) (neL m3) (neA m3) (ltL m3) (ltA m3)) (bw hcall fnil) ?_
    have hbn : bestF bt (X.take (i + 1)) = some o := by rw [htk];rfl
    refine ⟨bL,hk2.mono (fun l h => .inr h),hlo2,hwf2,b0,⟨P,b2,?_⟩,?_⟩
    ·rw [hbn];exact a3
    ·rw [hbn];exact b3
   ·rw [hb] at hcall htk
    refine go (bw24 hl2 p3 p6 p7 p8 b0 b2 b3 hvc hvi @isS @isN (neL m0) (neA m0) (ltL m0) (ltA m0) (neL m2) (neA m2) (ltL m2) (ltA m2) (neL m3) (neA m3) (ltL m3) (ltA m3)) (bw hcall fnil) ?_
    exact yes (by rw [htk];rfl) _ bL
 ·rintro s2 ⟨a0,⟨P,a2,a3⟩,a4⟩ hk2 he2 hwf2
  rw [List.take_length] at a3 a4
  have b2 : hp s2 (st.heap.length + 1) = _ := a2
  have b3 : hp s2 (st.heap.length + 2) = _ := a4
  have m2 := hp_lt b2
  have m3 := hp_lt b3
  obtain ⟨hPi,hPc,n,l,hPs⟩ := OutI.cell a3
  apply inBlock_normal
  refine go (bw13 hl1 q6 q7 b2 b3 (neL m2) (neA m2) (ltL m2) (ltA m2) (neL m3) (neA m3) (ltL m3) (ltA m3)) fnil ?_
  refine fnr_ret (v := .tuple [P,.bool (bestF bt X).isSome]) (by simp only [results,rdResL,rdRes_tmp];simp only [go_sem,hl1]) ?_
  have hks : KeepV (fun l => l = mm) st.heap s2.heap := ⟨by have := hk2.1;omega,fun l o ho hko hn => hk2.2 l o (hx.var ho) hko (by
   rintro (h | h)
   ·have := (List.getElem?_eq_some_iff.1 ho).1;omega
   ·exact hn h)⟩
  by_cases hlo5 : st.heap.length ≤ s2.lo
  ·obtain ⟨P',f1,f2,f3⟩ := finish_slT (st := st) (st1 := s2) (vs := [.bool (bestF bt X).isSome]) hPs rfl hlo5 (fun m => ints_low _ m)
   refine ⟨P',f1,?_,?_,?_⟩
   ·cases hb : bestF bt X with
    | none =>
     rw [hb] at a3
     simp only [OutI] at a3 ⊢
     subst a3
     rw [finish_tuple hlo5 rfl] at f1
     simp only [PV.tuple.injEq,List.cons.injEq,and_true] at f1
     exact f1.symm
    | some p =>
     rw [hb] at a3
     have a3' : SlOf 1 encI P p := a3
     exact ⟨(f2.trans hPs.symm).trans a3'.sl,fun _ _ => rfl⟩
   ·rcases f3 with f3 | f3 <;> rw [f3]
    ·exact .refl _ _
    ·exact (HExt.push _ _).keep _
   ·rcases f3 with f3 | f3 <;> rw [f3]
    ·omega
    ·rw [lo_push];omega
  ·unfold finishCall
   rw [if_neg hlo5]
   exact ⟨P,rfl,a3,hks,by show min mm st.lo ≤ min st.lo s2.lo;omega⟩
def chestsR (c : CL) : List Int × Int × Int := if listB c then (match bestF ltLay (chestsX c) with | some p => (p,layersL p,0) | none => ([],0,5)) else ([],0,2)
set_option maxHeartbeats 4000000 in
theorem c58 (c : CL) (F : PV) (hF : SlOf 3 encF F c.figs) (st : St) : ClR EE (.func 58 [] []) [clPV c F] st (fun v st' => ∃ P,v = .tuple [P,iv (chestsR c).2.1,iv (chestsR c).2.2] ∧ RetW st (chestsR c).1.length ((chestsR c).1.flatMap encI) P st') := by
 have hFc := hF.cells
 have hFi := hF.isCell
 refine clr_fn (pr58 · _ _) fn58 1 rfl (by decide) (fun tm hl hg => ?_);have h0 : tg tm 0 = clPV c F := (hg 0 (by decide));clear hg
 cases hA : listB c
 ·have e : chestsR c = ([],0,2) := by simp [chestsR,hA]
  rw [e]
  refine go (bw3 hl h0 hA) (bw (c77 c F hF) fnil) ?_
  refine fnr_ret (v := .tuple [.nilslice,iv 0,iv 2]) (by simp only [results,rdResL,rdRes_tmp];simp only [go_sem,hl]) ?_
  exact finish_slT rfl (by rfl) (by simp only [lo_push];omega) (fun m => rfl)
 ·have hc := OkL.of hA
  have hlen := hc.len
  refine go (bw3 hl h0 hA) (bw3 (c77 c F hF) (c100 c F) fnil) ?_
  have hb1 : hp (((({ heap := st.heap,lo := st.heap.length } : St).push (.var [iv c.room,iv c.depth,F])).push (.map [])).push (.var [iv c.room,iv c.depth,F,.map (st.heap.length + 1)])) (st.heap.length + 2) = some (.var [iv c.room,iv c.depth,F,.map (st.heap.length + 1)]) := by simp only [go_sem]
  have hb2 : hp (((({ heap := st.heap,lo := st.heap.length } : St).push (.var [iv c.room,iv c.depth,F])).push (.map [])).push (.var [iv c.room,iv c.depth,F,.map (st.heap.length + 1)])) (st.heap.length + 1) = some (.map []) := by simp only [go_sem]
  have hin : ∀ p ∈ chestsX c,∀ x ∈ p,inI (x + 1) := fun p hp x hx => by
   have h1 := chestsX_mem hp
   have h2 := h1.2 x hx
   unfold inI;omega
  have hln : ∀ p ∈ chestsX c,p.length < 1000 := fun p hp => by have := (chestsX_mem hp).1;omega
  refine wops_callR rfl rfl (by simp only [go_sem,hl];first | done | rfl) (by simp only [go_sem,hl];exact c99 134 [] [.ptr (st.heap.length + 2) 0] (.func 101 [] []) rfl (chestsX c) ltLay (fun l => l = st.heap.length + 2) (st.heap.length + 1) [] _ (fun l h => by subst h;simp only [len_push];omega) hb2 (fun st' hx => iter134 hF hc (hx.hp hb1) (hx.hp hb2) (fun e he => by cases he)) (fun st' x hx o ho vx vo hP hP2 => c101 vx vo x o hP hP2 (hln x hx) (hln o ho) (hin x hx) (hin o ho) st')) ?_
  rintro v st1 ⟨P,rfl,hO,hk,hlo⟩
  have hk1 := hk.1
  simp only [lo_push,len_push] at hlo hk1
  cases hb : bestF ltLay (chestsX c) with
  | none =>
   have e : chestsR c = ([],0,5) := by simp [chestsR,hA,hb]
   rw [e]
   refine go (bw4 hl @isS @isN hb) fnil ?_
   refine fnr_ret (v := .tuple [.nilslice,iv 0,iv 5]) (by simp only [results,rdResL,rdRes_tmp];simp only [go_sem,hl]) ?_
   exact finish_slT rfl (by rfl) (by omega) (fun m => rfl)
  | some p =>
   have e : chestsR c = (p,layersL p,0) := by simp [chestsR,hA,hb]
   rw [e]
   rw [hb] at hO
   have hP : SlOf 1 encI P p := hO
   have hpm := bestF_mem ltLay (chestsX c) (Nat.le_refl _) (by rw [List.take_length];exact hb)
   refine go (bw4 hl @isS @isN hb) (bw (c102 P p hP (hln p hpm) (hin p hpm)) fnil) ?_
   refine fnr_ret (v := .tuple [P,iv (layersL p),iv 0]) (by simp only [results,rdResL,rdRes_tmp];simp only [go_sem,hl]) ?_
   exact finish_slT hP.sl (by rfl) (by omega) (fun m => ints_low p m)
end Go.Den.Ch
end
section
namespace Go.Den.Ch
def combL (n : Nat) : Nat → List Int → Nat → List (List Int)
 | 0,now,_ => [now]
 | k + 1,now,from' => (List.range (n - k - from')).flatMap fun (j : Nat) => combL n k (now ++ [((from' + j : Nat) : Int)]) (from' + j + 1)
def badB (c : CL) (l : List Int) : Bool := !canB c l
def clashF (c : CL) (k : Nat) (now : List Int) (from' : Nat) : Option (List Int) := (combL c.figs.length k now from').find? (badB c)
theorem clashF_succ (c : CL) (k : Nat) (now : List Int) (f : Nat) : clashF c (k + 1) now f = (List.range (c.figs.length - k - f)).findSome? fun (j : Nat) => clashF c k (now ++ [((f + j : Nat) : Int)]) (f + j + 1) := by
 rw [clashF,combL,List.find?_flatMap];rfl
structure Below (f : Nat) (now : List Int) : Prop where
 rng : ∀ x ∈ now,0 ≤ x ∧ x < f
 ris : now.Pairwise (· < ·)
theorem Below.snoc {f : Nat} {now : List Int} (h : Below f now) {i : Nat} (hi : f ≤ i) : Below (i + 1) (now ++ [(i : Int)]) := ⟨fun x hx => by
 rcases List.mem_append.1 hx with h1 | h1
 ·have := h.rng x h1;omega
 ·simp only [List.mem_singleton] at h1;subst h1;omega,by
 rw [List.pairwise_append]
 refine ⟨h.ris,by simp,fun a ha b hb => ?_⟩
 simp only [List.mem_singleton] at hb
 subst hb
 have := h.rng a ha;omega⟩
def ClQ (c : CL) (oc mm : Nat) (st : St) (fd : Option (List Int)) (u : PV) (st' : St) : Prop :=
 u = .bool fd.isSome ∧ KeepV (fun l => l = oc ∨ l = mm) st.heap st'.heap ∧ (∃ P,hp st' oc = some (.var [P]) ∧ P.isCell = true ∧ ∀ l,fd = some l → SlOf 1 encI P l) ∧ (∃ es,hp st' mm = some (.map es) ∧ MapOk c es) ∧ min st.lo (min oc mm) ≤ st'.lo ∧ st'.lo ≤ st'.heap.length ∧ (fd.isSome = true → st'.lo ≤ oc)
section
variable {c : CL} {F : PV} {oc rc cc sc mm : Nat}
theorem clq_fin {st st1 : St} {fd : Option (List Int)} (hoc : oc < st.heap.length) (h0 : ∃ P,hp st oc = some (.var [P]) ∧ P.isCell = true) (hm0 : ∃ es,hp st mm = some (.map es) ∧ MapOk c es) (hwf : st.lo ≤ st.heap.length) (hk : KeepV (fun l => l = oc ∨ l = mm) st.heap st1.heap) (h1 : ∃ P,hp st1 oc = some (.var [P]) ∧ P.isCell = true ∧ ∀ l,fd = some l → SlOf 1 encI P l) (hm1 : ∃ es,hp st1 mm = some (.map es) ∧ MapOk c es) (hlo : min oc mm ≤ st1.lo) (hup : fd.isSome = true → st1.lo ≤ oc) :
  ClQ c oc mm st fd (finishCall st st1 (.bool fd.isSome)).1 (finishCall st st1 (.bool fd.isSome)).2 := by
 by_cases h : st.heap.length ≤ st1.lo
 ·rw [finish_flat h rfl]
  have hn : fd = none := by
   cases fd with
   | none => rfl
   | some l => have := hup rfl;omega
  subst hn
  obtain ⟨P,hP,hPc⟩ := h0
  exact ⟨rfl,.refl _ _,⟨P,hP,hPc,fun l h => by cases h⟩,hm0,Nat.min_le_left _ _,hwf,fun h => by cases h⟩
 ·unfold finishCall
  rw [if_neg h]
  have := hk.1
  exact ⟨rfl,hk,h1,hm1,by show min st.lo (min oc mm) ≤ min st.lo st1.lo;omega,by show min st.lo st1.lo ≤ st1.heap.length;omega,fun h => by have := hup h;show min st.lo st1.lo ≤ oc;omega⟩
set_option maxHeartbeats 8000000 in
theorem c107 (hF : SlOf 3 encF F c.figs) (hc : OkL c) (hor : oc ≠ rc) (hoc : oc ≠ cc) (hos : oc ≠ sc) : ∀ (k : Nat) (now : List Int) (f : Nat) (v : PV) (st : St),SlOf 1 encI v now → Below f now → f ≤ c.figs.length → now.length + k ≤ c.figs.length → st.lo ≤ st.heap.length →
  (∃ P,hp st oc = some (.var [P]) ∧ P.isCell = true) → hp st rc = some (.var [iv c.room,iv c.depth,F,.map mm]) → hp st cc = some (.var [iv c.room,iv c.depth,F]) → hp st sc = some (.var [.func 107 [] [.ptr oc 0,.ptr rc 0,.ptr cc 0,.ptr sc 0]]) → (∃ es,hp st mm = some (.map es) ∧ MapOk c es) →
  ClR EE (.func 107 [] [.ptr oc 0,.ptr rc 0,.ptr cc 0,.ptr sc 0]) [v,iv f,iv k] st (ClQ c oc mm st (clashF c k now f))
 | 0,now,f,v,st,hv,hB,hf,hnl,hwf,⟨P0,ho,hP0⟩,hr,hcc,hs,⟨es,hm,hmo⟩ => by
  have hvc := hv.cells
  have hvi := hv.isCell
  have hlen := hc.len
  have loc := hp_lt ho
  have lr := hp_lt hr
  have lm := hp_lt hm
  refine clr_fn (pr107 · _ _) fn107 7 rfl (by decide) (fun tm hl hg => ?_);have h0 : tg tm 0 = v := (hg 0 (by decide));have h1 : tg tm 1 = iv f := (hg 1 (by decide));have h2 : tg tm 2 = iv (0 : Nat) := (hg 2 (by decide));have h3 : tg tm 3 = .ptr oc 0 := (hg 3 (by decide));have h4 : tg tm 4 = .ptr rc 0 := (hg 4 (by decide));have h5 : tg tm 5 = .ptr cc 0 := (hg 5 (by decide));have h6 : tg tm 6 = .ptr sc 0 := (hg 6 (by decide));clear hg
  have ho' : hp { heap := st.heap,lo := st.heap.length } oc = some (.var [P0]) := ho
  have hd0 : (((0 : Nat) : Int) == 0) = true := rfl
  have hr' : hp (setVar { heap := st.heap,lo := st.heap.length } oc (.var [v])) rc = some (.var [iv c.room,iv c.depth,F,.map mm]) := hp_set_other hr (fun h => hor h.symm)
  have hmne : mm ≠ oc := by rintro rfl;rw [ho] at hm;cases hm
  have hm' : hp (setVar { heap := st.heap,lo := st.heap.length } oc (.var [v])) mm = some (.map es) := hp_set_other hm hmne
  have hcan := c108 c F v now mm es hF hc hv ⟨fun x hx => by have := hB.rng x hx;omega,hB.ris⟩ (by omega) (setVar { heap := st.heap,lo := st.heap.length } oc (.var [v])) (by simp only [lo_setVar,len_setVar];omega) hm' hmo
  refine go (bw21 hl h0 h1 h2 h3 h4 h5 h6 hd0 ho' hvc hvi hr' (neL loc) (neA loc) (ltL loc) (ltA loc) (neL lr) (neA lr) (ltL lr) (ltA lr)) fnil ?_
  refine wops_callR rfl rfl (by simp only [go_sem,hl,h0];first | done | rfl) (by simp only [go_sem,hl,h0];exact hcan) ?_
  rintro z st5 ⟨rfl,es5,hm5,hmo5,hx5,hlo5,hup5,hor5⟩
  have hfd : clashF c 0 now f = if badB c now then some now else none := by simp [clashF,combL,List.find?_cons];cases badB c now <;> rfl
  have hb : (!canB c now) = (clashF c 0 now f).isSome := by rw [hfd,badB];cases canB c now <;> rfl
  refine go hl fnil ?_
  refine fnr_ret (v := .bool (clashF c 0 now f).isSome) (results_one (by rw [rdRes_tmp,← hb];simp only [go_sem,hl])) ?_
  simp only [lo_setVar,len_setVar] at hlo5 hup5
  have hox : hp st5 oc = some (.var [v]) := by
   refine hx5.var ?_
   rw [List.getElem?_set_ne hmne]
   have := hp_setVar { heap := st.heap,lo := st.heap.length } oc oc (.var [v])
   rw [if_pos rfl,if_pos loc] at this
   exact this
  refine clq_fin loc ⟨P0,ho,hP0⟩ ⟨es,hm,hmo⟩ hwf ?_ ⟨v,hox,hvi,fun l h => ?_⟩ ⟨es5,hm5,hmo5⟩ (by omega) (fun _ => by omega)
  ·refine ⟨by have := hx5.1;simpa [setVar] using this,fun l o h1 h2 h3 => ?_⟩
   refine hx5.var ?_
   rw [List.getElem?_set_ne (fun h => h3 (.inr h.symm))]
   exact hp_set_other (st := { heap := st.heap,lo := st.heap.length }) h1 (fun h => h3 (.inl h))
  ·rw [hfd] at h
   split at h
   ·cases h;exact hv
   ·cases h
 | k + 1,now,f,v,st,hv,hB,hf,hnl,hwf,⟨P0,ho,hP0⟩,hr,hcc,hs,⟨es,hm,hmo⟩ => by
  have hFs := hF.slen
  have hlen := hc.len
  have loc := hp_lt ho
  have lc := hp_lt hcc
  refine clr_fn (pr107 · _ _) fn107 7 rfl (by decide) (fun tm hl hg => ?_);have h0 : tg tm 0 = v := (hg 0 (by decide));have h1 : tg tm 1 = iv f := (hg 1 (by decide));have h2 : tg tm 2 = iv (k + 1 : Nat) := (hg 2 (by decide));have h3 : tg tm 3 = .ptr oc 0 := (hg 3 (by decide));have h4 : tg tm 4 = .ptr rc 0 := (hg 4 (by decide));have h5 : tg tm 5 = .ptr cc 0 := (hg 5 (by decide));have h6 : tg tm 6 = .ptr sc 0 := (hg 6 (by decide));clear hg
  have hd0 : (((k + 1 : Nat) : Int) == 0) = false := by rw [beq_eq_false_iff_ne];omega
  refine go (bw9 hl h0 h1 h2 h3 h4 h5 h6 hd0) fnil ?_
  refine wp_for [11] (fun i vs st1 => vs = [iv ((f + i : Nat) : Int)] ∧ f + i ≤ c.figs.length ∧ KeepV (fun l => l = oc ∨ l = mm) st.heap st1.heap ∧ (∃ P,hp st1 oc = some (.var [P]) ∧ P.isCell = true) ∧ (∃ es,hp st1 mm = some (.map es) ∧ MapOk c es) ∧ min oc mm ≤ st1.lo ∧ st1.lo ≤ st1.heap.length ∧ ∀ j,j < i → clashF c k (now ++ [((f + j : Nat) : Int)]) (f + j + 1) = none) (fun i => c.figs.length + 1 - (f + i)) ?_ ?_
  ·refine ⟨by simp only [go_sem,hl],by omega,.refl _ _,⟨P0,ho,hP0⟩,⟨es,hm,hmo⟩,?_,Nat.le_refl _,fun j hj => absurd hj (by omega)⟩
   show min oc mm ≤ st.heap.length;omega
  ·rintro i tm1 st1 ⟨hv1,hfi,hk1,⟨P1,ho1,hP1⟩,⟨es1,hm1,hmo1⟩,hlo1,hwf1,hno⟩ hS
   simp only [List.map_cons,List.map_nil,List.cons.injEq,and_true] at hv1
   have hl1 : tm1.length = 40 := (by rw [hS.1];simp only [put_len,hl]);have i0 : tg tm1 0 = v := (by rw [hS.2 0 (by decide)];simp only [go_sem,hl,h0,h2,h5,h6]);have i2 : tg tm1 2 = iv (k + 1 : Nat) := (by rw [hS.2 2 (by decide)];simp only [go_sem,hl,h0,h2,h5,h6]);have i5 : tg tm1 5 = .ptr cc 0 := (by rw [hS.2 5 (by decide)];simp only [go_sem,hl,h0,h2,h5,h6]);have i6 : tg tm1 6 = .ptr sc 0 := (by rw [hS.2 6 (by decide)];simp only [go_sem,hl,h0,h2,h5,h6]);clear hS
   have hmc : mm ≠ cc := by rintro rfl;rw [hcc] at hm;cases hm
   have hmr : mm ≠ rc := by rintro rfl;rw [hr] at hm;cases hm
   have hms : mm ≠ sc := by rintro rfl;rw [hs] at hm;cases hm
   have hcc1 := hk1.hp hcc (by rintro (h | h);exact hoc h.symm;exact hmc h.symm)
   have hr1 := hk1.hp hr (by rintro (h | h);exact hor h.symm;exact hmr h.symm)
   have hs1 := hk1.hp hs (by rintro (h | h);exact hos h.symm;exact hms h.symm)
   have m1c := hp_lt hcc1
   have m1s := hp_lt hs1
   have hkl := hk1.1
   have hw0 : IntKind.wrap .i64 (((f + i : Nat) : Int) + ((k + 1 : Nat) : Int)) = ((f + i + (k + 1) : Nat) : Int) := wrap_in (by unfold inI;omega)
   refine go (bw11 hl1 hv1 i2 i5 hcc1 hFs (neL m1c) (neA m1c) (ltL m1c) (ltA m1c) hw0) fnil ?_
   refine ⟨decide (((f + i + (k + 1) : Nat) : Int) ≤ (c.figs.length : Int)),by simp only [go_sem,hl1],fun hb => ?_,fun hb => ?_⟩
   ·have hN : ∀ j,j < c.figs.length - k - f → clashF c k (now ++ [((f + j : Nat) : Int)]) (f + j + 1) = none := fun j hj => hno j (by
     have := of_decide_eq_false hb
     omega)
    have hfd : clashF c (k + 1) now f = none := by rw [clashF_succ];exact range_none hN
    rw [hfd]
    refine go hl1 fnil ?_
    refine fnr_ret (v := .bool (none : Option (List Int)).isSome) (results_one (by rw [rdRes_tmp];simp only [go_sem,hl1];rfl)) ?_
    exact clq_fin loc ⟨P0,ho,hP0⟩ ⟨es,hm,hmo⟩ hwf hk1 ⟨P1,ho1,hP1,fun l h => by cases h⟩ ⟨es1,hm1,hmo1⟩ hlo1 (fun h => by cases h)
   ·have hle := of_decide_eq_true hb
    refine ⟨by omega,?_⟩
    refine go (bw9 hl1 hv1 i6 i0 hs1 (neL m1s) (neA m1s) (ltL m1s) (ltA m1s)) fnil ?_
    refine wopsD_callS (by first | omega | (simp only [lo_push,lo_setVar,len_push,len_setVar];omega)) rfl rfl (by simp only [go_sem,hl1,i0];first | done | rfl) (fun st1 he => by simp only [go_sem,hl1,i0];exact c109 v now hv (by omega) _) ?_
    intro v1 st2 hR
    have r1 := hR.lo
    have r2 := hR.len
    refine go (bw hl1 hv1) fnil ?_
    refine wopsD_append' (m := st1.heap.length) (by omega) rfl rfl (by simp only [go_sem,hl1];first | done | rfl) (by simp only [go_sem,hl1];first | done | rfl) (hR.own (Nat.le_refl _)) rfl (by omega) (by rfl) (by rfl) (by simp only [maxList];omega) ?_
    intro v' st3 ft hft hO' hFr hk3
    have hv' : SlOf 1 encI v' (now ++ [((f + i : Nat) : Int)]) := SlOf.of_sl hO'.sl (by simp) (by simp [encI_map,share_int]) (fun _ => rfl)
    have hFr3 : Fr st1.heap.length st1 st3 := hR.fr.trans hFr
    have hx3 := hFr3.hext
    have f1 := hFr3.lo
    have f2 := hFr3.up
    have f3 := hFr3.len
    have hw1 : IntKind.wrap .i64 (((f + i : Nat) : Int) + 1) = ((f + i + 1 : Nat) : Int) := wrap_in (by unfold inI;omega)
    have hw2 : IntKind.wrap .i64 (((k + 1 : Nat) : Int) - 1) = (k : Int) := by rw [wrap_in (by unfold inI;omega)];omega
    refine go (bw5 hl1 hv1 i2 hw1 hw2) fnil ?_
    have hrec := c107 hF hc hor hoc hos k (now ++ [((f + i : Nat) : Int)]) (f + i + 1) v' { st3 with lo := st3.heap.length } hv' (hB.snoc (by omega)) (by omega) (by simp;omega) (Nat.le_refl _) ⟨P1,hx3.hp ho1,hP1⟩ (hx3.hp hr1) (hx3.hp hcc1) (hx3.hp hs1) ⟨es1,hx3.hp hm1,hmo1⟩
    refine wopsD_callR rfl rfl (by simp only [go_sem,hl1];first | done | rfl) (by simp only [go_sem,hl1];exact hrec) ?_
    rintro u st4 ⟨rfl,hk4,⟨P4,ho4,hP4,hPl⟩,hm4,hlo4,hwf4,hup4⟩ ft2
    apply wopsD_nil
    refine ⟨?_,?_⟩
    ·have hc2 : (match some ft with
       | some f => !clash sc f
       | none => true) = true := by simp only [hft sc m1s,Bool.not_false]
     simp only [footOk,List.all_cons,List.all_nil,List.getElem?_cons_zero,List.getElem?_cons_succ,Bool.and_true]
     simp only [footOf]
     simp only [go_sem,hl1,i6]
     have hq : clash sc Foot.quiet = false := rfl
     simp only [List.all_cons,List.all_nil,List.getElem?_cons_zero,List.getElem?_cons_succ,hq,hft sc m1s,Bool.not_false,Bool.and_self]
    have hgen : ∃ S : St,S = { st4 with lo := min st3.lo st4.lo } := ⟨_,rfl⟩
    obtain ⟨S,hSd⟩ := hgen
    rw [← hSd]
    have hSh : S.heap = st4.heap := by rw [hSd]
    have hSl : S.lo = min st3.lo st4.lo := by rw [hSd]
    have hSo : hp S oc = some (.var [P4]) := by show S.heap[oc]? = _;rw [hSh];exact ho4
    have hSm : ∃ es,hp S mm = some (.map es) ∧ MapOk c es := by
     obtain ⟨es4,g1,g2⟩ := hm4
     exact ⟨es4,by show S.heap[mm]? = _;rw [hSh];exact g1,g2⟩
    have hSk : KeepV (fun l => l = oc ∨ l = mm) st.heap S.heap := by rw [hSh];exact (hk1.trans (hx3.keep _)).trans hk4
    have hkl4 := hk4.1
    simp only at hlo4 hkl4
    cases hfd : clashF c k (now ++ [((f + i : Nat) : Int)]) (f + i + 1) with
    | some l =>
     rw [hfd] at hup4
     have h4 := hup4 rfl
     have hfd2 : clashF c (k + 1) now f = some l := by rw [clashF_succ];exact range_some (by omega) hno hfd
     rw [hfd2]
     refine go (bw3 hl1 @isS @isN) fnil ?_
     refine fnr_ret (v := .bool (some l).isSome) (results_one (by rw [rdRes_tmp];simp only [go_sem,hl1];rfl)) ?_
     exact clq_fin loc ⟨P0,ho,hP0⟩ ⟨es,hm,hmo⟩ hwf hSk ⟨P4,hSo,hP4,fun l' h => hPl l' (by rw [hfd];exact h)⟩ hSm (by omega) (fun _ => by omega)
    | none =>
     have hw3 : IntKind.wrap .i64 (((f + i : Nat) : Int) + 1) = ((f + (i + 1) : Nat) : Int) := wrap_in (by unfold inI;omega)
     refine go (bw5 hl1 hv1 @isS @isN hw3) fnil ?_
     refine ⟨by simp only [go_sem,hl1],by omega,hSk,⟨P4,hSo,hP4⟩,hSm,by omega,by rw [hSh];omega,fun j hj => ?_⟩
     by_cases hji : j = i
     ·subst hji;exact hfd
     ·exact hno j (by omega)
end
end Go.Den.Ch
end
section
namespace Go.Den.Ch
def clashR (c : CL) : List Int × Int := if listB c then (match (List.range (c.figs.length + 1)).findSome? (fun many => clashF c many [] 0) with | some l => (l,0) | none => ([],5)) else ([],2)
set_option maxHeartbeats 8000000 in
theorem c62 (c : CL) (F : PV) (hF : SlOf 3 encF F c.figs) (st : St) : ClR EE (.func 62 [] []) [clPV c F] st (fun v st' => ∃ P,v = .tuple [P,iv (clashR c).2] ∧ RetW st (clashR c).1.length ((clashR c).1.flatMap encI) P st') := by
 have hFc := hF.cells
 have hFi := hF.isCell
 have hFs := hF.slen
 refine clr_fn (pr62 · _ _) fn62 1 rfl (by decide) (fun tm hl hg => ?_);have h0 : tg tm 0 = clPV c F := (hg 0 (by decide));clear hg
 cases hA : listB c
 ·have e : clashR c = ([],2) := by simp [clashR,hA]
  rw [e]
  refine go (bw3 hl h0 hA) (bw (c77 c F hF) fnil) ?_
  refine fnr_ret (v := .tuple [.nilslice,iv 2]) (by simp only [results,rdResL,rdRes_tmp];simp only [go_sem,hl]) ?_
  exact finish_slT rfl (by rfl) (by simp only [lo_push];omega) (fun m => rfl)
 ·have hc := OkL.of hA
  have hlen := hc.len
  have hw0 : IntKind.wrap .i64 ((c.figs.length : Int) + 1) = ((c.figs.length + 1 : Nat) : Int) := wrap_in (by unfold inI;omega)
  refine go (bw7 hl h0 hA hFi hFs hw0 @isCell_map) (bw (c77 c F hF) fnil) ?_
  refine wp_gen (fun tm1 s1 => tm1.length = 31 ∧ tg tm1 5 = .ptr (st.heap.length + 3) 0 ∧ tg tm1 6 = .ptr (st.heap.length + 4) 0 ∧ tg tm1 7 = .bool false ∧ tg tm1 19 = iv (c.figs.length + 1 : Nat) ∧ tg tm1 20 = iv 0 ∧ s1.heap.length = st.heap.length + 5 ∧ st.heap.length ≤ s1.lo ∧ s1.lo ≤ s1.heap.length ∧ hp s1 st.heap.length = some (.var [iv c.room,iv c.depth,F]) ∧ hp s1 (st.heap.length + 1) = some (.map []) ∧ hp s1 (st.heap.length + 2) = some (.var [iv c.room,iv c.depth,F,.map (st.heap.length + 1)]) ∧ hp s1 (st.heap.length + 3) = some (.var [.nilslice]) ∧ hp s1 (st.heap.length + 4) = some (.var [.func 107 [] [.ptr (st.heap.length + 3) 0,.ptr (st.heap.length + 2) 0,.ptr st.heap.length 0,.ptr (st.heap.length + 4) 0]]))
   ⟨by simp only [go_sem,hl],by simp only [go_sem,hl],by simp only [go_sem,hl],by simp only [go_sem,hl],by simp only [go_sem,hl],by simp only [go_sem,hl],by simp only [go_sem],by simp only [lo_push,lo_setVar];omega,by simp only [lo_push,lo_setVar,len_push,len_setVar];omega,by simp only [go_sem],by simp only [go_sem],by simp only [go_sem],by simp only [go_sem],by simp only [go_sem]⟩ ?_
  rintro tm1 s1 ⟨hl1,q5,q6,q7,q19,q20,hsl,hlo,hwf,z0,z1,z2,z3,z4⟩
  refine wp_range (c.figs.length + 1) [7] (fun i vs st' => vs = [.bool false] ∧ KeepV (fun l => l = st.heap.length + 3 ∨ l = st.heap.length + 1) s1.heap st'.heap ∧ (∃ P,hp st' (st.heap.length + 3) = some (.var [P]) ∧ P.isCell = true) ∧ (∃ es,hp st' (st.heap.length + 1) = some (.map es) ∧ MapOk c es) ∧ st.heap.length ≤ st'.lo ∧ st'.lo ≤ st'.heap.length ∧ ∀ j,j < i → clashF c j [] 0 = none) (by omega) q20 (by simp only [go_sem,q19]) (by omega) (by decide) ⟨by simp only [List.map_cons,List.map_nil,q7],.refl _ _,⟨_,z3,rfl⟩,⟨_,z1,fun e he => by cases he⟩,hlo,hwf,fun j hj => absurd hj (by omega)⟩ ?_ ?_
  ·rintro i hi tm2 st2 ⟨hv,hk,hP,hm,hlo2,hwf2,hno⟩ hS hia
   simp only [List.map_cons,List.map_nil,List.cons.injEq,and_true] at hv
   have hl2 : tm2.length = 31 := (by rw [hS.1];simp only [put_len,hl1]);have j5 : tg tm2 5 = .ptr (st.heap.length + 3) 0 := (by rw [hS.2 5 (by decide)];simp only [go_sem,hl1,q5,q6]);have j6 : tg tm2 6 = .ptr (st.heap.length + 4) 0 := (by rw [hS.2 6 (by decide)];simp only [go_sem,hl1,q5,q6]);clear hS
   have y0 := hk.hp z0 (by omega)
   have y2 := hk.hp z2 (by omega)
   have y4 := hk.hp z4 (by omega)
   have n4 := hp_lt y4
   refine go (bw8 hl2 j6 hia y4 (neL n4) (neA n4) (ltL n4) (ltA n4)) fnil ?_
   have hrec := c107 (c := c) (F := F) (oc := st.heap.length + 3) (rc := st.heap.length + 2) (cc := st.heap.length) (sc := st.heap.length + 4) (mm := st.heap.length + 1) hF hc (by omega) (by omega) (by omega) i [] 0 .nilslice st2 .nil ⟨by simp,.nil⟩ (by omega) (by simp;omega) hwf2 hP y2 y0 y4 hm
   refine wops_callR rfl rfl (by simp only [go_sem,hl2];first | done | rfl) (by simp only [go_sem,hl2];exact hrec) ?_
   rintro u st3 ⟨rfl,hk3,⟨P3,hP3,hP3i,hPl⟩,hm3,hlo3,hwf3,hup3⟩
   cases hfd : clashF c i [] 0 with
   | some l =>
    have e : clashR c = (l,0) := by
     simp only [clashR,hA,if_true]
     rw [range_some hi hno hfd]
    have hL : SlOf 1 encI P3 l := hPl l hfd
    rw [e]
    have n3 := hp_lt hP3
    refine go (bw9 hl2 j5 hP3 @isS @isN (neL n3) (neA n3) (ltL n3) (ltA n3)) fnil ?_
    refine fnr_ret (v := .tuple [P3,iv 0]) (by simp only [results,rdResL,rdRes_tmp];simp only [go_sem,hl2]) ?_
    exact finish_slT hL.sl (by rfl) (by omega) (fun m => ints_low l m)
   | none =>
    refine go (bw3 hl2 @isS @isN) fnil ?_
    refine ⟨by simp only [go_sem,hl2],hk.trans hk3,⟨P3,hP3,hP3i⟩,hm3,by omega,hwf3,fun j hj => ?_⟩
    by_cases hji : j = i
    ·subst hji;exact hfd
    ·exact hno j (by omega)
  ·rintro tm2 st2 ⟨hv,hk,hP,hm,hlo2,hwf2,hno⟩ hS
   simp only [List.map_cons,List.map_nil,List.cons.injEq,and_true] at hv
   have hl2 : tm2.length = 31 := (by rw [hS.1];simp only [put_len,hl1]);clear hS
   have e : clashR c = ([],5) := by
    simp only [clashR,hA,if_true]
    rw [range_none hno]
   rw [e]
   refine go (bw hl2 hv) fnil ?_
   refine fnr_ret (v := .tuple [.nilslice,iv 5]) (by simp only [results,rdResL,rdRes_tmp];simp only [go_sem,hl2]) ?_
   exact finish_slT rfl (by rfl) hlo2 (fun m => rfl)
end Go.Den.Ch
end

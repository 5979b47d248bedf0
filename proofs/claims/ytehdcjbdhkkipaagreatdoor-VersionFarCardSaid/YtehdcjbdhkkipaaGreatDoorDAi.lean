/- Part of the proofs of laws of the package version. Texts: DenDrawD, DenDrawE. -/
import Derived.Test.YtehdcjbdhkkipaaGreatDoorDAh
set_option linter.unusedSimpArgs false
set_option linter.unusedVariables false
section
namespace Go.Den
section
variable {E : Env} {rec : Rec} {ds : List DOper} {tm : List PV} {st : St}
def StepAt (E : Env) (rec : Rec) (tm : List PV) (st : St) (d : DOper) (v : PV) (st1 : St) (f : Foot) : Prop :=
 (wants tm d.guard = true ∧ ∃ st2,stepOp E rec tm { st with lo := st.heap.length } d.op = some (.val v st2) ∧ st1 = { st2 with lo := min st.lo st2.lo } ∧ f = fineOf d.op (footOf tm d.op st.heap.length st2.lo) st.heap st2.heap) ∨
 (wants tm d.guard = false ∧ v = undef ∧ st1 = st ∧ f = .quiet)
structure Trace (E : Env) (rec : Rec) (ds : List DOper) (tm : List PV) (st : St) (K : Nat) (tms : Nat → List PV) (sts : Nat → St) (vs : Nat → PV) (fo : Nat → Foot) : Prop where
 z1 : tms 0 = tm
 z2 : sts 0 = st
 le : K ≤ ds.length
 step : ∀ j d,j < K → ds[j]? = some d → StepAt E rec (tms j) (sts j) d (vs j) (sts (j + 1)) (fo j) ∧ tms (j + 1) = put (tms j) d.dst (vs j)
def TEnd (E : Env) (rec : Rec) (ds : List DOper) (K : Nat) (tms : Nat → List PV) (sts : Nat → St) (e : Ex) (tm' : List PV) (st' : St) : Prop :=
 (K = ds.length ∧ e = .normal ∧ tm' = tms K ∧ st' = sts K) ∨
 (K + 1 = ds.length ∧ ∃ d v st2,ds[K]? = some d ∧ wants (tms K) d.guard = true ∧ stepOp E rec (tms K) { sts K with lo := (sts K).heap.length } d.op = some (.panic v st2) ∧ e = .panic v ∧ tm' = tms K ∧ st' = { st2 with lo := min (sts K).lo st2.lo })
def cons' {α : Type} (x : α) (f : Nat → α) : Nat → α
 | 0 => x
 | n + 1 => f n
theorem Trace.cons {d : DOper} {K : Nat} {tms : Nat → List PV} {sts : Nat → St} {vs : Nat → PV} {fo : Nat → Foot} {v : PV} {f : Foot} {st1 : St} (h1 : StepAt E rec tm st d v st1 f) (h : Trace E rec ds (put tm d.dst v) st1 K tms sts vs fo) :
  Trace E rec (d :: ds) tm st (K + 1) (cons' tm tms) (cons' st sts) (cons' v vs) (cons' f fo) := by
 refine ⟨rfl,rfl,by have := h.le;simp;omega,fun j d' hj hd => ?_⟩
 cases j with
 | zero =>
  simp at hd;subst hd
  refine ⟨?_,?_⟩
  ·show StepAt E rec tm st d v (sts 0) f
   rw [h.z2];exact h1
  ·show tms 0 = _
   rw [h.z1];rfl
 | succ j => exact h.step j d' (by omega) (by simpa using hd)
theorem trace_of : ∀ {ds : List DOper} {tm : List PV} {st : St} {e : Ex} {tm' : List PV} {st' : St} {fs : List Foot},stepOpsD E rec ds tm st = some (e,tm',st',fs) →
  ∃ K tms sts vs fo,Trace E rec ds tm st K tms sts vs fo ∧ TEnd E rec ds K tms sts e tm' st' ∧ ∀ j,j < K → fs[j]? = some (fo j)
 | [],tm,st,e,tm',st',fs,h => by
  simp only [stepOpsD] at h;cases h
  exact ⟨0,fun _ => tm,fun _ => st,fun _ => undef,fun _ => .quiet,⟨rfl,rfl,Nat.le_refl _,fun j d hj => by omega⟩,.inl ⟨rfl,rfl,rfl,rfl⟩,fun j hj => by omega⟩
 | d :: ds,tm,st,e,tm',st',fs,h => by
  have fin : ∀ {v : PV} {st1 : St} {f : Foot} {fs1 : List Foot},StepAt E rec tm st d v st1 f → stepOpsD E rec ds (put tm d.dst v) st1 = some (e,tm',st',fs1) → fs = f :: fs1 →
    ∃ K tms sts vs fo,Trace E rec (d :: ds) tm st K tms sts vs fo ∧ TEnd E rec (d :: ds) K tms sts e tm' st' ∧ ∀ j,j < K → fs[j]? = some (fo j) := by
   intro v st1 f fs1 h1 h2 h3
   obtain ⟨K,tms,sts,vs,fo,t1,t2,t3⟩ := trace_of h2
   refine ⟨K + 1,cons' tm tms,cons' st sts,cons' v vs,cons' f fo,t1.cons h1,?_,fun j hj => ?_⟩
   ·rcases t2 with ⟨a1,a2,a3,a4⟩ | ⟨a1,d',v',st2,a2,a3,a4,a5,a6,a7⟩
    ·exact .inl ⟨by simp [a1],a2,a3,a4⟩
    ·exact .inr ⟨by simp [a1],d',v',st2,by simpa using a2,a3,a4,a5,a6,a7⟩
   ·subst h3
    cases j with
    | zero => rfl
    | succ j => show fs1[j]? = some (fo j);exact t3 j (by omega)
  simp only [stepOpsD] at h
  split at h
  ·rename_i hw
   split at h
   ·rename_i v st1 hs
    split at h
    ·rename_i hr;cases h
     exact fin (.inl ⟨hw,st1,hs,rfl,rfl⟩) hr rfl
    ·cases h
   ·rename_i v st1 hs
    split at h
    ·rename_i hemp
     cases h
     have hnil : ds = [] := List.isEmpty_iff.1 hemp
     subst hnil
     exact ⟨0,fun _ => tm,fun _ => st,fun _ => undef,fun _ => .quiet,⟨rfl,rfl,Nat.zero_le _,fun j d hj => by omega⟩,.inr ⟨rfl,d,v,st1,rfl,hw,hs,rfl,rfl,rfl⟩,fun j hj => by omega⟩
    ·cases h
   ·cases h
  ·rename_i hw
   split at h
   ·rename_i hr;cases h
    exact fin (.inr ⟨by simpa using hw,rfl,rfl,rfl⟩) hr rfl
   ·cases h
section
variable {K : Nat} {tms : Nat → List PV} {sts : Nat → St} {vs : Nat → PV} {fo : Nat → Foot} (T : Trace E rec ds tm st K tms sts vs fo)
include T
theorem Trace.get {j : Nat} (hj : j < K) : ∃ d,ds[j]? = some d := ⟨_,List.getElem?_eq_getElem (Nat.lt_of_lt_of_le hj T.le)⟩
theorem Trace.grow1 (hg : GrowCall rec) {j : Nat} (hj : j < K) : Grows (sts j) (sts (j + 1)) := by
 obtain ⟨d,hd⟩ := T.get hj
 rcases (T.step j d hj hd).1 with ⟨_,st2,h1,h2,_⟩ | ⟨_,_,h2,_⟩
 ·rw [h2]
  exact Grows.reset (stepOp_grows (r := .val (vs j) st2) hg (Nat.le_refl _) h1)
 ·rw [h2];exact .refl _
theorem Trace.grow (hg : GrowCall rec) {i : Nat} : ∀ {j : Nat},i ≤ j → j ≤ K → Grows (sts i) (sts j) := by
 intro j hij
 induction hij with
 | refl => exact fun _ => .refl _
 | @step j hij ih => exact fun hj => (ih (by omega)).trans (T.grow1 hg (by omega))
theorem Trace.calm {j : Nat} (hj : j < K) {d : DOper} (hd : ds[j]? = some d) (hw : isHeavy (weight d.op) = false) : (sts (j + 1)).heap = (sts j).heap := by
 rcases (T.step j d hj hd).1 with ⟨_,st2,h1,h2,_⟩ | ⟨_,_,h2,_⟩
 ·rw [h2]
  have hlt : weight d.op = 0 ∨ weight d.op = 1 := by
   unfold isHeavy at hw
   have : weight d.op ≤ 3 := by cases d.op <;> simp [weight]
   simp only [Bool.or_eq_false_iff,beq_eq_false_iff_ne] at hw
   omega
  rcases hlt with h | h
  ·obtain ⟨v,h3,_⟩ := light_val h h1;cases h3;rfl
  ·obtain ⟨v,h3,_⟩ := look_val h h1;cases h3;rfl
 ·rw [h2]
theorem Trace.made {j : Nat} (hj : j < K) {d : DOper} (hd : ds[j]? = some d) (hw : weight d.op = 3) : (wants (tms j) d.guard = true ∧ ∃ z,d.op = .alloc z ∧ (sts (j + 1)).heap = (sts j).heap ++ [.var z] ∧ vs j = .ptr (sts j).heap.length 0) ∨ (wants (tms j) d.guard = false ∧ (sts (j + 1)).heap = (sts j).heap ∧ vs j = undef) := by
 rcases (T.step j d hj hd).1 with ⟨hwt,st2,h1,h2,hfo⟩ | ⟨hwt,hv,h2,hfo⟩
 ·left
  obtain ⟨dop,dst,g⟩ := d
  cases dop <;> simp only [weight] at hw <;> first | (cases hw;done) | skip
  rename_i z
  simp only [stepOp,Option.some.injEq,OpR.val.injEq] at h1
  obtain ⟨h1a,h1b⟩ := h1
  rw [h2,← h1b]
  exact ⟨hwt,z,rfl,rfl,h1a.symm⟩
 ·exact .inr ⟨hwt,by rw [h2],hv⟩
theorem Trace.ext (i : Nat) : ∀ {j : Nat},i ≤ j → j ≤ K → (∀ x d,i ≤ x → x < j → ds[x]? = some d → weight d.op ≠ 2) → ∃ e,(sts j).heap = (sts i).heap ++ e := by
 intro j hij
 induction hij with
 | refl => exact fun _ _ => ⟨[],by simp⟩
 | @step j hij ih =>
  have hij' := Nat.le_trans (Nat.le_refl _) hij
  intro hj hx
  obtain ⟨e,he⟩ := ih (by omega) (fun x d h1 h2 h3 => hx x d h1 (by omega) h3)
  obtain ⟨d,hd⟩ := T.get (show j < K by omega)
  by_cases hh : isHeavy (weight d.op) = true
  ·have h3 : weight d.op = 3 := by
    have := hx j d hij (Nat.lt_succ_self _) hd
    unfold isHeavy at hh
    simp only [Bool.or_eq_true,beq_iff_eq] at hh
    omega
   rcases T.made (by omega) hd h3 with ⟨_,z,_,h4,_⟩ | ⟨_,h4,_⟩
   ·exact ⟨e ++ [.var z],by rw [h4,he];simp⟩
   ·exact ⟨e,by rw [h4,he]⟩
  ·exact ⟨e,by rw [T.calm (by omega) hd (by simpa using hh),he]⟩
theorem Trace.same (hg : GrowCall rec) {i l : Nat} (hl : l < (sts i).heap.length) : ∀ {j : Nat},i ≤ j → j ≤ K → (∀ x d,i ≤ x → x < j → ds[x]? = some d → weight d.op = 2 → clash l (fo x) = false) → (sts j).heap[l]? = (sts i).heap[l]? := by
 intro j hij
 induction hij with
 | refl => exact fun _ _ => rfl
 | @step j hij ih =>
  have hij' := Nat.le_trans (Nat.le_refl _) hij
  intro hj hx
  rw [← ih (by omega) (fun x d h1 h2 h3 h4 => hx x d h1 (by omega) h3 h4)]
  obtain ⟨d,hd⟩ := T.get (show j < K by omega)
  have hl' : l < (sts j).heap.length := Nat.lt_of_lt_of_le hl (T.grow hg hij (by omega)).2.1
  by_cases h2 : weight d.op = 2
  ·have hc := hx j d hij (Nat.lt_succ_self _) hd h2
   rcases (T.step j d (by omega) hd).1 with ⟨_,st2,h3,h4,h5⟩ | ⟨_,_,h4,_⟩
   ·rw [h5] at hc
    rw [h4]
    exact foot_sound h2 hg h3 hl' hc
   ·rw [h4]
  ·by_cases h3 : weight d.op = 3
   ·rcases T.made (by omega) hd h3 with ⟨_,z,_,h4,_⟩ | ⟨_,h4,_⟩
    ·rw [h4,List.getElem?_append_left hl']
    ·rw [h4]
   ·rw [T.calm (by omega) hd (by unfold isHeavy;simp [h2,h3])]
omit T in
theorem put_length (tm : List PV) (dst : Option Nat) (v : PV) : (put tm dst v).length = tm.length := by cases dst <;> simp [put]
theorem Trace.tlen {j : Nat} (hj : j ≤ K) : (tms j).length = tm.length := by
 induction j with
 | zero => rw [T.z1]
 | succ j ih =>
  obtain ⟨d,hd⟩ := T.get (show j < K by omega)
  rw [(T.step j d (by omega) hd).2,put_length,ih (by omega)]
theorem Trace.old {t : Nat} {j : Nat} (hj : j ≤ K) (hx : ∀ x d,x < j → ds[x]? = some d → d.dst ≠ some t) : (tms j)[t]? = tm[t]? := by
 induction j with
 | zero => rw [T.z1]
 | succ j ih =>
  obtain ⟨d,hd⟩ := T.get (show j < K by omega)
  have ih := ih (by omega) (fun x d h1 h2 => hx x d (by omega) h2)
  rw [← ih,(T.step j d (by omega) hd).2]
  have := hx j d (Nat.lt_succ_self _) hd
  cases hdst : d.dst with
  | none => rfl
  | some t' =>
   rw [hdst] at this
   simp only [put]
   rw [List.getElem?_set_ne (fun e => this (by rw [e]))]
theorem Trace.new {t i : Nat} (hi : i < K) {di : DOper} (hdi : ds[i]? = some di) (ht : di.dst = some t) (htl : t < tm.length) (huniq : ∀ x d,x ≠ i → ds[x]? = some d → d.dst ≠ some t) : ∀ {j : Nat},i + 1 ≤ j → j ≤ K → (tms j)[t]? = some (vs i) := by
 intro j hij
 induction hij with
 | refl =>
  intro hj
  rw [(T.step i di hi hdi).2,ht]
  simp only [put]
  rw [List.getElem?_set_self (by rw [T.tlen (by omega)];exact htl)]
 | @step j hij ih =>
  have hij' := Nat.le_trans (Nat.le_refl _) hij
  intro hj
  obtain ⟨d,hd⟩ := T.get (show j < K by omega)
  have ih := ih (by omega)
  rw [← ih,(T.step j d (by omega) hd).2]
  have := huniq j d (by omega) hd
  cases hdst : d.dst with
  | none => rfl
  | some t' =>
   rw [hdst] at this
   simp only [put]
   rw [List.getElem?_set_ne (fun e => this (by rw [e]))]
theorem Trace.next : ∀ (n x : Nat),K - x = n → x ≤ K → ∃ c,x ≤ c ∧ c ≤ K ∧ (c = K ∨ ∃ d,c < K ∧ ds[c]? = some d ∧ weight d.op = 2) ∧ ∀ y d,x ≤ y → y < c → ds[y]? = some d → weight d.op ≠ 2
 | 0,x,hn,hx => ⟨x,Nat.le_refl _,hx,.inl (by omega),fun y d h1 h2 => by omega⟩
 | n + 1,x,hn,hx => by
  obtain ⟨d,hd⟩ := T.get (show x < K by omega)
  by_cases h2 : weight d.op = 2
  ·exact ⟨x,Nat.le_refl _,hx,.inr ⟨d,by omega,hd,h2⟩,fun y d h1 h2 => by omega⟩
  ·obtain ⟨c,h3,h4,h5,h6⟩ := Trace.next n (x + 1) (by omega) (by omega)
   refine ⟨c,by omega,h4,h5,fun y d' h7 h8 h9 => ?_⟩
   by_cases hy : y = x
   ·subst hy;rw [hd] at h9;cases h9;exact h2
   ·exact h6 y d' (by omega) h8 h9
end
end
end Go.Den
end
section
namespace Go.Den
def Don (listed : Array Bool) (i : Nat) : Prop := listed.getD i false = true
theorem Don.set {listed : Array Bool} {i : Nat} (hi : i < listed.size) (x : Nat) : Don (listed.setIfInBounds i true) x ↔ x = i ∨ Don listed x := by
 unfold Don
 by_cases h : x = i
 ·subst h
  simp [Array.getD_eq_getD_getElem?,hi]
 ·simp only [h,false_or]
  rw [Array.getD_eq_getD_getElem?,Array.getD_eq_getD_getElem?,Array.getElem?_setIfInBounds_ne (Ne.symm h)]
structure Pend (B0 : Nat) (G : Gh) (w wS : World) (z : List PV) (b : Nat) : Prop where
 cell : ∃ (arr : Array Value) (T : TypeId),w.heap[b]? = some (Obj.cells arr T (0,0)) ∧ ∀ G w,VRL G w z arr.toList
 lowB : B0 ≤ b
 low : wS.heap.size ≤ b
 be : ∀ l,G.be l ≠ some b
 tg : ∀ t e,G.tg t ≠ some (b,e)
 cm : G.cm b = none
theorem Pend.lt {B0 G w wS z b} (h : Pend B0 G w wS z b) : b < w.heap.size := by
 obtain ⟨arr,T,h1,_⟩ := h.cell
 exact lt_of_heap h1
theorem Pend.ext {B0 G w wS z b h h' G' w' lo} (p : Pend B0 G w wS z b) (x : Ext G h w G' h' w' lo) : Pend B0 G' w' wS z b := by
 have hlt := p.lt
 refine ⟨?_,p.lowB,p.low,fun l e => ?_,fun t e he => ?_,?_⟩
 ·obtain ⟨arr,T,h1,h2⟩ := p.cell
  exact ⟨arr,T,by rw [x.frame hlt p.be p.tg p.cm];exact h1,h2⟩
 ·cases hb : G.be l with
  | none => have := (x.nbe e hb).2;omega
  | some b' => have := x.pres.be hb;rw [e] at this;cases this;exact p.be l hb
 ·cases hb : G.tg t with
  | none =>
   rcases (x.ntg he hb).2 with h8 | ⟨t',e',h8⟩
   ·omega
   ·exact p.tg t' e' h8
  | some q => have := x.pres.tg hb;rw [he] at this;cases this;exact p.tg t e hb
 ·cases hc : G'.cm b with
  | none => rfl
  | some k =>
   rcases x.ncm hc p.cm with h8 | ⟨t',e',h8⟩
   ·omega
   ·exact absurd h8 (p.tg t' e')
theorem Pend.upd {B0 G w wS z b l0 b' w'} (p : Pend B0 G w wS z b) (hne : b ≠ b') (hw : w'.heap[b]? = w.heap[b]?) : Pend B0 { G with be := upd G.be l0 (some b') } w' wS z b := by
 refine ⟨?_,p.lowB,p.low,fun l e => ?_,p.tg,p.cm⟩
 ·obtain ⟨arr,T,h1,h2⟩ := p.cell
  exact ⟨arr,T,by rw [hw];exact h1,h2⟩
 ·have e' : Den.upd G.be l0 (some b') l = some b := e
  by_cases hl : l = l0
  ·subst hl;rw [upd_same] at e';cases e';exact hne rfl
  ·rw [upd_ne _ _ hl] at e';exact p.be l e'
theorem Pend.alloc {B0 G w wS z b} (p : Pend B0 G w wS z b) (o : Obj) : Pend B0 G (w.alloc o) wS z b := by
 obtain ⟨arr,T,h1,h2⟩ := p.cell
 exact ⟨⟨arr,T,by rw [heap_alloc_lt _ _ p.lt];exact h1,h2⟩,p.lowB,p.low,p.be,p.tg,p.cm⟩
section
variable (P : Program) (B0 : Nat) (w0 : World) (B : Nat) (ds : List DOper) (pl : List (List Nat)) (tm : List PV) (st : St) (K : Nat) (tms : Nat → List PV) (sts : Nat → St) (vs : Nat → PV) (GS : Gh) (wS : World) (lo : Nat)
def IsP (tms : Nat → List PV) (c i : Nat) (d : DOper) : Prop := c ≤ i ∧ weight d.op = 3 ∧ wants (tms i) d.guard = true
structure Inv0 (listed : Array Bool) (a : Act) (w : World) (c : Nat) (G : Gh) (tmS : List PV) (pb : Nat → Nat) : Prop where
 sz : listed.size = ds.length
 closed : Closed pl (Don listed)
 cK : c ≤ K
 cD : ∀ (i : Nat) (d : DOper),i < c → ds[i]? = some d → weight d.op = 2 → Don listed i
 SK : ∀ i,Don listed i → i < K
 wr : WR P B0 w0 G (sts c).heap w
 hole : ∀ (i : Nat) (d : DOper),i < c → ds[i]? = some d → weight d.op = 3 → wants (tms i) d.guard = true → ¬ Don listed i → G.be (sts i).heap.length = none ∧ G.tg (sts i).heap.length = none
 ext : Ext GS st.heap wS G (sts c).heap w lo
 tl : tmS.length = tm.length
 tv : VRL G w tmS a.tmps.toList
 tn : ∀ (i : Nat) (d : DOper) (t : Nat),Don listed i → ds[i]? = some d → d.dst = some t → t < tm.length → ¬ IsP tms c i d → tmS[t]? = some (vs i)
 tp : ∀ (i : Nat) (d : DOper) (t : Nat),Don listed i → ds[i]? = some d → d.dst = some t → t < tm.length → IsP tms c i d → a.tmps.toList[t]? = some (.pointer (some ⟨pb i,0,none⟩))
 pend : ∀ (i : Nat) (d : DOper),Don listed i → ds[i]? = some d → IsP tms c i d → ∃ z,d.op = .alloc z ∧ Pend B0 G w wS z (pb i)
 pinj : ∀ (i j : Nat) (d d' : DOper),Don listed i → ds[i]? = some d → IsP tms c i d → Don listed j → ds[j]? = some d' → IsP tms c j d' → pb i = pb j → i = j
 told : ∀ t,(∀ (i : Nat) (d : DOper),Don listed i → ds[i]? = some d → d.dst ≠ some t) → tmS[t]? = tm[t]?
 df : DefsOK B G w a.defers w.heap.size
structure Inv (listed : Array Bool) (a : Act) (w : World) (c : Nat) (G : Gh) (tmS : List PV) (pb : Nat → Nat) : Prop extends Inv0 P B0 w0 B ds pl tm st K tms sts vs GS wS lo listed a w c G tmS pb where
 cN : c = K ∨ ∃ d,c < K ∧ ds[c]? = some d ∧ weight d.op = 2 ∧ ¬ Don listed c
end
section
variable {P : Program} {B0 : Nat} {w0 : World} {B : Nat} {ds : List DOper} {pl : List (List Nat)} {tm : List PV} {st : St} {K : Nat} {tms : Nat → List PV} {sts : Nat → St} {vs : Nat → PV} {GS : Gh} {wS : World} {lo : Nat} {E : Env} {rec : Rec} {fo : Nat → Foot} {mu : TypeId → Bool} {ops : Array Oper} {free : List (Nat × List Nat)}
 {listed : Array Bool} {a : Act} {w : World} {c : Nat} {G : Gh} {tmS : List PV} {pb : Nat → Nat}
theorem Inv.turn0 (C : Checked P mu ops ds pl free) (I : Inv P B0 w0 B ds pl tm st K tms sts vs GS wS lo listed a w c G tmS pb) {i : Nat} {d : DOper} (hi : ds[i]? = some d) (hiK : i ≤ K) (hw : weight d.op = 2) (hp : ∀ p ∈ pl.getD i [],Don listed p) : i ≤ c := by
 rcases Nat.lt_or_ge c i with h | h
 ·rcases I.cN with h1 | ⟨d',h1,h2,h3,h4⟩
  ·omega
  ·exact absurd (ordered_closed I.closed (C.heavy c i d' d h h2 hi (by unfold isHeavy;simp [h3]) (by unfold isHeavy;simp [hw]) (by omega)) hp) h4
 ·exact h
theorem Inv.agree (T : Trace E rec ds tm st K tms sts vs fo) (C : Checked P mu ops ds pl free) (I : Inv P B0 w0 B ds pl tm st K tms sts vs GS wS lo listed a w c G tmS pb) {j : Nat} {d : DOper} (hj : ds[j]? = some d) (hK : j ≤ K) (hn : ¬ Don listed j) (hp : ∀ p ∈ pl.getD j [],Don listed p) : Agree tmS (tms j) d.reads := by
 intro t ht
 by_cases hwr : ∃ (i : Nat) (di : DOper),ds[i]? = some di ∧ di.dst = some t
 ·obtain ⟨i,di,hi,hd⟩ := hwr
  have uniq : ∀ (x : Nat) (dx : DOper),x ≠ i → ds[x]? = some dx → dx.dst ≠ some t := fun x dx hx hdx => C.once i x di dx t (Ne.symm hx) hi hdx hd
  by_cases hij : i < j
  ·have hS : Don listed i := ordered_closed I.closed ((C.data i j di d t (by omega) hi hj hd ht).1 hij) hp
   have hnp : ¬ IsP tms c i di := by
    rintro ⟨h1,h2,h3⟩
    rcases C.rd i j di d t hi hj h2 hd ht with h4 | h4
    ·have := I.turn0 C hj hK h4 hp
     omega
    ·rcases I.cN with h5 | ⟨d',h5,h6,h7,h8⟩
     ·have := I.SK i hS
      omega
     ·have hci : c ≠ i := by rintro rfl;rw [hi] at h6;cases h6;omega
      exact h8 (ordered_in I.closed (h4 c d' (by omega) h6 h7) hS)
   by_cases htl : t < tm.length
   ·rw [I.tn i di t hS hi hd htl hnp,T.new (by omega) hi hd htl uniq (by omega) hK]
   ·rw [List.getElem?_eq_none (by rw [I.tl];omega),List.getElem?_eq_none (by rw [T.tlen hK];omega)]
  ·have hS : ¬ Don listed i := by
    intro h
    by_cases he : i = j
    ·subst he;exact hn h
    ·exact hn (ordered_in I.closed ((C.data i j di d t he hi hj hd ht).2 (by omega)) h)
   rw [I.told t (fun x dx h1 h2 h3 => by
    by_cases hx : x = i
    ·subst hx;exact hS h1
    ·exact uniq x dx hx h2 h3),T.old hK (fun x dx h1 h2 => uniq x dx (by omega) h2)]
 ·have h : ∀ (x : Nat) (dx : DOper),ds[x]? = some dx → dx.dst ≠ some t := fun x dx h1 h2 => hwr ⟨x,dx,h1,h2⟩
  rw [I.told t (fun x dx _ h2 => h x dx h2),T.old hK (fun x dx _ h2 => h x dx h2)]
theorem act_put_get {a : Act} {dst : Option Nat} {u : Value} {t : Nat} : (a.put dst u).tmps.toList[t]? = if dst = some t ∧ t < a.tmps.toList.length then some u else a.tmps.toList[t]? := by
 cases dst with
 | none => simp [Act.put]
 | some d =>
  simp only [Act.put,Array.toList_setIfInBounds,Option.some.injEq]
  by_cases h : d = t
  ·subst h
   by_cases h2 : d < a.tmps.toList.length
   ·rw [List.getElem?_set_self h2,if_pos ⟨rfl,h2⟩]
   ·rw [if_neg (fun h => h2 h.2),List.getElem?_eq_none (by simpa using h2),List.getElem?_eq_none (by simpa using h2)]
  ·rw [List.getElem?_set_ne h,if_neg (fun h' => h h'.1)]
theorem Inv0.put (C : Checked P mu ops ds pl free) (I : Inv0 P B0 w0 B ds pl tm st K tms sts vs GS wS lo listed a w c G tmS pb) {i : Nat} {d : DOper} (hi : ds[i]? = some d) (hiK : i < K) (hn : ¬ Don listed i) (hp : ∀ p ∈ pl.getD i [],Don listed p)
  {c' : Nat} {G' : Gh} {w' : World} {u : Value} {x : PV} (b : Nat) (hc1 : c' ≤ K) (hcc : ∀ (x : Nat) (d : DOper),ds[x]? = some d → weight d.op = 3 → (c' ≤ x ↔ c ≤ x)) (hc3 : ∀ (x : Nat) (d : DOper),x < c' → ds[x]? = some d → weight d.op = 2 → Don (listed.setIfInBounds i true) x)
  (hwr : WR P B0 w0 G' (sts c').heap w') (hhole : ∀ (x : Nat) (d : DOper),x < c' → ds[x]? = some d → weight d.op = 3 → wants (tms x) d.guard = true → ¬ Don (listed.setIfInBounds i true) x → G'.be (sts x).heap.length = none ∧ G'.tg (sts x).heap.length = none)
  (hext : Ext GS st.heap wS G' (sts c').heap w' lo) (hpres : Pres G w G' w') (hpe : ∀ z b,Pend B0 G w wS z b → Pend B0 G' w' wS z b) (hv : VR G' w' x u) (hdf : DefsOK B G' w' a.defers w'.heap.size)
  (hx1 : ¬ IsP tms c i d → x = vs i) (hx2 : IsP tms c i d → u = .pointer (some ⟨b,0,none⟩) ∧ (∃ z,d.op = .alloc z ∧ Pend B0 G' w' wS z b) ∧ w.heap.size ≤ b) :
  Inv0 P B0 w0 B ds pl tm st K tms sts vs GS wS lo (listed.setIfInBounds i true) (a.put d.dst u) w' c' G' (Den.put tmS d.dst x) (upd pb i b) := by
 have hlt : i < listed.size := by rw [I.sz];exact (List.getElem?_eq_some_iff.1 hi).1
 have hD := Don.set hlt
 have hIP : ∀ {j : Nat} {dj : DOper},ds[j]? = some dj → (IsP tms c' j dj ↔ IsP tms c j dj) := fun {j dj} hj => by
  unfold IsP
  constructor
  ·rintro ⟨h1,h2,h3⟩;exact ⟨(hcc j dj hj h2).1 h1,h2,h3⟩
  ·rintro ⟨h1,h2,h3⟩;exact ⟨(hcc j dj hj h2).2 h1,h2,h3⟩
 have hpl : ∀ {j : Nat} {dj : DOper},j ≠ i → Don (listed.setIfInBounds i true) j → ds[j]? = some dj → IsP tms c' j dj → Don listed j ∧ IsP tms c j dj ∧ (∃ z,dj.op = .alloc z ∧ Pend B0 G w wS z (pb j)) := fun {j dj} hji hj hdj hpj => by
  have h1 := ((hD j).1 hj).resolve_left hji
  have h2 := (hIP hdj).1 hpj
  exact ⟨h1,h2,I.pend j dj h1 hdj h2⟩
 refine ⟨by rw [Array.size_setIfInBounds];exact I.sz,fun j hj p hpj => ?_,hc1,hc3,fun j hj => ?_,hwr,hhole,hext,by rw [put_length];exact I.tl,put_ok (VRL.mono hpres I.tv) hv _,fun j dj t hj hdj hdt htl hnp => ?_,fun j dj t hj hdj hdt htl hpj => ?_,fun j dj hj hdj hpj => ?_,fun j k dj dk hj hdj hpj hk hdk hpk he => ?_,fun t ht => ?_,by rw [put_defers];exact hdf⟩
 ·rw [hD]
  rcases (hD j).1 hj with rfl | hj
  ·exact .inr (hp p hpj)
  ·exact .inr (I.closed j hj p hpj)
 ·rcases (hD j).1 hj with rfl | hj
  ·exact hiK
  ·exact I.SK j hj
 ·rw [hIP hdj] at hnp
  by_cases hji : j = i
  ·subst hji
   rw [hi] at hdj;cases hdj
   rw [hdt]
   simp only [Den.put]
   rw [List.getElem?_set_self (by rw [I.tl];exact htl),hx1 hnp]
  ·have hj' := ((hD j).1 hj).resolve_left hji
   have hne := C.once j i dj d t hji hdj hi hdt
   rw [← I.tn j dj t hj' hdj hdt htl hnp]
   cases hd2 : d.dst with
   | none => rfl
   | some t' =>
    rw [hd2] at hne
    simp only [Den.put]
    rw [List.getElem?_set_ne (fun e => hne (by rw [e]))]
 ·rw [act_put_get]
  by_cases hji : j = i
  ·subst hji
   rw [hi] at hdj;cases hdj
   rw [if_pos ⟨hdt,by rw [VRL.length I.tv,I.tl];exact htl⟩,(hx2 ((hIP hi).1 hpj)).1,upd_same]
  ·obtain ⟨h1,h2,_⟩ := hpl hji hj hdj hpj
   rw [if_neg (fun h => C.once j i dj d t hji hdj hi hdt h.1),upd_ne _ _ hji]
   exact I.tp j dj t h1 hdj hdt htl h2
 ·by_cases hji : j = i
  ·subst hji
   rw [hi] at hdj;cases hdj
   rw [upd_same]
   exact (hx2 ((hIP hi).1 hpj)).2.1
  ·obtain ⟨_,_,z,h3,h4⟩ := hpl hji hj hdj hpj
   rw [upd_ne _ _ hji]
   exact ⟨z,h3,hpe z _ h4⟩
 ·by_cases hji : j = i <;> by_cases hki : k = i
  ·omega
  ·exfalso
   subst hji
   rw [hi] at hdj;cases hdj
   obtain ⟨_,_,z,h3,h4⟩ := hpl hki hk hdk hpk
   have h5 := (hx2 ((hIP hi).1 hpj)).2.2
   rw [upd_same,upd_ne _ _ hki] at he
   have := h4.lt
   omega
  ·exfalso
   subst hki
   rw [hi] at hdk;cases hdk
   obtain ⟨_,_,z,h3,h4⟩ := hpl hji hj hdj hpj
   have h5 := (hx2 ((hIP hi).1 hpk)).2.2
   rw [upd_same,upd_ne _ _ hji] at he
   have := h4.lt
   omega
  ·obtain ⟨h1,h2,_⟩ := hpl hji hj hdj hpj
   obtain ⟨h3,h4,_⟩ := hpl hki hk hdk hpk
   rw [upd_ne _ _ hji,upd_ne _ _ hki] at he
   exact I.pinj j k dj dk h1 hdj h2 h3 hdk h4 he
 ·have hne := ht i d ((hD i).2 (.inl rfl)) hi
  rw [← I.told t (fun x dx h1 h2 => ht x dx ((hD x).2 (.inr h1)) h2)]
  cases hd2 : d.dst with
  | none => rfl
  | some t' =>
   rw [hd2] at hne
   simp only [Den.put]
   rw [List.getElem?_set_ne (fun e => hne (by rw [e]))]
theorem sub_not {i x : Nat} (hlt : i < listed.size) (h : ¬ Don (listed.setIfInBounds i true) x) : x ≠ i ∧ ¬ Don listed x := by
 have := Don.set hlt x
 exact ⟨fun e => h (this.2 (.inl e)),fun e => h (this.2 (.inr e))⟩
theorem made_lt (T : Trace E rec ds tm st K tms sts vs fo) {x : Nat} {dx : DOper} (hx : x < K) (hdx : ds[x]? = some dx) (hwx : weight dx.op = 3) (hwt : wants (tms x) dx.guard = true) : (sts (x + 1)).heap.length = (sts x).heap.length + 1 := by
 rcases T.made hx hdx hwx with ⟨_,z,_,h,_⟩ | ⟨h,_⟩
 ·rw [h];simp
 ·rw [hwt] at h;cases h
theorem fill_tv {G : Gh} {w : World} {tmS : List PV} {vs : List Value} {dst : Option Nat} {p : PV} {u : Value} (h : VRL G w tmS vs) (hp : VR G w p u) (hu : ∀ t,dst = some t → t < tmS.length → vs[t]? = some u) : VRL G w (put tmS dst p) vs := by
 cases dst with
 | none => exact h
 | some t =>
  simp only [put]
  by_cases ht : t < tmS.length
  ·have h1 := hu t rfl ht
   have h2 := h.set (i := t) hp
   have h3 : vs.set t u = vs := by
    refine List.ext_getElem? (fun i => ?_)
    by_cases hi : i = t
    ·subst hi
     rw [h1,List.getElem?_set_self (by rw [VRL.length h];exact ht)]
    ·rw [List.getElem?_set_ne (Ne.symm hi)]
   rw [h3] at h2
   exact h2
  ·rw [List.set_eq_of_length_le (by omega)]
   exact h
theorem Inv0.next (T : Trace E rec ds tm st K tms sts vs fo) (C : Checked P mu ops ds pl free) (hgr : GrowCall rec) (I : Inv0 P B0 w0 B ds pl tm st K tms sts vs GS wS lo listed a w c G tmS pb) (hcK : c < K) {d : DOper} (hd : ds[c]? = some d) (hw2 : weight d.op ≠ 2) :
  ∃ G' tmS',Inv0 P B0 w0 B ds pl tm st K tms sts vs GS wS lo listed a w (c + 1) G' tmS' pb := by
 have hcD : ∀ (i : Nat) (d : DOper),i < c + 1 → ds[i]? = some d → weight d.op = 2 → Don listed i := fun i di h1 h2 h3 => by
  by_cases hic : i = c
  ·subst hic;rw [hd] at h2;cases h2;exact absurd h3 hw2
  ·exact I.cD i di (by omega) h2 h3
 by_cases hal : weight d.op = 3 ∧ wants (tms c) d.guard = true
 ·obtain ⟨h3,hwt⟩ := hal
  obtain ⟨z,hz,hh,hv⟩ : ∃ z,d.op = .alloc z ∧ (sts (c + 1)).heap = (sts c).heap ++ [.var z] ∧ vs c = .ptr (sts c).heap.length 0 := by
   rcases T.made hcK hd h3 with ⟨_,h⟩ | ⟨h,_⟩
   ·exact h
   ·rw [hwt] at h;cases h
  have hwr' : WR P B0 w0 G (sts (c + 1)).heap w := by rw [hh];exact I.wr.pad _
  have hext' : Ext GS st.heap wS G (sts (c + 1)).heap w lo := by rw [hh];exact I.ext.pad _
  have hIP : ∀ {j : Nat} {dj : DOper},j ≠ c → (IsP tms (c + 1) j dj ↔ IsP tms c j dj) := fun {j dj} hj => by
   unfold IsP
   constructor
   ·rintro ⟨h1,h2⟩;exact ⟨by omega,h2⟩
   ·rintro ⟨h1,h2⟩;exact ⟨by omega,h2⟩
  have hIc : ∀ {dj : DOper},¬ IsP tms (c + 1) c dj := fun h => by have := h.1;omega
  have hbe0 := (I.wr.dom (Nat.le_refl (sts c).heap.length)).1
  by_cases hS : Don listed c
  · -- it has been made
   obtain ⟨z',hz',hp⟩ := I.pend c d hS hd ⟨Nat.le_refl _,h3,hwt⟩
   rw [hz] at hz';cases hz'
   obtain ⟨arr,T0,hcell,hzr⟩ := hp.cell
   have hget : (sts (c + 1)).heap[(sts c).heap.length]? = some (.var z) := by rw [hh];simp
   obtain ⟨k1,k2,k3⟩ := fillB_ok hwr' hbe0 (.var z) hget hp.lowB hp.lt hp.be hp.tg hp.cm (fun G' _ _ => ⟨arr,T0,hcell,hzr _ _⟩)
   refine ⟨{ G with be := upd G.be (sts c).heap.length (some (pb c)) },Den.put tmS d.dst (vs c),I.sz,I.closed,hcK,hcD,I.SK,k1,fun x dx hx hdx hwx hwtx hnx => ?_,k3 _ _ _ _ hext' ?_ hp.low,by rw [put_length];exact I.tl,fill_tv (VRL.mono k2 I.tv) (u := .pointer (some ⟨pb c,0,none⟩)) ?_ (fun t ht htl => ?_),fun j dj t hj hdj hdt htl hnp => ?_,fun j dj t hj hdj hdt htl hpj => ?_,fun j dj hj hdj hpj => ?_,fun j k dj dk hj hdj hpj hk hdk hpk he => ?_,fun t ht => ?_,I.df.fill hcell⟩
   ·have hxc : x ≠ c := fun e => hnx (e ▸ hS)
    obtain ⟨q1,q2⟩ := I.hole x dx (by omega) hdx hwx hwtx hnx
    refine ⟨?_,q2⟩
    show upd _ _ _ _ = _
    rw [upd_ne]
    ·exact q1
    ·have h4 := made_lt T (by omega) hdx hwx hwtx
     have h5 := (T.grow hgr (show x + 1 ≤ c by omega) I.cK).2.1
     omega
   ·have := (T.grow hgr (Nat.zero_le c) I.cK).2.1;rw [T.z2] at this;exact this
   ·rw [hv]
    simp only [VR]
    exact ⟨_,upd_same _ _ _,rfl⟩
   ·exact I.tp c d t hS hd ht (by rw [← I.tl];exact htl) ⟨Nat.le_refl _,h3,hwt⟩
   ·by_cases hjc : j = c
    ·subst hjc
     rw [hd] at hdj;cases hdj
     rw [hdt]
     simp only [Den.put]
     rw [List.getElem?_set_self (by rw [I.tl];exact htl)]
    ·rw [← I.tn j dj t hj hdj hdt htl (fun h => hnp ((hIP hjc).2 h))]
     have hne := C.once j c dj d t hjc hdj hd hdt
     cases hd2 : d.dst with
     | none => rfl
     | some t' =>
      rw [hd2] at hne
      simp only [Den.put]
      rw [List.getElem?_set_ne (fun e => hne (by rw [e]))]
   ·have hjc : j ≠ c := fun e => hIc (e ▸ hpj)
    exact I.tp j dj t hj hdj hdt htl ((hIP hjc).1 hpj)
   ·have hjc : j ≠ c := fun e => hIc (e ▸ hpj)
    have hpj' := (hIP hjc).1 hpj
    obtain ⟨z',h4,h5⟩ := I.pend j dj hj hdj hpj'
    refine ⟨z',h4,h5.upd (fun e => hjc (I.pinj j c dj d hj hdj hpj' hS hd ⟨Nat.le_refl _,h3,hwt⟩ e)) rfl⟩
   ·have hjc : j ≠ c := fun e => hIc (e ▸ hpj)
    have hkc : k ≠ c := fun e => hIc (e ▸ hpk)
    exact I.pinj j k dj dk hj hdj ((hIP hjc).1 hpj) hk hdk ((hIP hkc).1 hpk) he
   ·have hne := ht c d hS hd
    rw [← I.told t ht]
    cases hd2 : d.dst with
    | none => rfl
    | some t' =>
     rw [hd2] at hne
     simp only [Den.put]
     rw [List.getElem?_set_ne (fun e => hne (by rw [e]))]
  · -- its place is kept free
   refine ⟨G,tmS,I.sz,I.closed,hcK,hcD,I.SK,hwr',fun x dx hx hdx hwx hwtx hnx => ?_,hext',I.tl,I.tv,fun j dj t hj hdj hdt htl hnp => ?_,fun j dj t hj hdj hdt htl hpj => ?_,fun j dj hj hdj hpj => ?_,fun j k dj dk hj hdj hpj hk hdk hpk he => ?_,I.told,I.df⟩
   ·by_cases hxc : x = c
    ·subst hxc;exact I.wr.dom (Nat.le_refl _)
    ·exact I.hole x dx (by omega) hdx hwx hwtx hnx
   ·have hjc : j ≠ c := fun e => hS (e ▸ hj)
    exact I.tn j dj t hj hdj hdt htl (fun h => hnp ((hIP hjc).2 h))
   ·have hjc : j ≠ c := fun e => hS (e ▸ hj)
    exact I.tp j dj t hj hdj hdt htl ((hIP hjc).1 hpj)
   ·have hjc : j ≠ c := fun e => hS (e ▸ hj)
    exact I.pend j dj hj hdj ((hIP hjc).1 hpj)
   ·have hjc : j ≠ c := fun e => hS (e ▸ hj)
    have hkc : k ≠ c := fun e => hS (e ▸ hk)
    exact I.pinj j k dj dk hj hdj ((hIP hjc).1 hpj) hk hdk ((hIP hkc).1 hpk) he
 · -- nothing is made
  have hh : (sts (c + 1)).heap = (sts c).heap := by
   by_cases h3 : weight d.op = 3
   ·rcases T.made hcK hd h3 with ⟨h,_⟩ | ⟨_,h,_⟩
    ·exact absurd ⟨h3,h⟩ hal
    ·exact h
   ·exact T.calm hcK hd (by unfold isHeavy;simp [hw2,h3])
  have hIP : ∀ {j : Nat} {dj : DOper},ds[j]? = some dj → (IsP tms (c + 1) j dj ↔ IsP tms c j dj) := fun {j dj} hdj => by
   unfold IsP
   constructor
   ·rintro ⟨h1,h2⟩;exact ⟨by omega,h2⟩
   ·rintro ⟨h1,h2⟩
    have hjc : j ≠ c := fun e => by subst e;rw [hd] at hdj;cases hdj;exact hal h2
    exact ⟨by omega,h2⟩
  refine ⟨G,tmS,I.sz,I.closed,hcK,hcD,I.SK,by rw [hh];exact I.wr,fun x dx hx hdx hwx hwtx hnx => ?_,by rw [hh];exact I.ext,I.tl,I.tv,fun j dj t hj hdj hdt htl hnp => ?_,fun j dj t hj hdj hdt htl hpj => ?_,fun j dj hj hdj hpj => ?_,fun j k dj dk hj hdj hpj hk hdk hpk he => ?_,I.told,I.df⟩
  ·by_cases hxc : x = c
   ·subst hxc;rw [hd] at hdx;cases hdx;exact absurd ⟨hwx,hwtx⟩ hal
   ·exact I.hole x dx (by omega) hdx hwx hwtx hnx
  ·exact I.tn j dj t hj hdj hdt htl (fun h => hnp ((hIP hdj).2 h))
  ·exact I.tp j dj t hj hdj hdt htl ((hIP hdj).1 hpj)
  ·exact I.pend j dj hj hdj ((hIP hdj).1 hpj)
  ·exact I.pinj j k dj dk hj hdj ((hIP hdj).1 hpj) hk hdk ((hIP hdk).1 hpk) he
theorem Inv0.run (T : Trace E rec ds tm st K tms sts vs fo) (C : Checked P mu ops ds pl free) (hgr : GrowCall rec) : ∀ (n : Nat) {c : Nat} {G : Gh} {tmS : List PV},Inv0 P B0 w0 B ds pl tm st K tms sts vs GS wS lo listed a w c G tmS pb → c + n ≤ K → (∀ y d,c ≤ y → y < c + n → ds[y]? = some d → weight d.op ≠ 2) →
  ∃ G' tmS',Inv0 P B0 w0 B ds pl tm st K tms sts vs GS wS lo listed a w (c + n) G' tmS' pb
 | 0,c,G,tmS,I,_,_ => ⟨G,tmS,I⟩
 | n + 1,c,G,tmS,I,h1,h2 => by
  obtain ⟨d,hd⟩ := T.get (show c < K by omega)
  obtain ⟨G1,tm1,I1⟩ := I.next T C hgr (by omega) hd (h2 c d (Nat.le_refl _) (by omega) hd)
  have := Inv0.run T C hgr n I1 (by omega) (fun y d h3 h4 h5 => h2 y d (by omega) (by omega) h5)
  rw [show c + (n + 1) = c + 1 + n by omega]
  exact this
theorem Inv0.to (T : Trace E rec ds tm st K tms sts vs fo) (C : Checked P mu ops ds pl free) (hgr : GrowCall rec) (I : Inv0 P B0 w0 B ds pl tm st K tms sts vs GS wS lo listed a w c G tmS pb) (hN : ∀ (x : Nat) (d : DOper),c ≤ x → x < K → ds[x]? = some d → weight d.op = 2 → ¬ Don listed x) :
  ∃ c' G' tmS',Inv P B0 w0 B ds pl tm st K tms sts vs GS wS lo listed a w c' G' tmS' pb := by
 obtain ⟨c',h1,h2,h3,h4⟩ := T.next _ c rfl I.cK
 obtain ⟨n,rfl⟩ : ∃ n,c' = c + n := ⟨c' - c,by omega⟩
 obtain ⟨G',tmS',I'⟩ := I.run T C hgr n h2 h4
 refine ⟨_,G',tmS',I',?_⟩
 rcases h3 with h3 | ⟨d,h5,h6,h7⟩
 ·exact .inl h3
 ·exact .inr ⟨d,h5,h6,h7,hN _ d (by omega) h5 h6 h7⟩
theorem Inv.advance (T : Trace E rec ds tm st K tms sts vs fo) (C : Checked P mu ops ds pl free) (I : Inv P B0 w0 B ds pl tm st K tms sts vs GS wS lo listed a w c G tmS pb) {d : DOper} (hc : ds[c]? = some d) (hcK : c < K) (hw2 : weight d.op = 2) (hn : ¬ Don listed c) (hp : ∀ p ∈ pl.getD c [],Don listed p)
  {G' : Gh} {w' : World} {u : Value} (hwr : WR P B0 w0 G' (sts (c + 1)).heap w') (hext : Ext GS st.heap wS G' (sts (c + 1)).heap w' lo) (hpres : Pres G w G' w') (hpe : ∀ z b,Pend B0 G w wS z b → Pend B0 G' w' wS z b) (hv : VR G' w' (vs c) u) (hdf : DefsOK B G' w' a.defers w'.heap.size) (hgr : GrowCall rec) :
  ∃ c' G' tmS' pb',Inv P B0 w0 B ds pl tm st K tms sts vs GS wS lo (listed.setIfInBounds c true) (a.put d.dst u) w' c' G' tmS' pb' := by
 have hlt : c < listed.size := by rw [I.sz];exact (List.getElem?_eq_some_iff.1 hc).1
 have I1 := I.toInv0.put C hc hcK hn hp (c' := c + 1) (G' := G') (w' := w') (u := u) (x := vs c) 0 hcK (fun x dx hdx hwx => ?_) (fun x dx hx hdx hwx => ?_) hwr (fun x dx hx hdx hwx hwt hnx => ?_) hext hpres hpe hv hdf (fun _ => rfl) (fun h => by have := h.2.1;omega)
 ·obtain ⟨c',G'',tmS',I2⟩ := I1.to T C hgr (fun x dx h1 h2 h3 h4 hS => by
   rcases (Don.set hlt x).1 hS with h8 | h8
   ·omega
   ·exact hn (ordered_in I.closed (C.heavy c x d dx (by omega) hc h3 (by unfold isHeavy;simp [hw2]) (by unfold isHeavy;simp [h4]) (by omega)) h8))
  exact ⟨c',G'',tmS',_,I2⟩
 ·have : x ≠ c := fun e => by subst e;rw [hc] at hdx;cases hdx;omega
  omega
 ·rw [Don.set hlt]
  by_cases hxe : x = c
  ·exact .inl hxe
  ·exact .inr (I.cD x dx (by omega) hdx hwx)
 ·obtain ⟨h5,h6⟩ := sub_not hlt hnx
  exact absurd (ordered_closed I.closed (C.heavy x c dx d (by omega) hdx hc (by unfold isHeavy;simp [hwx]) (by unfold isHeavy;simp [hw2]) (by omega)) hp) h6
theorem Inv.cN' (I : Inv P B0 w0 B ds pl tm st K tms sts vs GS wS lo listed a w c G tmS pb) {i : Nat} {d : DOper} (hi : ds[i]? = some d) (hw2 : weight d.op ≠ 2) : c = K ∨ ∃ d,c < K ∧ ds[c]? = some d ∧ weight d.op = 2 ∧ ¬ Don (listed.setIfInBounds i true) c := by
 have hlt : i < listed.size := by rw [I.sz];exact (List.getElem?_eq_some_iff.1 hi).1
 rcases I.cN with h | ⟨d',h1,h2,h3,h4⟩
 ·exact .inl h
 ·refine .inr ⟨d',h1,h2,h3,fun hS => ?_⟩
  rcases (Don.set hlt c).1 hS with h5 | h5
  ·subst h5;rw [hi] at h2;cases h2;exact hw2 h3
  ·exact h4 h5
theorem Inv.stay (C : Checked P mu ops ds pl free) (I : Inv P B0 w0 B ds pl tm st K tms sts vs GS wS lo listed a w c G tmS pb) {i : Nat} {d : DOper} (hi : ds[i]? = some d) (hiK : i < K) (hw2 : weight d.op ≠ 2) (hn : ¬ Don listed i) (hp : ∀ p ∈ pl.getD i [],Don listed p) (hnp : ¬ IsP tms c i d)
  {G' : Gh} {w' : World} {u : Value} (hwr : WR P B0 w0 G' (sts c).heap w') (hhole : ∀ (x : Nat) (dx : DOper),x < c → x ≠ i → ds[x]? = some dx → weight dx.op = 3 → wants (tms x) dx.guard = true → G.be (sts x).heap.length = none → G.tg (sts x).heap.length = none → G'.be (sts x).heap.length = none ∧ G'.tg (sts x).heap.length = none)
  (hext : Ext GS st.heap wS G' (sts c).heap w' lo) (hpres : Pres G w G' w') (hpe : ∀ z b,Pend B0 G w wS z b → Pend B0 G' w' wS z b) (hv : VR G' w' (vs i) u) (hdf : DefsOK B G' w' a.defers w'.heap.size) :
  ∃ c' G' tmS' pb',Inv P B0 w0 B ds pl tm st K tms sts vs GS wS lo (listed.setIfInBounds i true) (a.put d.dst u) w' c' G' tmS' pb' := by
 have hlt : i < listed.size := by rw [I.sz];exact (List.getElem?_eq_some_iff.1 hi).1
 refine ⟨c,G',_,_,I.toInv0.put C hi hiK hn hp 0 I.cK (fun _ _ _ _ => Iff.rfl) (fun x dx hx hdx hwx => (Don.set hlt x).2 (.inr (I.cD x dx hx hdx hwx))) hwr (fun x dx hx hdx hwx hwt hnx => ?_) hext hpres hpe hv hdf (fun _ => rfl) (fun h => absurd h hnp),I.cN' hi hw2⟩
 obtain ⟨h5,h6⟩ := sub_not hlt hnx
 obtain ⟨h7,h8⟩ := I.hole x dx hx hdx hwx hwt h6
 exact hhole x dx hx h5 hdx hwx hwt h7 h8
theorem Inv.ahead (C : Checked P mu ops ds pl free) (I : Inv P B0 w0 B ds pl tm st K tms sts vs GS wS lo listed a w c G tmS pb) {i : Nat} {d : DOper} (hi : ds[i]? = some d) (hiK : i < K) (hn : ¬ Don listed i) (hp : ∀ p ∈ pl.getD i [],Don listed p) (hip : IsP tms c i d)
  {z : List PV} (hz : d.op = .alloc z) {arr : Array Value} {T : TypeId} (hzr : ∀ G w,VRL G w z arr.toList) :
  ∃ c' G' tmS' pb',Inv P B0 w0 B ds pl tm st K tms sts vs GS wS lo (listed.setIfInBounds i true) (a.put d.dst (.pointer (some ⟨w.heap.size,0,none⟩))) (w.alloc (.cells arr T (0,0))) c' G' tmS' pb' := by
 have hlt : i < listed.size := by rw [I.sz];exact (List.getElem?_eq_some_iff.1 hi).1
 have hw2 : weight d.op ≠ 2 := by have := hip.2.1;omega
 have hf : Foreign B0 G w (w.alloc (.cells arr T (0,0))) (fun _ => False) := Foreign.grow (by rw [size_alloc];omega) (fun b hb => heap_alloc_lt _ _ hb) ⟨rfl,rfl⟩
 have hx : ∀ lo,Ext G (sts c).heap w G (sts c).heap (w.alloc (.cells arr T (0,0))) lo := fun lo => Ext.grow I.wr hf
 refine ⟨c,G,_,_,I.toInv0.put C hi hiK hn hp (x := .cptr []) w.heap.size I.cK (fun _ _ _ _ => Iff.rfl) (fun x dx hx hdx hwx => (Don.set hlt x).2 (.inr (I.cD x dx hx hdx hwx))) (hf.wr I.wr) (fun x dx hx hdx hwx hwt hnx => ?_) (I.ext.trans (hx lo)) (hx 0).pres (fun z b h => h.alloc _) ?_ ((I.df.ext (hx 0) (Nat.le_refl _)).le (hx 0).size) (fun h => absurd hip h) (fun _ => ⟨rfl,⟨z,hz,?_⟩,Nat.le_refl _⟩),I.cN' hi hw2⟩
 ·obtain ⟨h5,h6⟩ := sub_not hlt hnx
  exact I.hole x dx hx hdx hwx hwt h6
 ·simp only [VR]
  exact ⟨w.heap.size,0,rfl,fun h => absurd rfl h,trivial⟩
 ·refine ⟨⟨arr,T,heap_alloc_new _ _,hzr⟩,I.wr.low.1,I.ext.size,fun l e => ?_,fun t e he => ?_,?_⟩
  ·have := (I.wr.obj e).2.1;omega
  ·have := (I.wr.tag he).2.1;omega
  ·cases hc : G.cm w.heap.size with
   | none => rfl
   | some n => have := I.wr.cmLt hc;omega
theorem Inv.turn (C : Checked P mu ops ds pl free) (I : Inv P B0 w0 B ds pl tm st K tms sts vs GS wS lo listed a w c G tmS pb) {i : Nat} {d : DOper} (hi : ds[i]? = some d) (hiK : i < K) (hw : weight d.op = 2) (hn : ¬ Don listed i) (hp : ∀ p ∈ pl.getD i [],Don listed p) : i = c := by
 have h1 := I.turn0 C hi (Nat.le_of_lt hiK) hw hp
 rcases Nat.lt_or_ge i c with h | h
 ·exact absurd (I.cD i d h hi hw) hn
 ·omega
end
end Go.Den
end

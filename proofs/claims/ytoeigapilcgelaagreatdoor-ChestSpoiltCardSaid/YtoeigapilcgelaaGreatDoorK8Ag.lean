/- Part of the proofs of laws of the package chest. Texts: DenDrawC, DenDrawD, DenDrawE, DenDrawF, DenDrawG, DenWp. -/
import Derived.Test.YtoeigapilcgelaaGreatDoorK8Af
import Derived.Test.YtoeigapilcgelaaGreatDoorK8Ab
set_option linter.unusedSimpArgs false
set_option linter.unusedVariables false
section
namespace Go.Den
section
variable {P : Program} {B0 : Nat} {w0 : World} {G : Gh} {h : List HObj} {st : St} {w : World} {tm : List PV} {a : Act} {o : Oper} {E : Env} {rec : Rec}
theorem binC_weight {op : BinOp} {t : TypeId} {x y : Operand} {d : DOp} (hc : binC P op t x y = some d) : weight d = 0 := by
 unfold binC at hc
 repeat' (split at hc)
 all_goals (first | (cases hc;done) | (cases hc;rfl))
theorem builtinC_weight {b : Bool} {f : Builtin} {ts : List TypeId} {xs : List Opd} {d : DOp} (hc : builtinC P b f ts xs = some d) : weight d = 0 ∨ weight d = 2 := by
 unfold builtinC at hc
 repeat' (split at hc)
 all_goals (first | (cases hc;done) | (cases hc;first | exact .inl rfl | exact .inr rfl))
theorem opC_ld {mu : TypeId → Bool} {d : DOp} (hc : opC P mu o = some d) (hw : weight d = 1) : (∃ agg sz x y,d = .load agg sz x ∧ opd y = some x) ∨ (∃ x y,d = .bytesToStr x ∧ opd y = some x) ∨ (∃ nf z x k ok y,d = .lookup nf z x k ok ∧ opd y = some x) := by
 unfold opC at hc
 split at hc
 all_goals (repeat' (split at hc))
 all_goals (first
  | (cases hc;done)
  | (have := binC_weight hc;omega)
  | (have := builtinC_weight hc;omega)
  | (obtain ⟨_,h1,h2⟩ := Option.map_eq_some_iff.1 hc;cases h2;cases hw;done)
  | (cases hc;first | (cases hw;done) | exact .inl ⟨_,_,_,_,rfl,by assumption⟩ | exact .inr (.inl ⟨_,_,rfl,by assumption⟩) | (right;right;exact ⟨_,_,_,_,_,_,rfl,by assumption⟩)))
theorem opC_alloc {mu : TypeId → Bool} {z : List PV} (hc : opC P mu o = some (.alloc z)) : ∃ t,o.op = .alloc t ∧ zeroT P t = some z := by
 unfold opC at hc
 split at hc
 all_goals (repeat' (split at hc))
 all_goals (first
  | (cases hc;done)
  | (have := binC_weight hc;cases this;done)
  | (rcases builtinC_weight hc with h | h <;> cases h;done)
  | (obtain ⟨_,h1,h2⟩ := Option.map_eq_some_iff.1 hc;cases h2;first | done | exact ⟨_,by assumption,h1⟩))
theorem alloc_run {mu : TypeId → Bool} {z : List PV} (hc : opC P mu o = some (.alloc z)) : ∃ u t,OpRun P a o w = .ok (.value (.pointer (some ⟨w.heap.size,0,none⟩))) (w.alloc (.cells u t)) ∧ ∀ G w,VRL G w z u.toList := by
 obtain ⟨t,ho,hz⟩ := opC_alloc hc
 obtain ⟨u,h1,h2,_⟩ := zeroT_run hz w
 refine ⟨u.cells,t,?_,fun G w => cells0_ok h2⟩
 unfold OpRun execOp
 rw [ho]
 simp [Instr.alloc,newVar,newRow,h1]
theorem ld_live {mu : TypeId → Bool} {d : DOp} (hc : opC P mu o = some d) (hw : WR P B0 w0 G h w) (ht : VRL G w tm a.tmps.toList) {m lo l : Nat} (hf : footOf tm d m lo = .ld l) : l < h.length := by
 rcases opC_ld hc (foot_ld hf) with ⟨agg,sz,x,y,rfl,hy⟩ | ⟨x,y,rfl,hy⟩ | ⟨nf,z,x,k,ok,y,rfl,hy⟩
 all_goals
  have hx := opd_ok ht hy
  simp only [footOf] at hf
  split at hf
 all_goals (first | (cases hf;done) | skip)
 all_goals
  rename_i hev
  cases hf
  rw [hev] at hx
  simp only [VR] at hx
 ·obtain ⟨b,h1,_⟩ := hx;exact dom_be hw h1
 ·obtain ⟨b,e,h1,_⟩ := hx;exact dom_tg hw h1
 ·obtain ⟨b,e,cap,h1,_⟩ := hx;exact dom_tg hw h1
 ·obtain ⟨b,h1,_⟩ := hx;exact dom_be hw h1
theorem opersC_spec {mu : TypeId → Bool} {ops : Array Oper} : ∀ {L : List Oper} {ds : List DOper},opersC P mu ops L = some ds → ds.length = L.length ∧ ∀ (j : Nat) (o : Oper),L[j]? = some o → ∃ d,ds[j]? = some d ∧ operC P mu ops o = some d
 | [],ds,h => by simp only [opersC] at h;cases h;simp
 | o :: L,ds,h => by
  simp only [opersC] at h
  split at h
  ·rename_i d ds' h1 h2
   cases h
   obtain ⟨h3,h4⟩ := opersC_spec h2
   refine ⟨by simp [h3],fun j o' hj => ?_⟩
   cases j with
   | zero => simp at hj;subst hj;exact ⟨d,rfl,h1⟩
   | succ j => simpa using h4 j o' (by simpa using hj)
  ·cases h
theorem shareOps_spec (f : Nat → Bool) : ∀ (k : Nat) (ds : List DOper),(shareOps f k ds).length = ds.length ∧ ∀ (j : Nat) (d : DOper),ds[j]? = some d → (shareOps f k ds)[j]? = some (shareOp (f (k + j)) d)
 | k,[] => by simp [shareOps]
 | k,d :: ds => by
  obtain ⟨h1,h2⟩ := shareOps_spec f (k + 1) ds
  refine ⟨by simp [shareOps,h1],fun j d' hj => ?_⟩
  cases j with
  | zero => simp at hj;subst hj;rfl
  | succ j =>
   have := h2 j d' (by simpa using hj)
   simp only [shareOps,List.getElem?_cons_succ]
   rw [this,show k + 1 + j = k + (j + 1) by omega]
def OpOf (P : Program) (mu : TypeId → Bool) (ops : Array Oper) (o : Oper) (d : DOper) : Prop :=
 d.dst = o.dst ∧ guardC ops o.guard = some d.guard ∧ (opC P mu o = some d.op ∨ ∃ sz n z ps,opC P mu o = some (.buildSlice sz n z ps) ∧ d.op = .buildSliceS sz n z ps)
theorem OpOf.of {mu : TypeId → Bool} {ops : Array Oper} {d : DOper} (h : operC P mu ops o = some d) (b : Bool) : OpOf P mu ops o (shareOp b d) := by
 unfold operC at h
 split at h
 ·rename_i op g h1 h2
  cases h
  unfold shareOp
  split
  ·rename_i sz n z ps hop
   refine ⟨rfl,h2,.inr ⟨sz,n,z,ps,?_,rfl⟩⟩
   rw [h1];exact congrArg some hop
  ·exact ⟨rfl,h2,.inl h1⟩
 ·cases h
structure Checked (P : Program) (mu : TypeId → Bool) (ops : Array Oper) (ds : List DOper) (pl : List (List Nat)) (free : List (Nat × List Nat)) : Prop where
 len : ds.length = ops.size
 op : ∀ (j : Nat) (o : Oper),ops[j]? = some o → ∃ d,ds[j]? = some d ∧ OpOf P mu ops o d
 plOf : ∀ (j : Nat) (o : Oper),ops[j]? = some o → pl.getD j [] = Den.preds o
 preds : ∀ j,j < ops.size → ∀ p ∈ pl.getD j [],p < j
 heavy : ∀ (i j : Nat) (di dj : DOper),i < j → ds[i]? = some di → ds[j]? = some dj → isHeavy (weight di.op) = true → isHeavy (weight dj.op) = true → ¬ (weight di.op = 3 ∧ weight dj.op = 3) → ordered (masks pl []) i j = true
 once : ∀ (i j : Nat) (di dj : DOper) (t : Nat),i ≠ j → ds[i]? = some di → ds[j]? = some dj → di.dst = some t → dj.dst ≠ some t
 data : ∀ (i j : Nat) (di dj : DOper) (t : Nat),i ≠ j → ds[i]? = some di → ds[j]? = some dj → di.dst = some t → t ∈ dj.reads → (i < j → ordered (masks pl []) i j = true) ∧ (j < i → ordered (masks pl []) j i = true)
 free : ∀ fs,footOk fs free = true → ∀ (i j : Nat) (di dj : DOper) (l : Nat) (f : Foot),ds[i]? = some di → ds[j]? = some dj → weight di.op = 1 → weight dj.op = 2 → ordered (masks pl []) i j = false → ordered (masks pl []) j i = false → fs[i]? = some (.ld l) → fs[j]? = some f → clash l f = false
theorem checked {mu : TypeId → Bool} {id : Nat} {ops : Array Oper} {ds : List DOper} {free : List (Nat × List Nat)} (hc : codeC P mu (.region id ops true) = some (.dregion ds free)) : Checked P mu ops ds (ops.toList.map preds) free := by
 simp only [codeC] at hc
 split at hc
 ·rename_i ds0 h0
  simp only [if_true] at hc
  split at hc
  ·rename_i hck
   cases hc
   simp only [Bool.and_eq_true] at hck
   obtain ⟨⟨hp,hh⟩,ht⟩ := hck
   obtain ⟨l1,s1⟩ := opersC_spec h0
   generalize hf : loose (masks (ops.toList.map preds) []) (ds0.map (weight ·.op)) = f at *
   obtain ⟨l2,s2⟩ := shareOps_spec f 0 ds0
   generalize hds : shareOps f 0 ds0 = ds at *
   have hlen : ds.length = ops.size := by rw [l2,l1];simp
   have hws : ∀ {j d},ds[j]? = some d → (ds.map (weight ·.op)).getD j 0 = weight d.op := fun {j d} hj => by
    simp only [List.getD_eq_getElem?_getD,List.getElem?_map,hj,Option.map_some,Option.getD_some]
   have hlt : ∀ {j d},ds[j]? = some d → j < ds.length := fun hj => (List.getElem?_eq_some_iff.1 hj).1
   refine ⟨hlen,fun j o hj => ?_,fun j o hj => ?_,fun j hj p hpj => ?_,fun i j di dj hij hi hj w1 w2 w3 => ?_,fun i j di dj t hij hi hj hd => ?_,fun i j di dj t hij hi hj hd hr => ?_,fun fs hfo i j di dj l f' hi hj w1 w2 o1 o2 f1 f2 => ?_⟩
   ·obtain ⟨d,h1,h2⟩ := s1 j o (by simpa using hj)
    exact ⟨_,s2 j d h1,OpOf.of h2 _⟩
   ·simp only [List.getD_eq_getElem?_getD,List.getElem?_map,Array.getElem?_toList,hj,Option.map_some,Option.getD_some]
   ·have := List.all_eq_true.1 hp j (by simpa using hj)
    simp only [List.getD_eq_getElem?_getD,List.getElem?_map,Array.getElem?_toList,Array.getElem?_eq_getElem hj,Option.map_some,Option.getD_some] at hpj this
    simpa using List.all_eq_true.1 this p hpj
   ·have h1 := List.all_eq_true.1 hh j (by simpa using hlt hj)
    have h2 := List.all_eq_true.1 h1 i (by simpa using hij)
    rw [hws hi,hws hj,w1,w2] at h2
    simp only [Bool.not_true,Bool.false_or,Bool.or_eq_true,Bool.and_eq_true,beq_iff_eq] at h2
    exact h2.resolve_left w3
   ·have h1 := List.all_eq_true.1 ht j (by simpa using hlt hj)
    have h2 := List.all_eq_true.1 h1 i (by simpa using hlt hi)
    simp only [hi,hj,hd,Bool.or_eq_true,beq_iff_eq,Bool.and_eq_true] at h2
    have h3 := (h2.resolve_left hij).1
    simpa using h3
   ·have h1 := List.all_eq_true.1 ht j (by simpa using hlt hj)
    have h2 := List.all_eq_true.1 h1 i (by simpa using hlt hi)
    simp only [hi,hj,hd,Bool.or_eq_true,beq_iff_eq,Bool.and_eq_true] at h2
    have h3 := (h2.resolve_left hij).2
    simp only [Bool.not_eq_true',List.contains_eq_mem,decide_eq_false_iff_not] at h3
    have h4 := h3.resolve_left (fun h => h hr)
    refine ⟨fun hlt' => by rw [if_pos hlt'] at h4;exact h4,fun hlt' => ?_⟩
    rw [if_neg (by omega)] at h4;exact h4
   ·unfold footOk at hfo
    have hi' := hlt hi
    have hj' := hlt hj
    have hmem : (i,(List.range (ds.map (weight ·.op)).length).filter fun j => (ds.map (weight ·.op)).getD j 0 == 2 && !ordered (masks (ops.toList.map preds) []) i j && !ordered (masks (ops.toList.map preds) []) j i) ∈ freeOf (masks (ops.toList.map preds) []) (ds.map (weight ·.op)) := by
     unfold freeOf
     refine List.mem_map.2 ⟨i,List.mem_filter.2 ⟨by simpa using hi',?_⟩,rfl⟩
     rw [hws hi,w1];rfl
    have h1 := List.all_eq_true.1 hfo _ hmem
    simp only [f1] at h1
    have h2 := List.all_eq_true.1 h1 j (List.mem_filter.2 ⟨by simpa using hj',by rw [hws hj,w2,o1,o2];rfl⟩)
    simp only [f2] at h2
    simpa using h2
  ·cases hc
 ·cases hc
end
end Go.Den
end
section
namespace Go.Den
section
variable {E : Env} {rec : Rec} {ds : List DOper} {tm : List PV} {st : St}
def StepAt (E : Env) (rec : Rec) (tm : List PV) (st : St) (d : DOper) (v : PV) (st1 : St) (f : Foot) : Prop :=
 (wants tm d.guard = true ∧ ∃ st2,stepOp E rec tm { st with lo := st.heap.length } d.op = some (.val v st2) ∧ st1 = { st2 with lo := min st.lo st2.lo } ∧ f = footOf tm d.op st.heap.length st2.lo) ∨
 (wants tm d.guard = false ∧ v = undef ∧ st1 = st ∧ f = .quiet)
structure Trace (E : Env) (rec : Rec) (ds : List DOper) (tm : List PV) (st : St) (K : Nat) (tms : Nat → List PV) (sts : Nat → St) (vs : Nat → PV) (fo : Nat → Foot) : Prop where
 z1 : tms 0 = tm
 z2 : sts 0 = st
 le : K ≤ ds.length
 step : ∀ j d,j < K → ds[j]? = some d → StepAt E rec (tms j) (sts j) d (vs j) (sts (j + 1)) (fo j) ∧ tms (j + 1) = put (tms j) d.dst (vs j)
def TEnd (E : Env) (rec : Rec) (ds : List DOper) (K : Nat) (tms : Nat → List PV) (sts : Nat → St) (e : Ex) (tm' : List PV) (st' : St) : Prop :=
 (K = ds.length ∧ e = .normal ∧ tm' = tms K ∧ st' = sts K) ∨
 (K + 1 = ds.length ∧ ∃ d v st2,ds[K]? = some d ∧ wants (tms K) d.guard = true ∧ stepOp E rec (tms K) { sts K with lo := (sts K).heap.length } d.op = some (.panic v st2) ∧ e = .panic v ∧ tm' = tms K ∧ st' = { st2 with lo := min (sts K).lo st2.lo })
def cons' {α : Type} (x : α) (f : Nat → α) : Nat → α
 | 0 => x
 | n + 1 => f n
theorem Trace.cons {d : DOper} {K : Nat} {tms : Nat → List PV} {sts : Nat → St} {vs : Nat → PV} {fo : Nat → Foot} {v : PV} {f : Foot} {st1 : St} (h1 : StepAt E rec tm st d v st1 f) (h : Trace E rec ds (put tm d.dst v) st1 K tms sts vs fo) :
  Trace E rec (d :: ds) tm st (K + 1) (cons' tm tms) (cons' st sts) (cons' v vs) (cons' f fo) := by
 refine ⟨rfl,rfl,by have := h.le;simp;omega,fun j d' hj hd => ?_⟩
 cases j with
 | zero =>
  simp at hd;subst hd
  refine ⟨?_,?_⟩
  ·show StepAt E rec tm st d v (sts 0) f
   rw [h.z2];exact h1
  ·show tms 0 = _
   rw [h.z1];rfl
 | succ j => exact h.step j d' (by omega) (by simpa using hd)
theorem trace_of : ∀ {ds : List DOper} {tm : List PV} {st : St} {e : Ex} {tm' : List PV} {st' : St} {fs : List Foot},stepOpsD E rec ds tm st = some (e,tm',st',fs) →
  ∃ K tms sts vs fo,Trace E rec ds tm st K tms sts vs fo ∧ TEnd E rec ds K tms sts e tm' st' ∧ ∀ j,j < K → fs[j]? = some (fo j)
 | [],tm,st,e,tm',st',fs,h => by
  simp only [stepOpsD] at h;cases h
  exact ⟨0,fun _ => tm,fun _ => st,fun _ => undef,fun _ => .quiet,⟨rfl,rfl,Nat.le_refl _,fun j d hj => by omega⟩,.inl ⟨rfl,rfl,rfl,rfl⟩,fun j hj => by omega⟩
 | d :: ds,tm,st,e,tm',st',fs,h => by
  have fin : ∀ {v : PV} {st1 : St} {f : Foot} {fs1 : List Foot},StepAt E rec tm st d v st1 f → stepOpsD E rec ds (put tm d.dst v) st1 = some (e,tm',st',fs1) → fs = f :: fs1 →
    ∃ K tms sts vs fo,Trace E rec (d :: ds) tm st K tms sts vs fo ∧ TEnd E rec (d :: ds) K tms sts e tm' st' ∧ ∀ j,j < K → fs[j]? = some (fo j) := by
   intro v st1 f fs1 h1 h2 h3
   obtain ⟨K,tms,sts,vs,fo,t1,t2,t3⟩ := trace_of h2
   refine ⟨K + 1,cons' tm tms,cons' st sts,cons' v vs,cons' f fo,t1.cons h1,?_,fun j hj => ?_⟩
   ·rcases t2 with ⟨a1,a2,a3,a4⟩ | ⟨a1,d',v',st2,a2,a3,a4,a5,a6,a7⟩
    ·exact .inl ⟨by simp [a1],a2,a3,a4⟩
    ·exact .inr ⟨by simp [a1],d',v',st2,by simpa using a2,a3,a4,a5,a6,a7⟩
   ·subst h3
    cases j with
    | zero => rfl
    | succ j => show fs1[j]? = some (fo j);exact t3 j (by omega)
  simp only [stepOpsD] at h
  split at h
  ·rename_i hw
   split at h
   ·rename_i v st1 hs
    split at h
    ·rename_i hr;cases h
     exact fin (.inl ⟨hw,st1,hs,rfl,rfl⟩) hr rfl
    ·cases h
   ·rename_i v st1 hs
    split at h
    ·rename_i hemp
     cases h
     have hnil : ds = [] := List.isEmpty_iff.1 hemp
     subst hnil
     exact ⟨0,fun _ => tm,fun _ => st,fun _ => undef,fun _ => .quiet,⟨rfl,rfl,Nat.zero_le _,fun j d hj => by omega⟩,.inr ⟨rfl,d,v,st1,rfl,hw,hs,rfl,rfl,rfl⟩,fun j hj => by omega⟩
    ·cases h
   ·cases h
  ·rename_i hw
   split at h
   ·rename_i hr;cases h
    exact fin (.inr ⟨by simpa using hw,rfl,rfl,rfl⟩) hr rfl
   ·cases h
section
variable {K : Nat} {tms : Nat → List PV} {sts : Nat → St} {vs : Nat → PV} {fo : Nat → Foot} (T : Trace E rec ds tm st K tms sts vs fo)
include T
theorem Trace.get {j : Nat} (hj : j < K) : ∃ d,ds[j]? = some d := ⟨_,List.getElem?_eq_getElem (Nat.lt_of_lt_of_le hj T.le)⟩
theorem Trace.grow1 (hg : GrowCall rec) {j : Nat} (hj : j < K) : Grows (sts j) (sts (j + 1)) := by
 obtain ⟨d,hd⟩ := T.get hj
 rcases (T.step j d hj hd).1 with ⟨_,st2,h1,h2,_⟩ | ⟨_,_,h2,_⟩
 ·rw [h2]
  exact Grows.reset (stepOp_grows (r := .val (vs j) st2) hg (Nat.le_refl _) h1)
 ·rw [h2];exact .refl _
theorem Trace.grow (hg : GrowCall rec) {i : Nat} : ∀ {j : Nat},i ≤ j → j ≤ K → Grows (sts i) (sts j) := by
 intro j hij
 induction hij with
 | refl => exact fun _ => .refl _
 | @step j hij ih => exact fun hj => (ih (by omega)).trans (T.grow1 hg (by omega))
theorem Trace.calm {j : Nat} (hj : j < K) {d : DOper} (hd : ds[j]? = some d) (hw : isHeavy (weight d.op) = false) : (sts (j + 1)).heap = (sts j).heap := by
 rcases (T.step j d hj hd).1 with ⟨_,st2,h1,h2,_⟩ | ⟨_,_,h2,_⟩
 ·rw [h2]
  have hlt : weight d.op = 0 ∨ weight d.op = 1 := by
   unfold isHeavy at hw
   have : weight d.op ≤ 3 := by cases d.op <;> simp [weight]
   simp only [Bool.or_eq_false_iff,beq_eq_false_iff_ne] at hw
   omega
  rcases hlt with h | h
  ·obtain ⟨v,h3,_⟩ := light_val h h1;cases h3;rfl
  ·obtain ⟨v,h3,_⟩ := look_val h h1;cases h3;rfl
 ·rw [h2]
theorem Trace.made {j : Nat} (hj : j < K) {d : DOper} (hd : ds[j]? = some d) (hw : weight d.op = 3) : (wants (tms j) d.guard = true ∧ ∃ z,d.op = .alloc z ∧ (sts (j + 1)).heap = (sts j).heap ++ [.var z] ∧ vs j = .ptr (sts j).heap.length 0) ∨ (wants (tms j) d.guard = false ∧ (sts (j + 1)).heap = (sts j).heap ∧ vs j = undef) := by
 rcases (T.step j d hj hd).1 with ⟨hwt,st2,h1,h2,hfo⟩ | ⟨hwt,hv,h2,hfo⟩
 ·left
  obtain ⟨dop,dst,g⟩ := d
  cases dop <;> simp only [weight] at hw <;> first | (cases hw;done) | skip
  rename_i z
  simp only [stepOp,Option.some.injEq,OpR.val.injEq] at h1
  obtain ⟨h1a,h1b⟩ := h1
  rw [h2,← h1b]
  exact ⟨hwt,z,rfl,rfl,h1a.symm⟩
 ·exact .inr ⟨hwt,by rw [h2],hv⟩
theorem Trace.ext (i : Nat) : ∀ {j : Nat},i ≤ j → j ≤ K → (∀ x d,i ≤ x → x < j → ds[x]? = some d → weight d.op ≠ 2) → ∃ e,(sts j).heap = (sts i).heap ++ e := by
 intro j hij
 induction hij with
 | refl => exact fun _ _ => ⟨[],by simp⟩
 | @step j hij ih =>
  have hij' := Nat.le_trans (Nat.le_refl _) hij
  intro hj hx
  obtain ⟨e,he⟩ := ih (by omega) (fun x d h1 h2 h3 => hx x d h1 (by omega) h3)
  obtain ⟨d,hd⟩ := T.get (show j < K by omega)
  by_cases hh : isHeavy (weight d.op) = true
  ·have h3 : weight d.op = 3 := by
    have := hx j d hij (Nat.lt_succ_self _) hd
    unfold isHeavy at hh
    simp only [Bool.or_eq_true,beq_iff_eq] at hh
    omega
   rcases T.made (by omega) hd h3 with ⟨_,z,_,h4,_⟩ | ⟨_,h4,_⟩
   ·exact ⟨e ++ [.var z],by rw [h4,he];simp⟩
   ·exact ⟨e,by rw [h4,he]⟩
  ·exact ⟨e,by rw [T.calm (by omega) hd (by simpa using hh),he]⟩
theorem Trace.same (hg : GrowCall rec) {i l : Nat} (hl : l < (sts i).heap.length) : ∀ {j : Nat},i ≤ j → j ≤ K → (∀ x d,i ≤ x → x < j → ds[x]? = some d → weight d.op = 2 → clash l (fo x) = false) → (sts j).heap[l]? = (sts i).heap[l]? := by
 intro j hij
 induction hij with
 | refl => exact fun _ _ => rfl
 | @step j hij ih =>
  have hij' := Nat.le_trans (Nat.le_refl _) hij
  intro hj hx
  rw [← ih (by omega) (fun x d h1 h2 h3 h4 => hx x d h1 (by omega) h3 h4)]
  obtain ⟨d,hd⟩ := T.get (show j < K by omega)
  have hl' : l < (sts j).heap.length := Nat.lt_of_lt_of_le hl (T.grow hg hij (by omega)).2.1
  by_cases h2 : weight d.op = 2
  ·have hc := hx j d hij (Nat.lt_succ_self _) hd h2
   rcases (T.step j d (by omega) hd).1 with ⟨_,st2,h3,h4,h5⟩ | ⟨_,_,h4,_⟩
   ·rw [h5] at hc
    rw [h4]
    exact foot_sound h2 hg h3 hl' hc
   ·rw [h4]
  ·by_cases h3 : weight d.op = 3
   ·rcases T.made (by omega) hd h3 with ⟨_,z,_,h4,_⟩ | ⟨_,h4,_⟩
    ·rw [h4,List.getElem?_append_left hl']
    ·rw [h4]
   ·rw [T.calm (by omega) hd (by unfold isHeavy;simp [h2,h3])]
omit T in
theorem put_length (tm : List PV) (dst : Option Nat) (v : PV) : (put tm dst v).length = tm.length := by cases dst <;> simp [put]
theorem Trace.tlen {j : Nat} (hj : j ≤ K) : (tms j).length = tm.length := by
 induction j with
 | zero => rw [T.z1]
 | succ j ih =>
  obtain ⟨d,hd⟩ := T.get (show j < K by omega)
  rw [(T.step j d (by omega) hd).2,put_length,ih (by omega)]
theorem Trace.old {t : Nat} {j : Nat} (hj : j ≤ K) (hx : ∀ x d,x < j → ds[x]? = some d → d.dst ≠ some t) : (tms j)[t]? = tm[t]? := by
 induction j with
 | zero => rw [T.z1]
 | succ j ih =>
  obtain ⟨d,hd⟩ := T.get (show j < K by omega)
  have ih := ih (by omega) (fun x d h1 h2 => hx x d (by omega) h2)
  rw [← ih,(T.step j d (by omega) hd).2]
  have := hx j d (Nat.lt_succ_self _) hd
  cases hdst : d.dst with
  | none => rfl
  | some t' =>
   rw [hdst] at this
   simp only [put]
   rw [List.getElem?_set_ne (fun e => this (by rw [e]))]
theorem Trace.new {t i : Nat} (hi : i < K) {di : DOper} (hdi : ds[i]? = some di) (ht : di.dst = some t) (htl : t < tm.length) (huniq : ∀ x d,x ≠ i → ds[x]? = some d → d.dst ≠ some t) : ∀ {j : Nat},i + 1 ≤ j → j ≤ K → (tms j)[t]? = some (vs i) := by
 intro j hij
 induction hij with
 | refl =>
  intro hj
  rw [(T.step i di hi hdi).2,ht]
  simp only [put]
  rw [List.getElem?_set_self (by rw [T.tlen (by omega)];exact htl)]
 | @step j hij ih =>
  have hij' := Nat.le_trans (Nat.le_refl _) hij
  intro hj
  obtain ⟨d,hd⟩ := T.get (show j < K by omega)
  have ih := ih (by omega)
  rw [← ih,(T.step j d (by omega) hd).2]
  have := huniq j d (by omega) hd
  cases hdst : d.dst with
  | none => rfl
  | some t' =>
   rw [hdst] at this
   simp only [put]
   rw [List.getElem?_set_ne (fun e => this (by rw [e]))]
theorem Trace.next : ∀ (n x : Nat),K - x = n → x ≤ K → ∃ c,x ≤ c ∧ c ≤ K ∧ (c = K ∨ ∃ d,c < K ∧ ds[c]? = some d ∧ weight d.op = 2) ∧ ∀ y d,x ≤ y → y < c → ds[y]? = some d → weight d.op ≠ 2
 | 0,x,hn,hx => ⟨x,Nat.le_refl _,hx,.inl (by omega),fun y d h1 h2 => by omega⟩
 | n + 1,x,hn,hx => by
  obtain ⟨d,hd⟩ := T.get (show x < K by omega)
  by_cases h2 : weight d.op = 2
  ·exact ⟨x,Nat.le_refl _,hx,.inr ⟨d,by omega,hd,h2⟩,fun y d h1 h2 => by omega⟩
  ·obtain ⟨c,h3,h4,h5,h6⟩ := Trace.next n (x + 1) (by omega) (by omega)
   refine ⟨c,by omega,h4,h5,fun y d' h7 h8 h9 => ?_⟩
   by_cases hy : y = x
   ·subst hy;rw [hd] at h9;cases h9;exact h2
   ·exact h6 y d' (by omega) h8 h9
end
end
end Go.Den
end
section
namespace Go.Den
def Don (listed : Array Bool) (i : Nat) : Prop := listed.getD i false = true
theorem Don.set {listed : Array Bool} {i : Nat} (hi : i < listed.size) (x : Nat) : Don (listed.setIfInBounds i true) x ↔ x = i ∨ Don listed x := by
 unfold Don
 by_cases h : x = i
 ·subst h
  simp [Array.getD_eq_getD_getElem?,hi]
 ·simp only [h,false_or]
  rw [Array.getD_eq_getD_getElem?,Array.getD_eq_getD_getElem?,Array.getElem?_setIfInBounds_ne (Ne.symm h)]
section
variable (P : Program) (B0 : Nat) (w0 : World) (B : Nat) (ds : List DOper) (pl : List (List Nat)) (tm : List PV) (st : St) (K : Nat) (tms : Nat → List PV) (sts : Nat → St) (vs : Nat → PV) (GS : Gh) (wS : World) (lo : Nat)
structure Inv (listed : Array Bool) (a : Act) (w : World) (c : Nat) (G : Gh) (tmS : List PV) : Prop where
 sz : listed.size = ds.length
 closed : Closed pl (Don listed)
 cK : c ≤ K
 cN : c = K ∨ ∃ d,c < K ∧ ds[c]? = some d ∧ weight d.op = 2 ∧ ¬ Don listed c
 cD : ∀ (i : Nat) (d : DOper),i < c → ds[i]? = some d → weight d.op = 2 → Don listed i
 SK : ∀ i,Don listed i → i < K
 wr : WR P B0 w0 G (sts c).heap w
 hole : ∀ (i : Nat) (d : DOper),i < c → ds[i]? = some d → weight d.op = 3 → wants (tms i) d.guard = true → ¬ Don listed i → G.be (sts i).heap.length = none ∧ G.tg (sts i).heap.length = none
 ext : Ext GS st.heap wS G (sts c).heap w lo
 tl : tmS.length = tm.length
 tv : VRL G w tmS a.tmps.toList
 tn : ∀ (i : Nat) (d : DOper) (t : Nat),Don listed i → ds[i]? = some d → d.dst = some t → t < tm.length → tmS[t]? = some (vs i)
 told : ∀ t,(∀ (i : Nat) (d : DOper),Don listed i → ds[i]? = some d → d.dst ≠ some t) → tmS[t]? = tm[t]?
 df : DefsOK B G w a.defers w.heap.size
end
section
variable {P : Program} {B0 : Nat} {w0 : World} {B : Nat} {ds : List DOper} {pl : List (List Nat)} {tm : List PV} {st : St} {K : Nat} {tms : Nat → List PV} {sts : Nat → St} {vs : Nat → PV} {GS : Gh} {wS : World} {lo : Nat} {E : Env} {rec : Rec} {fo : Nat → Foot} {mu : TypeId → Bool} {ops : Array Oper} {free : List (Nat × List Nat)}
 {listed : Array Bool} {a : Act} {w : World} {c : Nat} {G : Gh} {tmS : List PV}
theorem Inv.agree (T : Trace E rec ds tm st K tms sts vs fo) (C : Checked P mu ops ds pl free) (I : Inv P B0 w0 B ds pl tm st K tms sts vs GS wS lo listed a w c G tmS) {j : Nat} {d : DOper} (hj : ds[j]? = some d) (hK : j ≤ K) (hn : ¬ Don listed j) (hp : ∀ p ∈ pl.getD j [],Don listed p) : Agree tmS (tms j) d.reads := by
 intro t ht
 by_cases hwr : ∃ (i : Nat) (di : DOper),ds[i]? = some di ∧ di.dst = some t
 ·obtain ⟨i,di,hi,hd⟩ := hwr
  have uniq : ∀ (x : Nat) (dx : DOper),x ≠ i → ds[x]? = some dx → dx.dst ≠ some t := fun x dx hx hdx => C.once i x di dx t (Ne.symm hx) hi hdx hd
  by_cases hij : i < j
  ·have hS : Don listed i := ordered_closed I.closed ((C.data i j di d t (by omega) hi hj hd ht).1 hij) hp
   by_cases htl : t < tm.length
   ·rw [I.tn i di t hS hi hd htl,T.new (by omega) hi hd htl uniq (by omega) hK]
   ·rw [List.getElem?_eq_none (by rw [I.tl];omega),List.getElem?_eq_none (by rw [T.tlen hK];omega)]
  ·have hS : ¬ Don listed i := by
    intro h
    by_cases he : i = j
    ·subst he;exact hn h
    ·exact hn (ordered_in I.closed ((C.data i j di d t he hi hj hd ht).2 (by omega)) h)
   rw [I.told t (fun x dx h1 h2 h3 => by
    by_cases hx : x = i
    ·subst hx;exact hS h1
    ·exact uniq x dx hx h2 h3),T.old hK (fun x dx h1 h2 => uniq x dx (by omega) h2)]
 ·have h : ∀ (x : Nat) (dx : DOper),ds[x]? = some dx → dx.dst ≠ some t := fun x dx h1 h2 => hwr ⟨x,dx,h1,h2⟩
  rw [I.told t (fun x dx _ h2 => h x dx h2),T.old hK (fun x dx _ h2 => h x dx h2)]
theorem Inv.put (C : Checked P mu ops ds pl free) (I : Inv P B0 w0 B ds pl tm st K tms sts vs GS wS lo listed a w c G tmS) {i : Nat} {d : DOper} (hi : ds[i]? = some d) (hiK : i < K) (hn : ¬ Don listed i) (hp : ∀ p ∈ pl.getD i [],Don listed p)
  {c' : Nat} {G' : Gh} {w' : World} {u : Value} (hc1 : c' ≤ K) (hc2 : c' = K ∨ ∃ d,c' < K ∧ ds[c']? = some d ∧ weight d.op = 2 ∧ ¬ Don (listed.setIfInBounds i true) c') (hc3 : ∀ (x : Nat) (d : DOper),x < c' → ds[x]? = some d → weight d.op = 2 → Don (listed.setIfInBounds i true) x)
  (hwr : WR P B0 w0 G' (sts c').heap w') (hhole : ∀ (x : Nat) (d : DOper),x < c' → ds[x]? = some d → weight d.op = 3 → wants (tms x) d.guard = true → ¬ Don (listed.setIfInBounds i true) x → G'.be (sts x).heap.length = none ∧ G'.tg (sts x).heap.length = none)
  (hext : Ext GS st.heap wS G' (sts c').heap w' lo) (hpres : Pres G w G' w') (hv : VR G' w' (vs i) u) (hdf : DefsOK B G' w' a.defers w'.heap.size) :
  Inv P B0 w0 B ds pl tm st K tms sts vs GS wS lo (listed.setIfInBounds i true) (a.put d.dst u) w' c' G' (Den.put tmS d.dst (vs i)) := by
 have hlt : i < listed.size := by rw [I.sz];exact (List.getElem?_eq_some_iff.1 hi).1
 have hD := Don.set hlt
 refine ⟨by rw [Array.size_setIfInBounds];exact I.sz,fun j hj p hpj => ?_,hc1,hc2,hc3,fun j hj => ?_,hwr,hhole,hext,by rw [put_length];exact I.tl,put_ok (VRL.mono hpres I.tv) hv _,fun j dj t hj hdj hdt htl => ?_,fun t ht => ?_,by rw [put_defers];exact hdf⟩
 ·rw [hD]
  rcases (hD j).1 hj with rfl | hj
  ·exact .inr (hp p hpj)
  ·exact .inr (I.closed j hj p hpj)
 ·rcases (hD j).1 hj with rfl | hj
  ·exact hiK
  ·exact I.SK j hj
 ·by_cases hji : j = i
  ·subst hji
   rw [hi] at hdj;cases hdj
   rw [hdt]
   simp only [Den.put]
   rw [List.getElem?_set_self (by rw [I.tl];exact htl)]
  ·have hj' := ((hD j).1 hj).resolve_left hji
   have hne := C.once j i dj d t hji hdj hi hdt
   rw [← I.tn j dj t hj' hdj hdt htl]
   cases hd2 : d.dst with
   | none => rfl
   | some t' =>
    rw [hd2] at hne
    simp only [Den.put]
    rw [List.getElem?_set_ne (fun e => hne (by rw [e]))]
 ·have hne := ht i d ((hD i).2 (.inl rfl)) hi
  rw [← I.told t (fun x dx h1 h2 => ht x dx ((hD x).2 (.inr h1)) h2)]
  cases hd2 : d.dst with
  | none => rfl
  | some t' =>
   rw [hd2] at hne
   simp only [Den.put]
   rw [List.getElem?_set_ne (fun e => hne (by rw [e]))]
theorem sub_not {i x : Nat} (hlt : i < listed.size) (h : ¬ Don (listed.setIfInBounds i true) x) : x ≠ i ∧ ¬ Don listed x := by
 have := Don.set hlt x
 exact ⟨fun e => h (this.2 (.inl e)),fun e => h (this.2 (.inr e))⟩
theorem Inv.advance (T : Trace E rec ds tm st K tms sts vs fo) (C : Checked P mu ops ds pl free) (I : Inv P B0 w0 B ds pl tm st K tms sts vs GS wS lo listed a w c G tmS) {d : DOper} (hc : ds[c]? = some d) (hcK : c < K) (hw2 : weight d.op = 2) (hn : ¬ Don listed c) (hp : ∀ p ∈ pl.getD c [],Don listed p)
  {G' : Gh} {w' : World} {u : Value} (hwr : WR P B0 w0 G' (sts (c + 1)).heap w') (hext : Ext GS st.heap wS G' (sts (c + 1)).heap w' lo) (hpres : Pres G w G' w') (hv : VR G' w' (vs c) u) (hdf : DefsOK B G' w' a.defers w'.heap.size) (hgr : GrowCall rec) :
  ∃ c' G' tmS',Inv P B0 w0 B ds pl tm st K tms sts vs GS wS lo (listed.setIfInBounds c true) (a.put d.dst u) w' c' G' tmS' := by
 have hlt : c < listed.size := by rw [I.sz];exact (List.getElem?_eq_some_iff.1 hc).1
 obtain ⟨c',h1,h2,h3,h4⟩ := T.next _ (c + 1) rfl (by omega)
 obtain ⟨e,he⟩ := T.ext (c + 1) h1 h2 (fun x d h5 h6 h7 => h4 x d h5 h6 h7)
 refine ⟨c',G',_,I.put C hc hcK hn hp h2 ?_ (fun x dx hx hdx hwx => ?_) (by rw [he];exact hwr.pad e) (fun x dx hx hdx hwx hwt hnx => ?_) (by rw [he];exact hext.pad e) hpres hv hdf⟩
 ·rcases h3 with h3 | ⟨d',h5,h6,h7⟩
  ·exact .inl h3
  ·refine .inr ⟨d',h5,h6,h7,fun hS => ?_⟩
   rcases (Don.set hlt c').1 hS with h8 | h8
   ·omega
   ·refine hn (ordered_in I.closed (C.heavy c c' d d' (by omega) hc h6 (by unfold isHeavy;simp [hw2]) (by unfold isHeavy;simp [h7]) (by omega)) h8)
 ·rw [Don.set hlt]
  by_cases hxc : x < c
  ·exact .inr (I.cD x dx hxc hdx hwx)
  ·by_cases hxe : x = c
   ·exact .inl hxe
   ·exact absurd hwx (h4 x dx (by omega) hx hdx)
 ·obtain ⟨h5,h6⟩ := sub_not hlt hnx
  by_cases hxc : x < c
  ·exact absurd (ordered_closed I.closed (C.heavy x c dx d hxc hdx hc (by unfold isHeavy;simp [hwx]) (by unfold isHeavy;simp [hw2]) (by omega)) hp) h6
  ·exact hwr.dom (T.grow hgr (show c + 1 ≤ x by omega) (by omega)).2.1
theorem Inv.stay (C : Checked P mu ops ds pl free) (I : Inv P B0 w0 B ds pl tm st K tms sts vs GS wS lo listed a w c G tmS) {i : Nat} {d : DOper} (hi : ds[i]? = some d) (hiK : i < K) (hw2 : weight d.op ≠ 2) (hn : ¬ Don listed i) (hp : ∀ p ∈ pl.getD i [],Don listed p)
  {G' : Gh} {w' : World} {u : Value} (hwr : WR P B0 w0 G' (sts c).heap w') (hhole : ∀ (x : Nat) (dx : DOper),x < c → x ≠ i → ds[x]? = some dx → weight dx.op = 3 → wants (tms x) dx.guard = true → G.be (sts x).heap.length = none → G.tg (sts x).heap.length = none → G'.be (sts x).heap.length = none ∧ G'.tg (sts x).heap.length = none)
  (hext : Ext GS st.heap wS G' (sts c).heap w' lo) (hpres : Pres G w G' w') (hv : VR G' w' (vs i) u) (hdf : DefsOK B G' w' a.defers w'.heap.size) :
  ∃ c' G' tmS',Inv P B0 w0 B ds pl tm st K tms sts vs GS wS lo (listed.setIfInBounds i true) (a.put d.dst u) w' c' G' tmS' := by
 have hlt : i < listed.size := by rw [I.sz];exact (List.getElem?_eq_some_iff.1 hi).1
 refine ⟨c,G',_,I.put C hi hiK hn hp I.cK ?_ (fun x dx hx hdx hwx => (Don.set hlt x).2 (.inr (I.cD x dx hx hdx hwx))) hwr (fun x dx hx hdx hwx hwt hnx => ?_) hext hpres hv hdf⟩
 ·rcases I.cN with h | ⟨d',h1,h2,h3,h4⟩
  ·exact .inl h
  ·refine .inr ⟨d',h1,h2,h3,fun hS => ?_⟩
   rcases (Don.set hlt c).1 hS with h5 | h5
   ·subst h5;rw [hi] at h2;cases h2;exact hw2 h3
   ·exact h4 h5
 ·obtain ⟨h5,h6⟩ := sub_not hlt hnx
  obtain ⟨h7,h8⟩ := I.hole x dx hx hdx hwx hwt h6
  exact hhole x dx hx h5 hdx hwx hwt h7 h8
theorem Inv.turn (C : Checked P mu ops ds pl free) (I : Inv P B0 w0 B ds pl tm st K tms sts vs GS wS lo listed a w c G tmS) {i : Nat} {d : DOper} (hi : ds[i]? = some d) (hiK : i < K) (hw : weight d.op = 2) (hn : ¬ Don listed i) (hp : ∀ p ∈ pl.getD i [],Don listed p) : i = c := by
 rcases Nat.lt_trichotomy i c with h | h | h
 ·exact absurd (I.cD i d h hi hw) hn
 ·exact h
 ·rcases I.cN with h1 | ⟨d',h1,h2,h3,h4⟩
  ·omega
  ·exact absurd (ordered_closed I.closed (C.heavy c i d' d h h2 hi (by unfold isHeavy;simp [h3]) (by unfold isHeavy;simp [hw]) (by omega)) hp) h4
theorem Inv.early (C : Checked P mu ops ds pl free) (I : Inv P B0 w0 B ds pl tm st K tms sts vs GS wS lo listed a w c G tmS) {i : Nat} {d : DOper} (hi : ds[i]? = some d) (hiK : i < K) (hw : weight d.op = 3) (hn : ¬ Don listed i) (hp : ∀ p ∈ pl.getD i [],Don listed p) : i < c := by
 rcases Nat.lt_trichotomy i c with h | h | h
 ·exact h
 ·rcases I.cN with h1 | ⟨d',h1,h2,h3,h4⟩
  ·omega
  ·subst h;rw [hi] at h2;cases h2;omega
 ·rcases I.cN with h1 | ⟨d',h1,h2,h3,h4⟩
  ·omega
  ·exact absurd (ordered_closed I.closed (C.heavy c i d' d h h2 hi (by unfold isHeavy;simp [h3]) (by unfold isHeavy;simp [hw]) (by omega)) hp) h4
end
end Go.Den
end
section
namespace Go.Den
section
variable {P : Program} {B0 : Nat} {w0 : World} {B : Nat} {ds : List DOper} {pl : List (List Nat)} {tm tm2 : List PV} {st : St} {K : Nat} {tms : Nat → List PV} {sts : Nat → St} {vs : Nat → PV} {GS : Gh} {wS : World} {E : Env} {rec : Rec} {fo : Nat → Foot} {mu : TypeId → Bool} {ops : Array Oper} {free : List (Nat × List Nat)}
 {listed : Array Bool} {a : Act} {w : World} {c : Nat} {G : Gh} {tmS : List PV} {e : Ex} {tm' : List PV} {st' : St} {fs : List Foot}
theorem foot_congr {d : DOp} (h : Agree tm tm2 d.reads) (hw : weight d = 1) (m lo m' lo' : Nat) : footOf tm d m lo = footOf tm2 d m' lo' := by
 cases d <;> simp only [weight] at hw <;> first | (cases hw;done) | skip
 all_goals simp only [DOp.reads,Agree.append] at h
 all_goals simp only [footOf]
 ·rw [h.ev]
 ·rw [h.ev]
 ·rw [h.1.ev]
theorem look_some {d : DOp} {m lo l : Nat} {r : OpR} (h : stepOp E rec tm st d = some r) (hf : footOf tm d m lo = .ld l) : l < st.heap.length := by
 have hw := foot_ld hf
 cases d <;> simp only [weight] at hw <;> first | (cases hw;done) | skip
 all_goals
  simp only [footOf] at hf
  simp only [stepOp] at h
  split at hf
 all_goals first | (cases hf;done) | skip
 all_goals
  rename_i hev
  cases hf
  rw [hev] at h
  try simp only at h
  repeat' (split at h)
 all_goals first
  | (cases h;done)
  | (rename_i hh _;exact (List.getElem?_eq_some_iff.1 hh).1)
  | (rename_i hh _ _;exact (List.getElem?_eq_some_iff.1 hh).1)
  | (simp only [reduceCtorEq] at h;done)
  | skip
 all_goals
  injections
  subst_vars
 all_goals exact (List.getElem?_eq_some_iff.1 ‹st.heap[_]? = some (HObj.map _)›).1
theorem ordered_lt (C : Checked P mu ops ds pl free) (hpl : pl.length = ops.size) {i j : Nat} (h : ordered (masks pl []) i j = true) : i < j := by
 have key : ∀ j,∀ p ∈ pl.getD j [],p < j := fun j p hp => by
  by_cases hj : j < ops.size
  ·exact C.preds j hj p hp
  ·rw [List.getD_eq_getElem?_getD,List.getElem?_eq_none (by omega)] at hp
   simp at hp
 exact ordered_closed (S := fun y => y < j) (fun y hy p hp => Nat.lt_trans (key y p hp) hy) h (fun p hp => key j p hp)
theorem step_ok (hE : EnvOK P E) (hgr : GrowCall rec) (hrec : SoundCall P B0 w0 rec) (T : Trace E rec ds tm st K tms sts vs fo) (C : Checked P mu ops ds pl free) (hpl : pl.length = ops.size) (hend : TEnd E rec ds K tms sts e tm' st') (hfo : footOk fs free = true) (hfs : ∀ j,j < K → fs[j]? = some (fo j)) (hlo : st.lo ≤ st.heap.length)
  {F : Fence} {n : Nat} (hF : IsWide F) (I : Inv P B0 w0 B ds pl tm st K tms sts vs GS wS st'.lo listed a w c G tmS) {i : Nat} (hi : i ∈ Region.ready .any ops listed) :
  wpOpIn F n P ops (Post P B0 w0 B GS st wS e tm' st') i (fun a' w' => ∃ c' G' tmS',Inv P B0 w0 B ds pl tm st K tms sts vs GS wS st'.lo (listed.setIfInBounds i true) a' w' c' G' tmS') a w := by
 obtain ⟨hl0,o,ho,hpr⟩ := mem_ready.1 hi
 obtain ⟨d,hd,hdst,hgd,hop⟩ := C.op i o ho
 have hiS : i < ops.size := (Array.getElem?_eq_some_iff.1 ho).1
 have hilt : i < listed.size := by rw [I.sz,C.len];exact hiS
 have hn : ¬ Don listed i := by
  unfold Don
  rw [Array.getD_eq_getD_getElem?,Array.getElem?_eq_getElem hilt] at hl0 ⊢
  simp only [Option.getD_some] at hl0 ⊢
  rw [hl0];simp
 have hp : ∀ p ∈ pl.getD i [],Don listed p := by
  intro p hp
  rw [C.plOf i o ho] at hp
  unfold preds at hp
  obtain ⟨ed,h1,rfl⟩ := List.mem_map.1 hp
  obtain ⟨h2,h3⟩ := List.mem_filter.1 h1
  exact hpr ed (by simpa using h2) h3
 have hiK : i ≤ K := by
  rcases hend with ⟨h1,_⟩ | ⟨h1,_⟩
  ·have := C.len;omega
  ·have := C.len;omega
 have hag := I.agree T C hd hiK hn hp
 have hag1 : Agree tmS (tms i) d.op.reads := (Agree.append.1 hag).1
 have hwt : wants tmS d.guard = wants (tms i) d.guard := wants_congr (Agree.append.1 hag).2
 have hlen0 : ∀ {x},x ≤ K → (sts x).lo ≤ (sts x).heap.length := fun hx => by
  have := T.grow hgr (Nat.zero_le _) hx
  rw [T.z2] at this
  exact this.hlo hlo
 have hloK : st'.lo ≤ (sts K).lo := by
  rcases hend with ⟨_,_,_,h⟩ | ⟨_,_,_,_,_,_,_,_,_,h⟩
  ·rw [h];exact Nat.le_refl _
  ·rw [h];exact Nat.min_le_left _ _
 have hlox : ∀ {x},x ≤ K → st'.lo ≤ (sts x).lo := fun hx => Nat.le_trans hloK (T.grow hgr hx (Nat.le_refl _)).1
 have hholelt : ∀ {x : Nat} {dx : DOper},x < K → ds[x]? = some dx → weight dx.op = 3 → wants (tms x) dx.guard = true → (sts (x + 1)).heap.length = (sts x).heap.length + 1 := by
  intro x dx hx hdx hwx hwtx
  rcases T.made hx hdx hwx with ⟨_,z,_,h,_⟩ | ⟨h,_⟩
  ·rw [h];simp
  ·rw [hwtx] at h;cases h
 have hholec : ∀ {x : Nat} {dx : DOper},x < c → ds[x]? = some dx → weight dx.op = 3 → wants (tms x) dx.guard = true → (sts x).heap.length < (sts c).heap.length := by
  intro x dx hx hdx hwx hwtx
  have h1 := hholelt (Nat.lt_of_lt_of_le hx I.cK) hdx hwx hwtx
  have h2 := (T.grow hgr (show x + 1 ≤ c by omega) I.cK).2.1
  omega
 unfold wpOpIn
 rw [ho]
 simp only
 rw [← wants_ok I.tv hgd,hwt]
 by_cases hwant : wants (tms i) d.guard = true
 ·rw [if_pos hwant]
  rcases Nat.lt_or_ge i K with hlt | hge
  · -- it runs,in the text
   rcases (T.step i d hlt hd).1 with ⟨_,st2,hs,hst,hfoi⟩ | ⟨h,_⟩
   ·have hs' := hs
    rw [← stepOp_congr hag1] at hs'
    have hlo2 : st'.lo ≤ st2.lo := by
     have := hlox (show i + 1 ≤ K by omega)
     rw [hst] at this
     exact Nat.le_trans this (Nat.min_le_right _ _)
    by_cases h2 : weight d.op = 2
    · -- it writes
     have hic := I.turn C hd hlt h2 hn hp
     subst hic
     have hopc : opC P mu o = some d.op := by
      rcases hop with h | ⟨_,_,_,_,_,h⟩
      ·exact h
      ·rw [h] at h2;cases h2
     obtain ⟨_,h7⟩ := oper_ok (st := { sts i with lo := (sts i).heap.length }) hE hrec hopc (Nat.le_refl _) I.wr I.tv hs'
     refine h7 F n hF _ _ (fun G1 w1 u hw1 hx hv => ?_)
     have hh : (sts (i + 1)).heap = st2.heap := by rw [hst]
     rw [← hdst]
     exact I.advance T C hd hlt h2 hn hp (by rw [hh];exact hw1) (by rw [hh];exact I.ext.trans (hx.lo hlo2)) hx.pres hv ((I.df.ext hx (Nat.le_refl _)).le hx.size) hgr
    ·by_cases h3 : weight d.op = 3
     · -- a variable
      have hic := I.early C hd hlt h3 hn hp
      rcases T.made hlt hd h3 with ⟨_,z,hz,hhp,hvi⟩ | ⟨h,_⟩
      ·have hopc : opC P mu o = some (.alloc z) := by
        rcases hop with h | ⟨_,_,_,_,_,h⟩
        ·rw [h,hz]
        ·rw [h] at h3;cases h3
       obtain ⟨hb0,ht0⟩ := I.hole i d hic hd h3 hwant hn
       obtain ⟨ex,hex⟩ := T.ext (i + 1) (show i + 1 ≤ c by omega) I.cK (fun x dx h4 h5 h6 h7 => by
        have h8 := I.cD x dx h5 h6 h7
        exact hn (ordered_in I.closed (C.heavy i x d dx (by omega) hd h6 (by unfold isHeavy;simp [h3]) (by unfold isHeavy;simp [h7]) (by omega)) h8))
       have hget : (sts c).heap[(sts i).heap.length]? = some (.var z) := by rw [hex,hhp];simp
       obtain ⟨u,t,hrun,hzu⟩ := alloc_run (a := a) (w := w) hopc
       obtain ⟨k1,k2,k3⟩ := hole_ok I.wr hb0 ht0 (.var z) hget (.cells u t) (fun G' w' _ hh _ => ⟨_,_,hh,hzu _ _⟩)
       refine ⟨fun f _ => hF.fn f,?_⟩
       rw [Oper.semAt_eq _ _ _ (opC_defer hopc)]
       have hrun' : (execOp a.eval o).run P w = _ := hrun
       rw [hrun']
       show ∃ c' G' tmS',_
       rw [← hdst]
       refine I.stay C hd hlt h2 hn hp k1 (fun x dx hx hxi hdx hwx hwtx q1 q2 => ⟨?_,q2⟩) (k3 _ _ _ _ I.ext (by have := (T.grow hgr (Nat.zero_le i) hiK).2.1;rw [T.z2] at this;exact this)) k2 ?_ ((I.df.hole (Nat.le_refl _)).le (by rw [size_alloc];omega))
       ·show upd _ _ _ _ = _
        rw [upd_ne]
        ·exact q1
        ·have e1 := hholelt (Nat.lt_of_lt_of_le hx I.cK) hdx hwx hwtx
         have e2 := hholelt hlt hd h3 hwant
         rcases Nat.lt_or_ge x i with h | h
         ·have := (T.grow hgr (show x + 1 ≤ i by omega) hiK).2.1;omega
         ·have := (T.grow hgr (show i + 1 ≤ x by omega) (Nat.le_trans (Nat.le_of_lt hx) I.cK)).2.1;omega
       ·rw [hvi]
        simp only [VR]
        exact ⟨_,upd_same _ _ _,rfl⟩
      ·rw [hwant] at h;cases h
     · -- it does not write
      have hH : ∀ {st3 : St},st3.heap = (sts c).heap → stepOp E rec tmS st3 d.op = some (.val (vs i) st3) := by
       intro st3 hst3
       have hlt01 : weight d.op = 0 ∨ weight d.op = 1 := by
        have : weight d.op ≤ 3 := by cases d.op <;> simp [weight]
        omega
       rcases hlt01 with h | h
       ·obtain ⟨v,h4,h5⟩ := light_val h hs'
        cases h4
        exact h5 _
       ·obtain ⟨v,h4,h5⟩ := look_val h hs'
        cases h4
        refine h5 _ (fun l m lo hfl => ?_)
        have hopc : opC P mu o = some d.op := by
         rcases hop with h' | ⟨_,_,_,_,_,h'⟩
         ·exact h'
         ·rw [h'] at h;cases h
        have hlc := ld_live hopc I.wr I.tv hfl
        have hli : l < (sts i).heap.length := look_some (st := { sts i with lo := (sts i).heap.length }) hs' hfl
        have hfi : fo i = .ld l := by rw [hfoi,← hfl];exact (foot_congr hag1 h _ _ _ _).symm
        rw [hst3]
        show (sts c).heap[l]? = (sts i).heap[l]?
        rcases Nat.lt_or_ge i c with hic | hic
        ·refine T.same hgr hli (Nat.le_of_lt hic) I.cK (fun x dx h6 h7 h8 h9 => ?_)
         refine C.free fs hfo i x d dx l (fo x) hd h8 h h9 ?_ ?_ (by rw [hfs i hlt,hfi]) (hfs x (Nat.lt_of_lt_of_le h7 I.cK))
         ·cases hor : ordered (masks pl []) i x with
          | false => rfl
          | true => exact absurd (ordered_in I.closed hor (I.cD x dx h7 h8 h9)) hn
         ·cases hor : ordered (masks pl []) x i with
          | false => rfl
          | true => have := ordered_lt C hpl hor;omega
        ·refine (T.same hgr hlc hic hiK (fun x dx h6 h7 h8 h9 => ?_)).symm
         have hx : ¬ Don listed x := by
          intro hx
          rcases I.cN with h10 | ⟨d',h10,h11,h12,h13⟩
          ·omega
          ·rcases Nat.lt_or_ge c x with h14 | h14
           ·exact h13 (ordered_in I.closed (C.heavy c x d' dx h14 h11 h8 (by unfold isHeavy;simp [h12]) (by unfold isHeavy;simp [h9]) (by omega)) hx)
           ·have : x = c := by omega
            subst this;exact h13 hx
         refine C.free fs hfo i x d dx l (fo x) hd h8 h h9 ?_ ?_ (by rw [hfs i hlt,hfi]) (hfs x (by omega))
         ·cases hor : ordered (masks pl []) i x with
          | false => rfl
          | true => have := ordered_lt C hpl hor;omega
         ·cases hor : ordered (masks pl []) x i with
          | false => rfl
          | true => exact absurd (ordered_closed I.closed hor hp) hx
      have fin : ∀ {G1 : Gh} {w1 : World} {u : Value},WR P B0 w0 G1 (sts c).heap w1 → Ext G (sts c).heap w G1 (sts c).heap w1 (sts c).heap.length → VR G1 w1 (vs i) u →
        ∃ c' G' tmS',Inv P B0 w0 B ds pl tm st K tms sts vs GS wS st'.lo (listed.setIfInBounds i true) (a.put o.dst u) w1 c' G' tmS' := by
       intro G1 w1 u hw1 hx hv
       rw [← hdst]
       refine I.stay C hd hlt h2 hn hp hw1 (fun x dx hx' hxi hdx hwx hwtx q1 q2 => ⟨?_,?_⟩) (I.ext.trans (hx.lo (Nat.le_trans (hlox I.cK) (hlen0 I.cK)))) hx.pres hv ((I.df.ext hx (Nat.le_refl _)).le hx.size)
       ·cases hb : G1.be (sts x).heap.length with
        | none => rfl
        | some b => have := (hx.nbe hb q1).1;have := hholec hx' hdx hwx hwtx;omega
       ·cases hb : G1.tg (sts x).heap.length with
        | none => rfl
        | some b => have := (hx.ntg hb q2).1;have := hholec hx' hdx hwx hwtx;omega
      rcases hop with hopc | ⟨sz,nn,z,ps,hopc,hsh⟩
      ·obtain ⟨_,h7⟩ := oper_ok (st := { heap := (sts c).heap,lo := (sts c).heap.length }) hE hrec hopc (Nat.le_refl _) I.wr I.tv (hH rfl)
       exact h7 F n hF _ _ (fun G1 w1 u hw1 hx hv => fin hw1 hx hv)
      ·have hs3 := hH (st3 := { heap := (sts c).heap,lo := (sts c).heap.length }) rfl
       rw [hsh] at hs3
       obtain ⟨_,G1,w1,u,hrun,q1,q2,q3⟩ := ok_buildSliceS (st := { heap := (sts c).heap,lo := (sts c).heap.length }) hopc I.wr I.tv hs3
       refine ⟨fun f _ => hF.fn f,?_⟩
       rw [Oper.semAt_eq _ _ _ (opC_defer hopc)]
       have hrun' : (execOp a.eval o).run P w = _ := hrun
       rw [hrun']
       exact fin q1 (q2 _) q3
   ·rw [hwant] at h;cases h
  · -- the panic
   have hik : i = K := by omega
   subst hik
   rcases hend with ⟨h1,_⟩ | ⟨h1,d',v,st2,h2,h3,h4,h5,h6,h7⟩
   ·have := C.len;omega
   ·rw [hd] at h2;cases h2
    have hw2 : weight d.op = 2 := by
     rcases stepOp_panic h4 with h | ⟨x,h⟩
     ·revert h;cases d.op <;> simp [DOp.isCall,weight]
     ·rw [h];rfl
    have hopc : opC P mu o = some d.op := by
     rcases hop with h | ⟨_,_,_,_,_,h⟩
     ·exact h
     ·rw [h] at hw2;cases hw2
    have hck : c = i := by
     rcases I.cN with h | ⟨d',h8,h9,h10,h11⟩
     ·exact h
     ·exact absurd (ordered_closed I.closed (C.heavy c i d' d h8 h9 hd (by unfold isHeavy;simp [h10]) (by unfold isHeavy;simp [hw2]) (by omega)) hp) h11
    subst hck
    rw [← stepOp_congr hag1] at h4
    obtain ⟨_,h8⟩ := oper_ok (st := { sts c with lo := (sts c).heap.length }) hE hrec hopc (Nat.le_refl _) I.wr I.tv h4
    refine h8 F n hF _ _ (fun G1 w1 u hw1 hx hv => ?_)
    have hlo2 : st'.lo ≤ st2.lo := by rw [h7];exact Nat.min_le_right _ _
    have hh : st'.heap = st2.heap := by rw [h7]
    subst h5
    exact ⟨G1,by rw [hh];exact hw1,by rw [hh];exact I.ext.trans (hx.lo hlo2),⟨u,rfl,hv⟩,.inl trivial,(I.df.ext hx (Nat.le_refl _)).le hx.size⟩
 · -- it is not wanted
  rw [if_neg hwant]
  refine ⟨fun f _ => hF.fn f,?_⟩
  have hlt : i < K := by
   rcases Nat.lt_or_ge i K with h | h
   ·exact h
   ·exfalso
    have hik : i = K := by omega
    subst hik
    rcases hend with ⟨h1,_⟩ | ⟨h1,d',v,st2,h2,h3,_⟩
    ·have := C.len;omega
    ·rw [hd] at h2;cases h2;exact hwant h3
  rcases (T.step i d hlt hd).1 with ⟨h,_⟩ | ⟨_,hvi,hst,_⟩
  ·exact absurd h hwant
  ·rw [← hdst]
   have hu : VR G w (vs i) Go.undef := by rw [hvi];exact VR.undef
   by_cases h2 : weight d.op = 2
   ·have hic := I.turn C hd hlt h2 hn hp
    subst hic
    exact I.advance T C hd hlt h2 hn hp (by rw [hst];exact I.wr) (by rw [hst];exact I.ext) (.refl _ _) hu I.df hgr
   ·exact I.stay C hd hlt h2 hn hp I.wr (fun x dx _ _ _ _ _ q1 q2 => ⟨q1,q2⟩) I.ext (.refl _ _) hu I.df
end
end Go.Den
end
section
namespace Go.Den
section
variable {P : Program} {B0 : Nat} {w0 : World} {B : Nat} {ds : List DOper} {pl : List (List Nat)} {tm : List PV} {st : St} {K : Nat} {tms : Nat → List PV} {sts : Nat → St} {vs : Nat → PV} {GS : Gh} {wS : World} {E : Env} {rec : Rec} {fo : Nat → Foot} {mu : TypeId → Bool} {ops : Array Oper} {free : List (Nat × List Nat)}
 {listed : Array Bool} {a : Act} {w : World} {c : Nat} {G : Gh} {tmS : List PV} {e : Ex} {tm' : List PV} {st' : St} {fs : List Foot}
theorem ready_nil (C : Checked P mu ops ds pl free) (hsz : listed.size = ds.length) (h : Region.ready .any ops listed = []) : ∀ j,j < ops.size → Don listed j := by
 intro j
 induction j using Nat.strongRecOn with
 | _ j ih =>
  intro hj
  by_cases hn : Don listed j
  ·exact hn
  ·exfalso
   have hjl : j < listed.size := by rw [hsz,C.len];exact hj
   have : j ∈ Region.ready .any ops listed := by
    refine mem_ready.2 ⟨?_,ops[j],Array.getElem?_eq_getElem hj,fun ed he hb => ?_⟩
    ·unfold Don at hn
     rw [Array.getD_eq_getD_getElem?,Array.getElem?_eq_getElem hjl] at hn ⊢
     simpa using hn
    ·have hm : ed.on ∈ pl.getD j [] := by
      rw [C.plOf j _ (Array.getElem?_eq_getElem hj)]
      unfold preds
      exact List.mem_map.2 ⟨ed,List.mem_filter.2 ⟨by simpa using he,hb⟩,rfl⟩
     have hlt := C.preds j hj _ hm
     exact ih _ hlt (by omega)
   rw [h] at this
   cases this
theorem done_ok (T : Trace E rec ds tm st K tms sts vs fo) (C : Checked P mu ops ds pl free) (hend : TEnd E rec ds K tms sts e tm' st') (I : Inv P B0 w0 B ds pl tm st K tms sts vs GS wS st'.lo listed a w c G tmS) (hr : Region.ready .any ops listed = []) :
  Post P B0 w0 B GS st wS e tm' st' .normal a w := by
 have hall := ready_nil C I.sz hr
 rcases hend with ⟨h1,h2,h3,h4⟩ | ⟨h1,_⟩
 ·have hcK : c = K := by
   rcases I.cN with h | ⟨d,h5,h6,h7,h8⟩
   ·exact h
   ·exact absurd (hall c (by have := C.len;omega)) h8
  subst hcK
  subst h2
  have htm : tmS = tm' := by
   rw [h3]
   refine List.ext_getElem? (fun t => ?_)
   by_cases hwr : ∃ (i : Nat) (di : DOper),ds[i]? = some di ∧ di.dst = some t
   ·obtain ⟨i,di,hi,hd⟩ := hwr
    have hil : i < ds.length := (List.getElem?_eq_some_iff.1 hi).1
    have uniq : ∀ (x : Nat) (dx : DOper),x ≠ i → ds[x]? = some dx → dx.dst ≠ some t := fun x dx hx hdx => C.once i x di dx t (Ne.symm hx) hi hdx hd
    by_cases htl : t < tm.length
    ·rw [I.tn i di t (hall i (by have := C.len;omega)) hi hd htl,T.new (by omega) hi hd htl uniq (by omega) (Nat.le_refl _)]
    ·rw [List.getElem?_eq_none (by rw [I.tl];omega),List.getElem?_eq_none (by rw [T.tlen (Nat.le_refl _)];omega)]
   ·have h : ∀ (x : Nat) (dx : DOper),ds[x]? = some dx → dx.dst ≠ some t := fun x dx h1 h2 => hwr ⟨x,dx,h1,h2⟩
    rw [I.told t (fun x dx _ h2 => h x dx h2),T.old (Nat.le_refl _) (fun x dx _ h2 => h x dx h2)]
  exact ⟨G,by rw [h4];exact I.wr,by have := I.ext;rw [h4] at this ⊢;exact this,rfl,.inr (htm ▸ I.tv),I.df⟩
 ·exact absurd (I.SK K (hall K (by have := C.len;omega))) (Nat.lt_irrefl _)
theorem any_ok (hE : EnvOK P E) (hgr : GrowCall rec) (hrec : SoundCall P B0 w0 rec) (T : Trace E rec ds tm st K tms sts vs fo) (C : Checked P mu ops ds pl free) (hpl : pl.length = ops.size) (hend : TEnd E rec ds K tms sts e tm' st') (hfo : footOk fs free = true) (hfs : ∀ j,j < K → fs[j]? = some (fo j)) (hlo : st.lo ≤ st.heap.length)
  {F : Fence} {n : Nat} (hF : IsWide F) : ∀ (fuel : Nat) {listed : Array Bool} {a : Act} {w : World} {c : Nat} {G : Gh} {tmS : List PV},Inv P B0 w0 B ds pl tm st K tms sts vs GS wS st'.lo listed a w c G tmS → listed.toList.count false ≤ fuel →
  wpAnyIn F n P .any ops (Post P B0 w0 B GS st wS e tm' st') fuel listed a w
 | 0,listed,a,w,c,G,tmS,I,hc => by
  have hr : Region.ready .any ops listed = [] := by
   rw [List.eq_nil_iff_forall_not_mem]
   intro i hi
   obtain ⟨h1,o,ho,_⟩ := mem_ready.1 hi
   have hlt : i < listed.size := by rw [I.sz,C.len];exact (Array.getElem?_eq_some_iff.1 ho).1
   rw [Array.getD_eq_getD_getElem?,Array.getElem?_eq_getElem hlt] at h1
   have : false ∈ listed.toList := by
    rw [← (show listed[i] = false by simpa using h1)]
    exact Array.mem_toList_iff.2 (Array.getElem_mem hlt)
   have := List.count_pos_iff.2 this
   omega
  exact ⟨hr,done_ok T C hend I hr⟩
 | fuel + 1,listed,a,w,c,G,tmS,I,hc => by
  refine ⟨fun hr => done_ok T C hend I hr,fun i hi => ?_⟩
  refine wpOpIn_mono (fun a' w' h => ?_) (step_ok hE hgr hrec T C hpl hend hfo hfs hlo hF I hi)
  obtain ⟨c',G',tmS',I'⟩ := h
  refine any_ok hE hgr hrec T C hpl hend hfo hfs hlo hF fuel I' ?_
  obtain ⟨h1,o,ho,_⟩ := mem_ready.1 hi
  have hlt : i < listed.size := by rw [I.sz,C.len];exact (Array.getElem?_eq_some_iff.1 ho).1
  rw [Array.getD_eq_getD_getElem?,Array.getElem?_eq_getElem hlt] at h1
  have h2 : listed[i] = false := by simpa using h1
  rw [Array.toList_setIfInBounds,List.count_set (by simpa using hlt)]
  simp [h2]
  have : false ∈ listed.toList := by rw [← h2];exact Array.mem_toList_iff.2 (Array.getElem_mem hlt)
  have := List.count_pos_iff.2 this
  simp at this hc
  omega
theorem draw_ok (hm : P.follows .mixedOrders = true) (hE : EnvOK P E) (hgr : GrowCall rec) (hrec : SoundCall P B0 w0 rec) : SoundDraw P B0 w0 E rec := by
 intro mu id ops ds free hc tm st e tm' st' fs hs hfo hlo F n hF B G w a hw ht hd
 obtain ⟨K,tms,sts,vs,fo,T,hend,hfs⟩ := trace_of hs
 have C := checked hc
 refine wpIn_region_any hm ?_
 have hxs : ∀ lo,Ext G st.heap w G st.heap { w with drawn := w.drawn + 1 } lo := fun lo => Ext.same rfl
 obtain ⟨c,h1,h2,h3,h4⟩ := T.next _ 0 rfl (Nat.zero_le _)
 obtain ⟨ex,hex⟩ := T.ext 0 h1 h2 (fun x d h5 h6 h7 => h4 x d h5 h6 h7)
 rw [T.z2] at hex
 have hD : ∀ i,¬ Don (Array.replicate ops.size false) i := fun i => by
  unfold Don
  rw [Array.getD_eq_getD_getElem?,Array.getElem?_replicate]
  split <;> simp
 refine any_ok (fs := fs) (free := free) hE hgr hrec T C (by simp) hend hfo hfs hlo hF _ (c := c) (G := G) (tmS := tm) ?_ ?_
 ·refine ⟨by simp [C.len],fun j hj => absurd hj (hD j),h2,?_,fun i d h5 h6 h7 => absurd h7 (h4 i d (Nat.zero_le _) h5 h6),fun i hi => absurd hi (hD i),by rw [hex];exact WR.pad (WR.same (w' := { w with drawn := w.drawn + 1 }) hw rfl) ex,fun i d h5 h6 h7 h8 _ => ?_,by rw [hex];exact (hxs _).pad ex,rfl,VRL.mono (hxs 0).pres ht,fun i d t hi => absurd hi (hD i),fun t _ => rfl,hd.ext (hxs 0) (Nat.le_refl _)⟩
  ·rcases h3 with h | ⟨d,h5,h6,h7⟩
   ·exact .inl h
   ·exact .inr ⟨d,h5,h6,h7,hD c⟩
  ·have := (T.grow hgr (Nat.zero_le i) (show i ≤ K by omega)).2.1
   rw [T.z2] at this
   exact hw.dom this
 ·simp
end
theorem run_ok {P : Program} {B0 : Nat} {w0 : World} {E : Env} (hm : P.follows .mixedOrders = true) (hE : EnvOK P E) (hF : EnvFn P E) (hP : PrimOK P B0 w0 E) (hPg : PrimGrows E) (N : Nat) : SoundCall P B0 w0 (run E N) ∧ SoundCode P B0 w0 (run E N) :=
 run_sound hE hF hP hPg (fun _ hgr hrec => draw_ok hm hE hgr hrec) N
end Go.Den
end
section
namespace Go.Den
section
variable {E : Env}
def Wp (E : Env) (c : DCode) (Q : Ex → List PV → St → Prop) (tm : List PV) (st : St) : Prop :=
 ∃ N e tm' st',(∀ n,N ≤ n → (run E n).code c tm st = some (e,tm',st')) ∧ Q e tm' st'
def Cl (E : Env) (f : PV) (args : List PV) (st : St) (r : CR) (st' : St) : Prop := ∃ N,∀ n,N ≤ n → (run E n).call f args st = some (r,st')
variable {Q : Ex → List PV → St → Prop} {tm : List PV} {st : St}
theorem Wp.mono {c : DCode} {Q' : Ex → List PV → St → Prop} (h : Wp E c Q tm st) (hq : ∀ e tm st,Q e tm st → Q' e tm st) : Wp E c Q' tm st := by
 obtain ⟨N,e,tm',st',h1,h2⟩ := h
 exact ⟨N,e,tm',st',h1,hq _ _ _ h2⟩
theorem Wp.of_step {c : DCode} {e : Ex} {tm' : List PV} {st' : St} (N : Nat) (h : ∀ n,N ≤ n → stepCode E (run E n) c tm st = some (e,tm',st')) (hq : Q e tm' st') : Wp E c Q tm st := by
 refine ⟨N + 1,e,tm',st',fun n hn => ?_,hq⟩
 obtain ⟨m,rfl⟩ : ∃ m,n = m + 1 := ⟨n - 1,by omega⟩
 exact h m (by omega)
theorem wp_skip (h : Q .normal tm st) : Wp E .skip Q tm st := .of_step 0 (fun _ _ => rfl) h
theorem wp_ret (h : Q .ret tm st) : Wp E .ret Q tm st := .of_step 0 (fun _ _ => rfl) h
theorem wp_exit {id : Nat} (h : Q (.exit id) tm st) : Wp E (.exit id) Q tm st := .of_step 0 (fun _ _ => rfl) h
def andThen (K : List PV → St → Prop) (Q : Ex → List PV → St → Prop) : Ex → List PV → St → Prop
 | .normal,tm,st => K tm st
 | e,tm,st => Q e tm st
theorem wp_seq {a b : DCode} (h : Wp E a (andThen (Wp E b Q) Q) tm st) : Wp E (.seq a b) Q tm st := by
 obtain ⟨N,e,tm1,st1,h1,h2⟩ := h
 cases e with
 | normal =>
  obtain ⟨M,e,tm2,st2,h3,h4⟩ := h2
  refine .of_step (max N M) (fun n hn => ?_) h4
  simp only [stepCode,h1 n (by omega),h3 n (by omega)]
 | ret => exact .of_step N (fun n hn => by simp only [stepCode,h1 n hn]) h2
 | exit id => exact .of_step N (fun n hn => by simp only [stepCode,h1 n hn]) h2
 | panic v => exact .of_step N (fun n hn => by simp only [stepCode,h1 n hn]) h2
theorem wp_cond {c : Opd} {a b : DCode} {t : Bool} (hc : c.ev tm = .bool t) (h : Wp E (if t then a else b) Q tm st) : Wp E (.cond c a b) Q tm st := by
 obtain ⟨N,e,tm1,st1,h1,h2⟩ := h
 refine .of_step N (fun n hn => ?_) h2
 simp only [stepCode,hc]
 cases t <;> exact h1 n hn
def inBlock (id : Nat) (Q : Ex → List PV → St → Prop) : Ex → List PV → St → Prop
 | .exit i,tm,st => if i = id then Q .normal tm st else Q (.exit i) tm st
 | e,tm,st => Q e tm st
theorem wp_block {id : Nat} {b : DCode} (h : Wp E b (inBlock id Q) tm st) : Wp E (.block id b) Q tm st := by
 obtain ⟨N,e,tm1,st1,h1,h2⟩ := h
 cases e with
 | exit i =>
  simp only [inBlock] at h2
  split at h2
  ·rename_i hi;exact .of_step N (fun n hn => by simp only [stepCode,h1 n hn,hi,if_true]) h2
  ·rename_i hi;exact .of_step N (fun n hn => by simp only [stepCode,h1 n hn,hi,if_false]) h2
 | normal => exact .of_step N (fun n hn => by simp only [stepCode,h1 n hn]) h2
 | ret => exact .of_step N (fun n hn => by simp only [stepCode,h1 n hn]) h2
 | panic v => exact .of_step N (fun n hn => by simp only [stepCode,h1 n hn]) h2
theorem wp_scope {b : DCode} (h : Wp E b Q tm st) : Wp E (.scope b) Q tm st := by
 obtain ⟨N,e,tm1,st1,h1,h2⟩ := h
 exact .of_step N (fun n hn => by simp only [stepCode,h1 n hn]) h2
theorem wp_loop {b : DCode} (J : Nat → List PV → St → Prop) (h : ∀ k tm st,J k tm st → Wp E b (andThen (fun tm st => ∃ j,j < k ∧ J j tm st) Q) tm st) : ∀ k {tm st},J k tm st → Wp E (.loop b) Q tm st := by
 intro k
 induction k using Nat.strongRecOn with
 | _ k ih =>
  intro tm st hJ
  obtain ⟨N,e,tm1,st1,h1,h2⟩ := h k tm st hJ
  cases e with
  | normal =>
   obtain ⟨j,hj,hJ1⟩ := h2
   obtain ⟨M,e,tm2,st2,h3,h4⟩ := ih j hj hJ1
   refine .of_step (max N M) (fun n hn => ?_) h4
   simp only [stepCode,h1 n (by omega),h3 n (by omega)]
  | ret => exact .of_step N (fun n hn => by simp only [stepCode,h1 n hn]) h2
  | exit id => exact .of_step N (fun n hn => by simp only [stepCode,h1 n hn]) h2
  | panic v => exact .of_step N (fun n hn => by simp only [stepCode,h1 n hn]) h2
theorem wp_region {ops : List DOper} {e : Ex} {tm' : List PV} {st' : St} (N : Nat) (h : ∀ n,stepOps E (run E (n + N)) ops tm st = some (e,tm',st')) (hq : Q e tm' st') : Wp E (.region ops) Q tm st :=
 .of_step N (fun n hn => by
  have := h (n - N)
  rw [Nat.sub_add_cancel hn] at this
  exact this) hq
theorem cl_of_wp {g : Nat} {a c args : List PV} {df : DFunc} {r : CR} {st' : St} (hp : ∀ rec,E.prim g rec (a ++ args ++ c) st = none) (hf : E.fn g = some df)
  (h : Wp E df.body (fun e tm1 st1 => match e with
   | .normal | .ret => ∃ v,results tm1 st1.heap df.results = some v ∧ ∃ v',finishCall st st1 v = (v',st') ∧ r = .ret v'
   | .panic v => r = .panic v ∧ st' = { heap := st1.heap,lo := min st.lo st1.lo }
   | .exit _ => False) ((a ++ args ++ c) ++ List.replicate (df.ntmps - (a ++ args ++ c).length) undef) { st with lo := st.heap.length }) : Cl E (.func g a c) args st r st' := by
 obtain ⟨N,e,tm1,st1,h1,h2⟩ := h
 refine ⟨N + 1,fun n hn => ?_⟩
 obtain ⟨m,rfl⟩ : ∃ m,n = m + 1 := ⟨n - 1,by omega⟩
 show stepCall E (run E m) (.func g a c) args st = _
 simp only [stepCall,enter,hp,hf,h1 m (by omega)]
 cases e with
 | normal => obtain ⟨v,h3,v',h4,h5⟩ := h2;simp only [h3,h4,h5]
 | ret => obtain ⟨v,h3,v',h4,h5⟩ := h2;simp only [h3,h4,h5]
 | panic v => obtain ⟨h3,h4⟩ := h2;rw [h3,h4]
 | exit id => exact h2.elim
end
theorem andThen_normal {K : List PV → St → Prop} {Q : Ex → List PV → St → Prop} {tm : List PV} {st : St} (h : K tm st) : andThen K Q .normal tm st := h
theorem andThen_ret {K : List PV → St → Prop} {Q : Ex → List PV → St → Prop} {tm : List PV} {st : St} (h : Q .ret tm st) : andThen K Q .ret tm st := h
theorem andThen_exit {K : List PV → St → Prop} {Q : Ex → List PV → St → Prop} {tm : List PV} {st : St} {i : Nat} (h : Q (.exit i) tm st) : andThen K Q (.exit i) tm st := h
theorem inBlock_normal {Q : Ex → List PV → St → Prop} {tm : List PV} {st : St} {id : Nat} (h : Q .normal tm st) : inBlock id Q .normal tm st := h
theorem inBlock_ret {Q : Ex → List PV → St → Prop} {tm : List PV} {st : St} {id : Nat} (h : Q .ret tm st) : inBlock id Q .ret tm st := h
theorem inBlock_same {Q : Ex → List PV → St → Prop} {tm : List PV} {st : St} {id : Nat} (h : Q .normal tm st) : inBlock id Q (.exit id) tm st := by simpa [inBlock] using h
theorem inBlock_other {Q : Ex → List PV → St → Prop} {tm : List PV} {st : St} {id i : Nat} (hn : i ≠ id) (h : Q (.exit i) tm st) : inBlock id Q (.exit i) tm st := by simpa [inBlock,hn] using h
attribute [irreducible] Wp andThen inBlock
end Go.Den
end

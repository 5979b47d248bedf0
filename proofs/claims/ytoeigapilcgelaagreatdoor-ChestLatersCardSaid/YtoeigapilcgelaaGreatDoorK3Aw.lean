/- Part of the proofs of laws of the package chest. Texts: ChLa, ChMa, ChMb, ChMd, ChMe. -/
import Derived.Test.YtoeigapilcgelaaGreatDoorK3Av
set_option linter.unusedSimpArgs false
set_option linter.unusedVariables false
section
namespace Go.Den
theorem undef_e : undef = .tuple [] := rfl
end Go.Den
namespace Go.Den.Ch
def sumL (c : CL) (p : List Int) (n : Int) : Int := (layerL c.figs p n).sum
def NoFull (c : CL) (p : List Int) : Prop := ∀ n : Int,0 ≤ n → n < c.depth → ¬ sumL c p n > c.room
def NoGap (c : CL) (p : List Int) : Prop := ∀ n : Int,0 ≤ n → n < layersL p → sumL c p n ≠ 0
def NoDis (c : CL) (p : List Int) (i : Nat) : Prop := ∀ (a b : Nat) (x y : Int) (f g : Fig),p[a]? = some x → p[b]? = some y → c.figs[a]? = some f → c.figs[b]? = some g → x < y → ¬ key i f > key i g
theorem sum_zero {l : List Int} (h : ∀ x ∈ l,1 ≤ x) (hs : l.sum = 0) : l = [] := by
 cases l with
 | nil => rfl
 | cons x l =>
  have h1 := h x (by simp)
  have h2 := (sum_bound (l := l) (b := l.foldl max 0) (by
   have : ∀ (l : List Int) (a : Int),a ≤ l.foldl max a := by
    intro l
    induction l with
    | nil => intro a;exact Int.le_refl _
    | cons y l ih => intro a;exact Int.le_trans (Int.le_max_left a y) (ih _)
   exact this l 0) (fun y hy => ⟨by have := h y (by simp [hy]);omega,by
    have : ∀ (l : List Int) (a : Int),y ∈ l → y ≤ l.foldl max a := by
     intro l
     induction l with
     | nil => intro a h;simp at h
     | cons z l ih =>
      intro a h
      have mono : ∀ (l : List Int) (a : Int),a ≤ l.foldl max a := by
       intro l
       induction l with
       | nil => intro a;exact Int.le_refl _
       | cons y l ih => intro a;exact Int.le_trans (Int.le_max_left a y) (ih _)
      rcases List.mem_cons.1 h with rfl | h
      ·exact Int.le_trans (Int.le_max_right a y) (mono l _)
      ·exact ih _ h
    exact this l 0 hy⟩)).1
  simp only [List.sum_cons] at hs
  omega
theorem fullL_none {c : CL} {p : List Int} (h : fullL c p = none) : NoFull c p := by
 intro n h0 h1 h2
 have := List.findSome?_eq_none_iff.1 h n.toNat (by rw [List.mem_range];omega)
 have h2' : (layerL c.figs p n).sum > c.room := h2
 rw [Int.toNat_of_nonneg h0,if_pos h2'] at this
 cases this
theorem gapL_none {c : CL} {p : List Int} (hc : OkL c) (h : gapL c p = none) : NoGap c p := by
 intro n h0 h1 h2
 have := List.findSome?_eq_none_iff.1 h n.toNat (by rw [List.mem_range];omega)
 rw [Int.toNat_of_nonneg h0] at this
 have he : layerL c.figs p n = [] := sum_zero (fun x hx => ((hc.layer p n).2 x hx).1) h2
 rw [he] at this
 simp at this
theorem disA_none {c : CL} {p : List Int} {i : Nat} (h : disA c p i = none) : NoDis c p i := by
 intro a b x y f g ha hb hfa hfb hxy hk
 have hla : a < c.figs.length := (List.getElem?_eq_some_iff.1 hfa).1
 have hlb : b < c.figs.length := (List.getElem?_eq_some_iff.1 hfb).1
 have h1 := List.findSome?_eq_none_iff.1 h a (List.mem_range.2 hla)
 have h2 := List.findSome?_eq_none_iff.1 h1 b (List.mem_range.2 hlb)
 have h3 : brk c p i a b = true := by
  unfold brk
  rw [ha,hb,hfa,hfb]
  simp [hxy,hk]
 rw [h3,if_pos rfl] at h2
 cases h2
theorem dis_none {c : CL} {p : List Int} (h : disorder c p = none) : NoDis c p 0 ∧ NoDis c p 1 :=
 ⟨disA_none (List.findSome?_eq_none_iff.1 h 0 (by simp)),disA_none (List.findSome?_eq_none_iff.1 h 1 (by simp))⟩
theorem fault_none {c : CL} {p : List Int} (hc : OkL c) (h : fault c p = none) : NoFull c p ∧ NoGap c p ∧ NoDis c p 0 ∧ NoDis c p 1 := by
 unfold fault at h
 rw [Option.or_eq_none_iff,Option.or_eq_none_iff] at h
 exact ⟨fullL_none h.1,gapL_none hc h.2.1,dis_none h.2.2⟩
inductive FaultSays (c : CL) (p : List Int) : Flt → Prop
 | full (n : Nat) (h1 : (n : Int) < c.depth) (h2 : sumL c p n > c.room) : FaultSays c p ⟨1,n,0⟩
 | gap (n : Nat) (h1 : (n : Int) < c.depth) (h2 : (n : Int) < layersL p) (h3 : sumL c p n = 0) (nf : NoFull c p) : FaultSays c p ⟨2,n,0⟩
 | rank (a b : Nat) (x y : Int) (f g : Fig) (ha : p[a]? = some x) (hb : p[b]? = some y) (hfa : c.figs[a]? = some f) (hfb : c.figs[b]? = some g) (h1 : x < y) (h2 : f.rank < g.rank) (nf : NoFull c p) (ng : NoGap c p) : FaultSays c p ⟨3,a,b⟩
 | eve (a b : Nat) (x y : Int) (f g : Fig) (ha : p[a]? = some x) (hb : p[b]? = some y) (hfa : c.figs[a]? = some f) (hfb : c.figs[b]? = some g) (h1 : x < y) (h2 : f.eve > g.eve) (nf : NoFull c p) (ng : NoGap c p) (nr : NoDis c p 0) : FaultSays c p ⟨4,a,b⟩
end Go.Den.Ch
end
section
namespace Go.Den.Ch
def bef : List Int → List Int → Bool
 | [],[] => false
 | [],_ :: _ => true
 | _ :: _,[] => false
 | a :: l,b :: m => if a = b then bef l m else decide (a < b)
theorem bef_irr : ∀ l,bef l l = false
 | [] => rfl
 | a :: l => by simp only [bef,if_true];exact bef_irr l
theorem bef_asym : ∀ l m,bef l m = true → bef m l = false
 | [],[],h => by cases h
 | [],_ :: _,_ => rfl
 | _ :: _,[],h => by cases h
 | a :: l,b :: m,h => by
  simp only [bef] at h ⊢
  by_cases e : a = b
  ·subst e;simp only [if_true] at h ⊢;exact bef_asym l m h
  ·rw [if_neg e] at h;rw [if_neg (Ne.symm e)]
   simp only [decide_eq_true_eq,decide_eq_false_iff_not] at *;omega
theorem bef_app (l m n : List Int) : bef (l ++ m) (l ++ n) = bef m n := by
 induction l with
 | nil => rfl
 | cons a l ih => simp only [List.cons_append,bef,if_true,ih]
theorem bef_lt {l m n : List Int} {a b : Int} (h : a < b) : bef (l ++ a :: m) (l ++ b :: n) = true := by
 rw [bef_app,bef,if_neg (by omega)];simp [h]
theorem dis_of {c : CL} {p : List Int} (h0 : NoDis c p 0) (h1 : NoDis c p 1) : disorder c p = none := by
 refine List.findSome?_eq_none_iff.2 fun i hi => List.findSome?_eq_none_iff.2 fun a _ => List.findSome?_eq_none_iff.2 fun b _ => ?_
 rw [List.mem_range] at hi
 have hn : NoDis c p i := by
  have : i = 0 ∨ i = 1 := by omega
  rcases this with rfl | rfl
  ·exact h0
  ·exact h1
 rw [if_neg]
 intro h
 unfold brk at h
 split at h
 ·rename_i x y f g e1 e2 e3 e4
  simp only [Bool.and_eq_true,decide_eq_true_eq] at h
  exact hn a b x y f g e1 e2 e3 e4 h.1 h.2
 ·cases h
theorem NoDis.take {c : CL} {now t : List Int} {i : Nat} (h : NoDis c (now ++ t) i) : NoDis { c with figs := c.figs.take now.length } now i := by
 intro a b x y f g ha hb hf hg
 have la : a < now.length := (List.getElem?_eq_some_iff.1 ha).1
 have lb : b < now.length := (List.getElem?_eq_some_iff.1 hb).1
 simp only [List.getElem?_take,la,lb,if_true] at hf hg
 exact h a b x y f g (by rw [List.getElem?_append_left la];exact ha) (by rw [List.getElem?_append_left lb];exact hb) hf hg
theorem fault_dis {c : CL} {p : List Int} (h : fault c p = none) : disorder c p = none := by
 unfold fault at h
 rw [Option.or_eq_none_iff,Option.or_eq_none_iff] at h
 exact h.2.2
theorem searchL_all {c : CL} : ∀ (k : Nat) (now t : List Int),t.length = k → now.length + k = c.figs.length → (∀ x ∈ t,0 ≤ x ∧ x < c.depth) → fault c (now ++ t) = none → now ++ t ∈ searchL c k now
 | 0,now,t,ht,_,_,h => by
  obtain rfl := List.eq_nil_of_length_eq_zero ht
  simp only [List.append_nil] at h ⊢
  simp [searchL,h]
 | k + 1,now,x :: t,ht,hk,hx,h => by
  have h1 : now ++ x :: t = (now ++ [x]) ++ t := by simp
  have hx0 := hx x (by simp)
  rw [h1] at h ⊢
  refine List.mem_flatMap.2 ⟨x.toNat,by rw [List.mem_range];omega,?_⟩
  rw [Int.toNat_of_nonneg hx0.1]
  have hd := dis_none (fault_dis h)
  have e : (now ++ [x]).length = now.length + 1 := by simp
  have hn := dis_of (NoDis.take hd.1) (NoDis.take hd.2)
  rw [e] at hn
  rw [hn]
  exact searchL_all k (now ++ [x]) t (by simpa using ht) (by simp at e ⊢;omega) (fun y hy => hx y (by simp [hy])) h
theorem mem_rights {c : CL} {p : List Int} : p ∈ rightsL c ↔ OkP c p ∧ fault c p = none :=
 ⟨rightsL_mem,fun h => searchL_all c.figs.length [] p h.1.len (by simp) h.1.rng h.2⟩
theorem searchL_pre {c : CL} : ∀ {k : Nat} {now p : List Int},p ∈ searchL c k now → ∃ t,p = now ++ t
 | 0,now,p,h => by
  unfold searchL at h
  split at h
  ·exact ⟨[],by simpa using h⟩
  ·cases h
 | k + 1,now,p,h => by
  obtain ⟨n,_,h1⟩ := List.mem_flatMap.1 h
  split at h1
  ·cases h1
  ·obtain ⟨t,rfl⟩ := searchL_pre h1
   exact ⟨(n : Int) :: t,by simp⟩
theorem searchL_sorted {c : CL} : ∀ (k : Nat) (now : List Int),(searchL c k now).Pairwise (fun a b => bef a b = true)
 | 0,now => by
  unfold searchL
  split
  ·exact List.pairwise_singleton _ _
  ·exact List.Pairwise.nil
 | k + 1,now => by
  refine List.pairwise_flatMap.2 ⟨fun n _ => ?_,List.Pairwise.imp ?_ (List.pairwise_lt_range (n := c.depth.toNat))⟩
  ·split
   ·exact List.Pairwise.nil
   ·exact searchL_sorted k _
  ·intro a b hab x hx y hy
   split at hx
   ·cases hx
   split at hy
   ·cases hy
   obtain ⟨t,rfl⟩ := searchL_pre hx
   obtain ⟨u,rfl⟩ := searchL_pre hy
   simp only [List.append_assoc,List.singleton_append]
   exact bef_lt (by omega)
theorem rights_sorted (c : CL) : (rightsL c).Pairwise (fun a b => bef a b = true) := searchL_sorted _ _
theorem best_aux {α : Type} {m : α → Int} : ∀ (X : List α) (o p : α),X.foldl (fun acc x => match acc with | none => some x | some o => if decide (m x < m o) then some x else some o) (some o) = some p →
  (p = o ∧ ∀ q ∈ X,m o ≤ m q) ∨ ∃ A B,X = A ++ p :: B ∧ m p < m o ∧ (∀ q ∈ A,m p < m q) ∧ ∀ q ∈ B,m p ≤ m q
 | [],o,p,h => by cases h;exact .inl ⟨rfl,fun _ h => by cases h⟩
 | x :: X,o,p,h => by
  simp only [List.foldl_cons] at h
  by_cases hx : m x < m o
  ·simp only [hx,decide_true,if_true] at h
   rcases best_aux X x p h with ⟨rfl,h1⟩ | ⟨A,B,rfl,h1,h2,h3⟩
   ·exact .inr ⟨[],X,rfl,hx,(fun _ h => by cases h),h1⟩
   ·refine .inr ⟨x :: A,B,rfl,by omega,fun q hq => ?_,h3⟩
    rcases List.mem_cons.1 hq with rfl | hq
    ·exact h1
    ·exact h2 q hq
  ·simp only [hx,decide_false,Bool.false_eq_true,if_false] at h
   rcases best_aux X o p h with ⟨rfl,h1⟩ | ⟨A,B,rfl,h1,h2,h3⟩
   ·refine .inl ⟨rfl,fun q hq => ?_⟩
    rcases List.mem_cons.1 hq with rfl | hq
    ·omega
    ·exact h1 q hq
   ·refine .inr ⟨x :: A,B,rfl,h1,fun q hq => ?_,h3⟩
    rcases List.mem_cons.1 hq with rfl | hq
    ·omega
    ·exact h2 q hq
theorem best_some {α : Type} {m : α → Int} {X : List α} {p : α} (h : bestF (fun a b => decide (m a < m b)) X = some p) : ∃ A B,X = A ++ p :: B ∧ (∀ q ∈ A,m p < m q) ∧ ∀ q ∈ B,m p ≤ m q := by
 cases X with
 | nil => cases h
 | cons x X =>
  rcases best_aux X x p h with ⟨rfl,h1⟩ | ⟨A,B,rfl,h1,h2,h3⟩
  ·exact ⟨[],X,rfl,(fun _ h => by cases h),h1⟩
  ·refine ⟨x :: A,B,rfl,fun q hq => ?_,h3⟩
   rcases List.mem_cons.1 hq with rfl | hq
   ·exact h1
   ·exact h2 q hq
theorem best_law {m : List Int → Int} {X : List (List Int)} {p : List Int} (hs : X.Pairwise (fun a b => bef a b = true)) (h : bestF (fun a b => decide (m a < m b)) X = some p) :
  p ∈ X ∧ ∀ q ∈ X,m p ≤ m q ∧ (m q = m p → bef q p = false) := by
 obtain ⟨A,B,rfl,hA,hB⟩ := best_some h
 refine ⟨by simp,fun q hq => ?_⟩
 rcases List.mem_append.1 hq with h1 | h1
 ·have := hA q h1
  exact ⟨by omega,by omega⟩
 ·rcases List.mem_cons.1 h1 with rfl | h2
  ·exact ⟨by omega,fun _ => bef_irr _⟩
  ·exact ⟨hB q h2,fun _ => bef_asym _ _ ((List.pairwise_cons.1 (List.pairwise_append.1 hs).2.1).1 q h2)⟩
theorem getD_in {p : List Int} {i : Nat} (hi : i < p.length) : p.getD i 0 = p[i] := by rw [List.getD_eq_getElem?_getD,List.getElem?_eq_getElem hi];rfl
theorem rising_cast (P : Nat → Bool) (n : Nat) : risingB n (castL ((List.range n).filter P)) = true := by
 refine List.all_eq_true.2 fun k hk => ?_
 rw [List.mem_range] at hk
 have hr := castL_ris P n
 rw [List.pairwise_iff_getElem] at hr
 obtain ⟨j,hj,ej⟩ := mem_castL (List.getElem_mem hk)
 rw [List.mem_filter,List.mem_range] at hj
 have eg := getD_in hk
 unfold riseP
 rw [eg,ej]
 have h1 : inB (j : Int) 0 ((n : Int) - 1) = true := by simp only [inB,Bool.and_eq_true,decide_eq_true_eq];omega
 rw [h1,Bool.true_and,Bool.not_eq_true',Bool.and_eq_false_iff]
 by_cases h0 : 0 < k
 ·refine .inr ?_
  have := hr (k - 1) k (by omega) hk (by omega)
  rw [getD_in (show k - 1 < _ by omega)]
  rw [decide_eq_false_iff_not]
  omega
 ·exact .inl (by simp [h0])
end Go.Den.Ch
end
section
namespace Go.Den.Ch
def fitsB (c : CL) (p : List Int) : Bool := packB c p && (fault c p).isNone
theorem hasI_yes {l : List Int} {x : Int} {i : Nat} (hi : i < l.length) (h : (l[i] == x) = true) : hasI l x = true := List.any_eq_true.2 ⟨_,List.getElem_mem hi,by rw [beq_iff_eq] at h ⊢;exact h.symm⟩
theorem hasI_no {l : List Int} {x : Int} (h : ∀ k (hk : k < l.length),(l[k] == x) = false) : hasI l x = false := List.any_eq_false.2 fun a ha => by
 obtain ⟨k,hk,rfl⟩ := List.getElem_of_mem ha
 have := h k hk
 rw [beq_eq_false_iff_ne] at this
 simp [Ne.symm this]
set_option maxHeartbeats 1000000 in
theorem c48 (F : PV) (l : List Int) (x : Int) (hF : SlOf 1 encI F l) (hN : l.length < 1000000) (st : St) : Cl EE (.func 48 [] []) [F,iv x] st (.ret (.bool (hasI l x))) st := by
 have hFs := hF.slen
 refine cl_fn (pr48 · _ _) fn48 2 rfl (by decide) (fun tm hl hg => ?_);have h0 : tg tm 0 = F := (hg 0 (by decide));have h1 : tg tm 1 = iv x := (hg 1 (by decide));clear hg
 refine go (bw hl h0) fnil ?_
 refine wp_for [5] (fun i vs st1 => vs = [iv i] ∧ i ≤ l.length ∧ (∀ k < i,∀ hk : k < l.length,(l[k] == x) = false) ∧ st1 = { heap := st.heap,lo := st.heap.length }) (fun i => l.length - i) ⟨by simp only [↓reduceIte,go_sem,hl];first | done | rfl,Nat.zero_le _,(fun k hk => absurd hk (by omega)),rfl⟩ ?_
 rintro i tm1 st1 ⟨hv,hi,hk,rfl⟩ hS
 simp only [List.map_cons,List.map_nil,List.cons.injEq,and_true] at hv
 have hl1 : tm1.length = 18 := (by rw [hS.1];simp only [put_len,hl]);have i0 : tg tm1 0 = F := (by rw [hS.2 0 (by decide)];simp only [↓reduceIte,go_sem,hl,h0,h1]);have i1 : tg tm1 1 = iv x := (by rw [hS.2 1 (by decide)];simp only [↓reduceIte,go_sem,hl,h0,h1]);clear hS
 refine go (bw4 hl1 hv i0 hFs) fnil ?_
 refine ⟨decide ((i : Int) < l.length),by simp only [↓reduceIte,go_sem,hl1],fun hb => ?_,fun hb1 => ?_⟩
 ·have hlt := of_decide_eq_false hb
  rw [hasI_no (fun k h => hk k (by omega) h)]
  refine go hl1 fnil ?_
  refine fnq_flat (results_one (by rw [rdRes_tmp];simp only [↓reduceIte,go_sem,hl1];first | done | rfl)) (by first | exact Nat.le_refl _ | omega | (simp only [lo_push,lo_setVar];omega)) (by rfl)
 ·have hlt : i < l.length := by have := of_decide_eq_true hb1;omega
  have hw1 : IntKind.wrap .i64 ((i : Int) + 1) = ((i + 1 : Nat) : Int) := wrap_nat (n := i + 1) (by omega)
  refine ⟨by omega,?_⟩
  cases hx : (l[i] == x)
  ·refine go (bw6 hl1 hv i0 i1 hx hw1) fnil ?_
   refine ⟨by simp only [↓reduceIte,go_sem,hl1],by omega,(fun k h hkl => ?_),rfl⟩
   by_cases hki : k = i
   ·subst hki;exact hx
   ·exact hk k (by omega) hkl
  ·rw [hasI_yes hlt hx]
   refine go (bw5 hl1 hv i0 i1 hx) fnil ?_
   refine fnq_flat (results_one (by rw [rdRes_tmp];simp only [↓reduceIte,go_sem,hl1];first | done | rfl)) (by first | exact Nat.le_refl _ | omega | (simp only [lo_push,lo_setVar];omega)) (by rfl)
def movedT (p q : List Int) (n : Nat) : Int := (((List.range n).filter (movP p q)).length : Int)
def movedM (p q : List Int) : Int := movedT p q (min p.length q.length)
theorem movedT_succ (p q : List Int) (i : Nat) : movedT p q (i + 1) = movedT p q i + (if movP p q i then 1 else 0) := by
 unfold movedT
 rw [List.range_succ,List.filter_append,List.length_append]
 cases h : movP p q i <;> simp [h]
theorem movedT_bound (p q : List Int) (i : Nat) : 0 ≤ movedT p q i ∧ movedT p q i ≤ i := by
 unfold movedT
 have := List.length_filter_le (movP p q) (List.range i)
 rw [List.length_range] at this
 omega
set_option maxHeartbeats 1000000 in
theorem c56 (F G : PV) (l m : List Int) (hF : SlOf 1 encI F l) (hG : SlOf 1 encI G m) (hN : l.length < 1000000) (st : St) : Cl EE (.func 56 [] []) [F,G] st (.ret (iv (movedM l m))) st := by
 have hFs := hF.slen
 have hGs := hG.slen
 refine cl_fn (pr56 · _ _) fn56 2 rfl (by decide) (fun tm hl hg => ?_);have h0 : tg tm 0 = F := (hg 0 (by decide));have h1 : tg tm 1 = G := (hg 1 (by decide));clear hg
 refine go (bw3 hl h0 h1) fnil ?_
 refine wp_for [6,5] (fun i vs st1 => vs = [iv i,iv (movedT l m i)] ∧ i ≤ l.length ∧ i ≤ m.length ∧ st1 = { heap := st.heap,lo := st.heap.length }) (fun i => l.length - i) ⟨by simp only [↓reduceIte,go_sem,hl];first | done | rfl,Nat.zero_le _,Nat.zero_le _,rfl⟩ ?_
 rintro i tm1 st1 ⟨hv,hi,hi2,rfl⟩ hS
 simp only [List.map_cons,List.map_nil,List.cons.injEq,and_true] at hv
 obtain ⟨hv6,hv5⟩ := hv
 have hl1 : tm1.length = 31 := (by rw [hS.1];simp only [put_len,hl]);have i0 : tg tm1 0 = F := (by rw [hS.2 0 (by decide)];simp only [↓reduceIte,go_sem,hl,h0,h1]);have i1 : tg tm1 1 = G := (by rw [hS.2 1 (by decide)];simp only [↓reduceIte,go_sem,hl,h0,h1]);clear hS
 cases d1 : decide ((i : Int) < l.length)
 ·have := of_decide_eq_false d1
  refine go (bw5 hl1 hv6 i0 hFs d1) fnil ?_
  refine ⟨false,by simp only [↓reduceIte,go_sem,hl1],fun _ => ?_,fun hb => by cases hb⟩
  have e : movedM l m = movedT l m i := by unfold movedM;rw [show min l.length m.length = i by omega]
  rw [e]
  refine go (bw hl1 hv5) fnil ?_
  refine fnq_flat (results_one (by rw [rdRes_tmp];simp only [↓reduceIte,go_sem,hl1];first | done | rfl)) (by first | exact Nat.le_refl _ | omega | (simp only [lo_push,lo_setVar];omega)) (by rfl)
 have hlt : i < l.length := by have := of_decide_eq_true d1;omega
 cases d2 : decide ((i : Int) < m.length)
 ·have := of_decide_eq_false d2
  refine go (bw8 hl1 hv6 i0 i1 hFs hGs d1 d2) fnil ?_
  refine ⟨false,by simp only [↓reduceIte,go_sem,hl1],fun _ => ?_,fun hb => by cases hb⟩
  have e : movedM l m = movedT l m i := by unfold movedM;rw [show min l.length m.length = i by omega]
  rw [e]
  refine go (bw hl1 hv5) fnil ?_
  refine fnq_flat (results_one (by rw [rdRes_tmp];simp only [↓reduceIte,go_sem,hl1];first | done | rfl)) (by first | exact Nat.le_refl _ | omega | (simp only [lo_push,lo_setVar];omega)) (by rfl)
 have hlt2 : i < m.length := by have := of_decide_eq_true d2;omega
 have hw1 : IntKind.wrap .i64 ((i : Int) + 1) = ((i + 1 : Nat) : Int) := wrap_nat (n := i + 1) (by omega)
 have hmv : movP l m i = (l[i] != m[i]) := by
  unfold movP
  rw [List.getD_eq_getElem?_getD,List.getD_eq_getElem?_getD,List.getElem?_eq_getElem hlt,List.getElem?_eq_getElem hlt2]
  rfl
 have hb := movedT_bound l m i
 have hsu := movedT_succ l m i
 rw [hmv] at hsu
 refine go (bw8 hl1 hv6 i0 i1 hFs hGs d1 d2) fnil ?_
 refine ⟨true,by simp only [↓reduceIte,go_sem,hl1],(fun hb => by cases hb),fun _ => ⟨by omega,?_⟩⟩
 cases hx : (l[i] != m[i])
 ·rw [hx] at hsu
  simp only [Bool.false_eq_true,if_false,Int.add_zero] at hsu
  refine go (bw7 hl1 hv6 hv5 i0 i1 hw1 hx) fnil ?_
  exact ⟨by simp only [↓reduceIte,go_sem,hl1,hsu,hv5],by omega,by omega,rfl⟩
 ·rw [hx] at hsu
  simp only [if_true] at hsu
  have hw : IntKind.wrap .i64 (movedT l m i + 1) = movedT l m (i + 1) := by rw [hsu];exact wrap_in (by unfold inI;omega)
  refine go (bw8 hl1 hv6 hv5 i0 i1 hw1 hw hx) fnil ?_
  exact ⟨by simp only [↓reduceIte,go_sem,hl1],by omega,by omega,rfl⟩
theorem r31 (c : CL) (F : PV) (hF : SlOf 3 encF F c.figs) (st : St) : ClR EE (.func 31 [] []) [clPV c F] st (fun v st' => ∃ P,v = .tuple [P,iv (bestR c).2.1,iv (bestR c).2.2] ∧ SlOf 1 encI P (bestR c).1 ∧ Keep st st') := by
 obtain ⟨v,st',h1,P,e,hW⟩ := c31 c F hF st
 exact ⟨v,st',h1,P,e,retI hW,keepW hW⟩
theorem zs : (∀ h : Decidable False,decide (h := h) False = false) ∧ (∀ h : Decidable True,decide (h := h) True = true) ∧ (((0 : Int) != 0) = false) ∧ (((5 : Int) != 0) = true) ∧ (((7 : Int) != 0) = true) ∧ (((5 : Int) == 5) = true) ∧ (((0 : Int) == 0) = true) ∧ (((5 : Int) == 0) = false) ∧ (((7 : Int) == 7) = true) ∧ (((7 : Int) == 0) = false) ∧ (((7 : Int) != 7) = false) ∧ (((5 : Int) != 5) = false) ∧ (decide ((0 : Int) < 0) = false) ∧ (decide ((0 : Int) > 0) = false) ∧ ((true != true) = false) ∧ ((false != false) = false) ∧ ((true != false) = true) ∧ ((false != true) = true) := ⟨fun h => by cases h <;> first | rfl | contradiction,fun h => by cases h <;> first | rfl | contradiction,by decide⟩
theorem nne (n : Int) : (n != n) = false := by simp
theorem nee (n : Int) : (n == n) = true := by simp
theorem r32 (c : CL) (F : PV) (hF : SlOf 3 encF F c.figs) (hA : listB c = true) (st : St) : Cl EE (.func 32 [] []) [clPV c F] st (.ret (.tuple [iv (rightsL c).length,iv 0])) st := by
 have h := c32 c F hF (by have := rightsL_len (OkL.of hA);omega) st
 rw [hA] at h
 exact h
theorem r39 (c : CL) (F : PV) (hF : SlOf 3 encF F c.figs) (st : St) : ClR EE (.func 39 [] []) [clPV c F] st (fun v st' => ∃ P,v = .tuple [P,iv (knownR c).2] ∧ SlOf 2 enc2 P (knownR c).1 ∧ Keep st st') := by
 obtain ⟨v,st',h1,P,e,hW⟩ := c39 c F hF st
 exact ⟨v,st',h1,P,e,ret2 hW,keepW hW⟩
theorem r40 (c : CL) (F : PV) (hF : SlOf 3 encF F c.figs) (st : St) : ClR EE (.func 40 [] []) [clPV c F] st (fun v st' => ∃ P,v = .tuple [P,iv (groupsR c).2] ∧ SlOf 1 encI P (groupsR c).1 ∧ Keep st st') := by
 obtain ⟨v,st',h1,P,e,hW⟩ := c40 c F hF st
 exact ⟨v,st',h1,P,e,retI hW,keepW hW⟩
theorem r49 (c : CL) (F : PV) (hF : SlOf 3 encF F c.figs) (st : St) : ClR EE (.func 49 [] []) [clPV c F] st (fun v st' => ∃ P,v = .tuple [P,iv (easeR c).2.1,iv (easeR c).2.2] ∧ SlOf 1 encI P (easeR c).1 ∧ Keep st st') := by
 obtain ⟨v,st',h1,P,e,hW⟩ := c49 c F hF st
 exact ⟨v,st',h1,P,e,retI hW,keepW hW⟩
theorem r53 (c : CL) (F Q : PV) (q : List Int) (f : Fig) (hF : SlOf 3 encF F c.figs) (hQ : SlOf 1 encI Q q) (st : St) : ClR EE (.func 53 [] []) [clPV c F,Q,figPV f] st (fun v st' => ∃ P,v = .tuple [P,iv (laterR c q f).2.1,iv (laterR c q f).2.2] ∧ SlOf 1 encI P (laterR c q f).1 ∧ Keep st st') := by
 obtain ⟨v,st',h1,P,e,hW⟩ := c53 c F Q q f hF hQ st
 exact ⟨v,st',h1,P,e,retI hW,keepW hW⟩
end Go.Den.Ch
end
section
namespace Go.Den.Ch
set_option maxHeartbeats 1000000 in
theorem c114 (c : CL) (F : PV) (hF : SlOf 3 encF F c.figs) (r : Int) (i a b : Nat) (hr : (r = 3 ∧ i = 0) ∨ (r = 4 ∧ i = 1)) (ha : a < c.figs.length) (hb : b < c.figs.length) (st : St) : Cl EE (.func 114 [] []) [clPV c F,iv r,iv a,iv b] st (.ret (.bool (decide (key i c.figs[a] > key i c.figs[b])))) st := by
 have hFc := hF.cells
 refine cl_fn (pr114 · _ _) fn114 4 rfl (by decide) (fun tm hl hg => ?_);have h0 : tg tm 0 = clPV c F := (hg 0 (by decide));have h1 : tg tm 1 = iv r := (hg 1 (by decide));have h2 : tg tm 2 = iv a := (hg 2 (by decide));have h3 : tg tm 3 = iv b := (hg 3 (by decide));clear hg
 rcases hr with ⟨rfl,rfl⟩ | ⟨rfl,rfl⟩
 ·have e : decide (key 0 c.figs[a] > key 0 c.figs[b]) = decide (c.figs[a].rank < c.figs[b].rank) := by
   rw [decide_eq_decide];simp only [key,if_true];omega
  have z : ((3 : Int) == 3) = true := rfl
  rw [e]
  refine go (bw6 hl h0 h1 h2 h3 undef_e) fnil ?_
  refine wopsD_set (v := undef) (l := st.heap.length + 1) (ob := .var [iv c.figs[a].size,iv c.figs[a].rank,iv c.figs[a].eve]) (by simp only [lo_push,len_push];omega) (by simp only [len_push];omega) rfl rfl (fun rec st3 he hh => by simp only [↓reduceIte,go_sem,hl,hh,he]) ?_
  refine wopsD_set (v := undef) (l := st.heap.length + 2) (ob := .var [iv c.figs[b].size,iv c.figs[b].rank,iv c.figs[b].eve]) (by simp only [lo_push,lo_setVar,len_push,len_setVar];omega) (by simp only [len_push,len_setVar];omega) rfl rfl (fun rec st3 he hh => by simp only [↓reduceIte,go_sem,hl,hh,he]) ?_
  apply wopsD_nil
  refine ⟨?_,?_⟩
  ·simp only [footOk,List.all_cons,List.all_nil,List.getElem?_cons_zero,List.getElem?_cons_succ,Bool.and_true]
   simp only [footOf]
   simp only [↓reduceIte,go_sem,hl]
   have hq : ∀ l,clash l Foot.quiet = false := fun _ => rfl
   have hq1 : clash st.heap.length (.st (st.heap.length + 1)) = false := by simp [clash]
   have hq2 : clash st.heap.length (.st (st.heap.length + 2)) = false := by simp [clash]
   simp only [List.all_cons,List.all_nil,List.getElem?_cons_zero,List.getElem?_cons_succ,hq,hq1,hq2,Bool.not_false,Bool.and_self]
  ·refine go (bw3 hl h1 z) fnil ?_
   refine fnq_flat (results_one (by rw [rdRes_tmp];simp only [↓reduceIte,go_sem,hl];first | done | rfl)) (by simp only [lo_push,lo_setVar];omega) (by rfl)
 ·have e : decide (key 1 c.figs[a] > key 1 c.figs[b]) = decide (c.figs[a].eve > c.figs[b].eve) := by
   rw [decide_eq_decide];simp only [key,Nat.one_ne_zero,if_false]
  have z : ((4 : Int) == 3) = false := rfl
  rw [e]
  refine go (bw6 hl h0 h1 h2 h3 undef_e) fnil ?_
  refine wopsD_set (v := undef) (l := st.heap.length + 1) (ob := .var [iv c.figs[a].size,iv c.figs[a].rank,iv c.figs[a].eve]) (by simp only [lo_push,len_push];omega) (by simp only [len_push];omega) rfl rfl (fun rec st3 he hh => by simp only [↓reduceIte,go_sem,hl,hh,he]) ?_
  refine wopsD_set (v := undef) (l := st.heap.length + 2) (ob := .var [iv c.figs[b].size,iv c.figs[b].rank,iv c.figs[b].eve]) (by simp only [lo_push,lo_setVar,len_push,len_setVar];omega) (by simp only [len_push,len_setVar];omega) rfl rfl (fun rec st3 he hh => by simp only [↓reduceIte,go_sem,hl,hh,he]) ?_
  apply wopsD_nil
  refine ⟨?_,?_⟩
  ·simp only [footOk,List.all_cons,List.all_nil,List.getElem?_cons_zero,List.getElem?_cons_succ,Bool.and_true]
   simp only [footOf]
   simp only [↓reduceIte,go_sem,hl]
   have hq : ∀ l,clash l Foot.quiet = false := fun _ => rfl
   have hq1 : clash st.heap.length (.st (st.heap.length + 1)) = false := by simp [clash]
   have hq2 : clash st.heap.length (.st (st.heap.length + 2)) = false := by simp [clash]
   simp only [List.all_cons,List.all_nil,List.getElem?_cons_zero,List.getElem?_cons_succ,hq,hq1,hq2,Bool.not_false,Bool.and_self]
  ·refine go (bw3 hl h1 z) fnil ?_
   refine fnq_flat (results_one (by rw [rdRes_tmp];simp only [↓reduceIte,go_sem,hl];first | done | rfl)) (by simp only [lo_push,lo_setVar];omega) (by rfl)
theorem sum_pos {c : CL} (hc : OkL c) {p : List Int} {n : Int} (h : (layerL c.figs p n).sum = 0) : (layerL c.figs p n).length = 0 := by
 have he : layerL c.figs p n = [] := sum_zero (fun x hx => ((hc.layer p n).2 x hx).1) h
 rw [he];rfl
set_option maxHeartbeats 8000000 in
theorem c68 (c : CL) (F P : PV) (p : List Int) (hF : SlOf 3 encF F c.figs) (hP : SlOf 1 encI P p) (hc : OkL c) (hp0 : OkP c p) (st : St) : Cl EE (.func 68 [] []) [clPV c F,P] st (.ret (.tuple [fltO (fault c p),.bool (fault c p).isSome])) st := by
 have hFc := hF.cells
 have hPs := hP.slen
 have hlen := hc.len
 have hpl := hp0.len
 obtain ⟨d,hd⟩ : ∃ d : Nat,c.depth = d := ⟨c.depth.toNat,by have := hc.d0;omega⟩
 have hd5 : d ≤ 5 := by have := hc.d1;omega
 have k28 := fun n => c28 c F P p n hF hP hc hpl
 refine cl_fn (pr68 · _ _) fn68 2 rfl (by decide) (fun tm hl hg => ?_);have h0 : tg tm 0 = clPV c F := (hg 0 (by decide));have h1 : tg tm 1 = P := (hg 1 (by decide));clear hg
 refine go (bw hl h0) fnil ?_
 refine wp_for [6] (fun i vs s => vs = [iv i] ∧ i ≤ d ∧ (∀ k : Nat,k < i → ¬ (layerL c.figs p k).sum > c.room) ∧ s = (({ heap := st.heap,lo := st.heap.length } : St).push (.var [iv c.room,iv c.depth,F])).push (.var [iv 0,iv 0,iv 0])) (fun i => d - i) ⟨by simp only [↓reduceIte,go_sem,hl];first | done | rfl,Nat.zero_le _,(fun k hk => absurd hk (by omega)),by first | done | rfl⟩ ?_
 rintro i tm1 st1 ⟨hv,hi,hno,rfl⟩ hS
 simp only [List.map_cons,List.map_nil,List.cons.injEq,and_true] at hv
 have hl1 : tm1.length = 76 := (by rw [hS.1];simp only [put_len,hl]);have i1 : tg tm1 1 = P := (by rw [hS.2 1 (by decide)];simp only [↓reduceIte,go_sem,hl,h1]);have i2 : tg tm1 2 = .ptr st.heap.length 0 := (by rw [hS.2 2 (by decide)];simp only [↓reduceIte,go_sem,hl,h1]);have i4 : tg tm1 4 = .ptr (st.heap.length + 1) 0 := (by rw [hS.2 4 (by decide)];simp only [↓reduceIte,go_sem,hl,h1]);clear hS
 refine go (bw3 hl1 hv i2) fnil ?_
 refine ⟨decide ((i : Int) < c.depth),by simp only [↓reduceIte,go_sem,hl1],fun hb => ?_,fun hb1 => ?_⟩
 rotate_left
 ·have hlt : i < d := by have := of_decide_eq_true hb1;omega
  have hw1 : IntKind.wrap .i64 ((i : Int) + 1) = ((i + 1 : Nat) : Int) := wrap_nat (n := i + 1) (by omega)
  refine ⟨by omega,?_⟩
  by_cases hf : (layerL c.figs p (i : Nat)).sum > c.room
  ·have hdd : decide ((layerL c.figs p (i : Nat)).sum > c.room) = true := by simp [hf]
   have hft : fault c p = some ⟨1,i,0⟩ := by
    have : fullL c p = some ⟨1,i,0⟩ := by
     refine range_some (by omega) (fun k hk => if_neg (hno k hk)) (if_pos hf)
    simp [fault,this]
   rw [hft]
   refine go (bw6 hl1 hv i1 i2 i4 hdd) (bw k28 fnil) ?_
   refine fnq_tuple (results_two (v := fltPV ⟨1,i,0⟩) (u := .bool true) ?_ ?_) (by simp only [lo_push,lo_setVar];omega) (by rfl)
   ·rw [rdRes_hp (l := st.heap.length + 1) (off := 0) (by simp only [↓reduceIte,go_sem,hl1,i4])]
    simp only [↓reduceIte,go_sem,hl1,i1,i2,i4]
   ·rw [rdRes_tmp];simp only [↓reduceIte,go_sem,hl1]
  ·have hdd : decide ((layerL c.figs p (i : Nat)).sum > c.room) = false := by simp [hf]
   refine go (bw7 hl1 hv i1 i2 i4 hdd hw1) (bw k28 fnil) ?_
   refine ⟨by simp only [↓reduceIte,go_sem,hl1],by omega,fun k hk => ?_,rfl⟩
   by_cases hki : k = i
   ·subst hki;exact hf
   ·exact hno k (by omega)
 have hlt := of_decide_eq_false hb
 have hfull : fullL c p = none := range_none (fun k hk => if_neg (hno k (by omega)))
 obtain ⟨L,hL⟩ : ∃ L : Nat,layersL p = L := ⟨(layersL p).toNat,by have := layersL_nonneg p;omega⟩
 have hL5 : L ≤ 5 := by
  have := layersL_bound (p := p) (d := c.depth) hc.d0 (fun x hx => (hp0.rng x hx).2)
  omega
 have k29 := c29 P p hP (by omega) (layersL_small hc hp0)
 rw [hL] at k29
 clear hv hb hlt hno hi
 refine go hl1 fnil ?_
 refine wp_for [7] (fun i vs s => vs = [iv i] ∧ i ≤ L ∧ (∀ k : Nat,k < i → ¬ (layerL c.figs p k).length = 0) ∧ s = (({ heap := st.heap,lo := st.heap.length } : St).push (.var [iv c.room,iv c.depth,F])).push (.var [iv 0,iv 0,iv 0])) (fun i => L - i) ⟨by simp only [↓reduceIte,go_sem,hl1];first | done | rfl,Nat.zero_le _,(fun k hk => absurd hk (by omega)),by first | done | rfl⟩ ?_
 rintro i tm2 st1 ⟨hv,hi,hno,rfl⟩ hS
 simp only [List.map_cons,List.map_nil,List.cons.injEq,and_true] at hv
 have hl2 : tm2.length = 76 := (by rw [hS.1];simp only [put_len,hl1]);have j1 : tg tm2 1 = P := (by rw [hS.2 1 (by decide)];simp only [↓reduceIte,go_sem,hl1,i1,i2,i4]);have j2 : tg tm2 2 = .ptr st.heap.length 0 := (by rw [hS.2 2 (by decide)];simp only [↓reduceIte,go_sem,hl1,i1,i2,i4]);have j4 : tg tm2 4 = .ptr (st.heap.length + 1) 0 := (by rw [hS.2 4 (by decide)];simp only [↓reduceIte,go_sem,hl1,i1,i2,i4]);clear hS
 clear hl i1 i2 i4 hl1 tm1 h0 h1 tm
 refine go (bw3 hl2 hv j1) (bw k29 fnil) ?_
 refine ⟨decide ((i : Int) < (L : Int)),by simp only [↓reduceIte,go_sem,hl2],fun hb => ?_,fun hb1 => ?_⟩
 rotate_left
 ·have hlt : i < L := by have := of_decide_eq_true hb1;omega
  have hw1 : IntKind.wrap .i64 ((i : Int) + 1) = ((i + 1 : Nat) : Int) := wrap_nat (n := i + 1) (by omega)
  refine ⟨by omega,?_⟩
  by_cases hf : (layerL c.figs p (i : Nat)).sum = 0
  ·have hdd : ((layerL c.figs p (i : Nat)).sum == 0) = true := by simp [hf]
   have hft : fault c p = some ⟨2,i,0⟩ := by
    have : gapL c p = some ⟨2,i,0⟩ := by
     refine range_some (by omega) (fun k hk => if_neg (hno k hk)) (if_pos (sum_pos hc hf))
    simp [fault,hfull,this]
   rw [hft]
   refine go (bw6 hl2 hv j1 j2 j4 hdd) (bw k28 fnil) ?_
   refine fnq_tuple (results_two (v := fltPV ⟨2,i,0⟩) (u := .bool true) ?_ ?_) (by simp only [lo_push,lo_setVar];omega) (by rfl)
   ·rw [rdRes_hp (l := st.heap.length + 1) (off := 0) (by simp only [↓reduceIte,go_sem,hl2,j4])]
    simp only [↓reduceIte,go_sem,hl2,j1,j2,j4]
   ·rw [rdRes_tmp];simp only [↓reduceIte,go_sem,hl2]
  ·have hdd : ((layerL c.figs p (i : Nat)).sum == 0) = false := by simp [hf]
   refine go (bw7 hl2 hv j1 j2 j4 hdd hw1) (bw k28 fnil) ?_
   refine ⟨by simp only [↓reduceIte,go_sem,hl2],by omega,fun k hk => ?_,rfl⟩
   by_cases hki : k = i
   ·subst hki
    intro h0
    rw [List.eq_nil_of_length_eq_zero h0] at hf
    exact hf rfl
   ·exact hno k (by omega)
 have hlt := of_decide_eq_false hb
 have hgap : gapL c p = none := range_none (fun k hk => if_neg (hno k (by omega)))
 clear hv hb hlt hno hi k29
 refine go hl2 fnil ?_
 refine wp_for [8] (fun i vs s => vs = [iv (3 + (i : Int))] ∧ i ≤ 2 ∧ (∀ k : Nat,k < i → disA c p k = none) ∧ s = (({ heap := st.heap,lo := st.heap.length } : St).push (.var [iv c.room,iv c.depth,F])).push (.var [iv 0,iv 0,iv 0])) (fun i => 2 - i) ⟨by simp only [↓reduceIte,go_sem,hl2];first | done | rfl,Nat.zero_le _,(fun k hk => absurd hk (by omega)),by first | done | rfl⟩ ?_
 rintro i tm3 st1 ⟨hv,hi,hno,rfl⟩ hS
 simp only [List.map_cons,List.map_nil,List.cons.injEq,and_true] at hv
 have hl3 : tm3.length = 76 := (by rw [hS.1];simp only [put_len,hl2]);have k1 : tg tm3 1 = P := (by rw [hS.2 1 (by decide)];simp only [↓reduceIte,go_sem,hl2,j1,j2,j4]);have k2 : tg tm3 2 = .ptr st.heap.length 0 := (by rw [hS.2 2 (by decide)];simp only [↓reduceIte,go_sem,hl2,j1,j2,j4]);have k4 : tg tm3 4 = .ptr (st.heap.length + 1) 0 := (by rw [hS.2 4 (by decide)];simp only [↓reduceIte,go_sem,hl2,j1,j2,j4]);clear hS
 clear hl2 j1 j2 j4 tm2
 refine go (bw hl3 hv) fnil ?_
 refine ⟨decide (3 + (i : Int) ≤ 4),by simp only [↓reduceIte,go_sem,hl3],fun hb => ?_,fun hb1 => ?_⟩
 ·have hlt := of_decide_eq_false hb
  have hft : fault c p = none := by
   have : disorder c p = none := range_none (fun k hk => hno k (by omega))
   simp [fault,hfull,hgap,this]
  rw [hft]
  refine go (bw4 hl3 k1 k2 k4) fnil ?_
  refine fnq_tuple (results_two (v := zeroF) (u := .bool false) ?_ ?_) (by simp only [lo_push,lo_setVar];omega) (by rfl)
  ·rw [rdRes_hp (l := st.heap.length + 1) (off := 0) (by simp only [↓reduceIte,go_sem,hl3,k4])]
   simp only [↓reduceIte,go_sem,hl3,k4]
   rfl
  ·rw [rdRes_tmp];simp only [↓reduceIte,go_sem,hl3]
 have hi2 : i < 2 := by have := of_decide_eq_true hb1;omega
 have hw8 : IntKind.wrap .i64 (3 + (i : Int) + 1) = 3 + ((i + 1 : Nat) : Int) := by rw [wrap_in (by unfold inI;omega)];omega
 refine ⟨by omega,?_⟩
 refine go hl3 fnil ?_
 refine wp_for [9] (fun a vs s => vs = [iv a] ∧ a ≤ p.length ∧ (∀ k : Nat,k < a → disB c p i k = none) ∧ s = (({ heap := st.heap,lo := st.heap.length } : St).push (.var [iv c.room,iv c.depth,F])).push (.var [iv 0,iv 0,iv 0])) (fun a => p.length - a) ⟨by simp only [↓reduceIte,go_sem,hl3];first | done | rfl,Nat.zero_le _,(fun k hk => absurd hk (by omega)),by first | done | rfl⟩ ?_
 rintro a tm4 st1 ⟨hv9,ha,hno2,rfl⟩ hS
 simp only [List.map_cons,List.map_nil,List.cons.injEq,and_true] at hv9
 have hl4 : tm4.length = 76 := (by rw [hS.1];simp only [put_len,hl3]);have m1 : tg tm4 1 = P := (by rw [hS.2 1 (by decide)];simp only [↓reduceIte,go_sem,hl3,k1,k2,k4,hv]);have m2 : tg tm4 2 = .ptr st.heap.length 0 := (by rw [hS.2 2 (by decide)];simp only [↓reduceIte,go_sem,hl3,k1,k2,k4,hv]);have m4 : tg tm4 4 = .ptr (st.heap.length + 1) 0 := (by rw [hS.2 4 (by decide)];simp only [↓reduceIte,go_sem,hl3,k1,k2,k4,hv]);have m8 : tg tm4 8 = iv (3 + (i : Int)) := (by rw [hS.2 8 (by decide)];simp only [↓reduceIte,go_sem,hl3,k1,k2,k4,hv]);clear hS
 clear hl3 k1 k2 k4 hv tm3
 refine go (bw4 hl4 hv9 m1 hPs) fnil ?_
 refine ⟨decide ((a : Int) < p.length),by simp only [↓reduceIte,go_sem,hl4],fun hb => ?_,fun hb2 => ?_⟩
 ·have hlt := of_decide_eq_false hb
  refine go (bw3 hl4 m8 hw8) fnil ?_
  refine ⟨by simp only [↓reduceIte,go_sem,hl4],by omega,fun k hk => ?_,rfl⟩
  by_cases hki : k = i
  ·subst hki
   exact range_none (fun b hb => hno2 b (by omega))
  ·exact hno k (by omega)
 have hap : a < p.length := by have := of_decide_eq_true hb2;omega
 have haf : a < c.figs.length := by omega
 have hw9 : IntKind.wrap .i64 ((a : Int) + 1) = ((a + 1 : Nat) : Int) := wrap_nat (n := a + 1) (by omega)
 refine ⟨by omega,?_⟩
 refine go hl4 fnil ?_
 refine wp_for [10] (fun b vs s => vs = [iv b] ∧ b ≤ p.length ∧ (∀ k : Nat,k < b → brk c p i a k = false) ∧ s = (({ heap := st.heap,lo := st.heap.length } : St).push (.var [iv c.room,iv c.depth,F])).push (.var [iv 0,iv 0,iv 0])) (fun b => p.length - b) ⟨by simp only [↓reduceIte,go_sem,hl4];first | done | rfl,Nat.zero_le _,(fun k hk => absurd hk (by omega)),by first | done | rfl⟩ ?_
 rintro b tm5 st1 ⟨hv10,hb0,hno3,rfl⟩ hS
 simp only [List.map_cons,List.map_nil,List.cons.injEq,and_true] at hv10
 have hl5 : tm5.length = 76 := (by rw [hS.1];simp only [put_len,hl4]);have n1 : tg tm5 1 = P := (by rw [hS.2 1 (by decide)];simp only [↓reduceIte,go_sem,hl4,m1,m2,m4,m8,hv9]);have n2 : tg tm5 2 = .ptr st.heap.length 0 := (by rw [hS.2 2 (by decide)];simp only [↓reduceIte,go_sem,hl4,m1,m2,m4,m8,hv9]);have n4 : tg tm5 4 = .ptr (st.heap.length + 1) 0 := (by rw [hS.2 4 (by decide)];simp only [↓reduceIte,go_sem,hl4,m1,m2,m4,m8,hv9]);have n8 : tg tm5 8 = iv (3 + (i : Int)) := (by rw [hS.2 8 (by decide)];simp only [↓reduceIte,go_sem,hl4,m1,m2,m4,m8,hv9]);have n9 : tg tm5 9 = iv a := (by rw [hS.2 9 (by decide)];simp only [↓reduceIte,go_sem,hl4,m1,m2,m4,m8,hv9]);clear hS
 clear hl4 m1 m2 m4 m8 hv9 tm4
 refine go (bw4 hl5 hv10 n1 hPs) fnil ?_
 refine ⟨decide ((b : Int) < p.length),by simp only [↓reduceIte,go_sem,hl5],fun hb => ?_,fun hb3 => ?_⟩
 ·have hlt := of_decide_eq_false hb
  refine go (bw3 hl5 n9 hw9) fnil ?_
  refine ⟨by simp only [↓reduceIte,go_sem,hl5],by omega,fun k hk => ?_,rfl⟩
  by_cases hka : k = a
  ·subst hka
   exact range_none (fun b hb => by rw [if_neg (by rw [hno3 b (by omega)];simp)])
  ·exact hno2 k (by omega)
 have hbp : b < p.length := by have := of_decide_eq_true hb3;omega
 have hbf : b < c.figs.length := by omega
 have hw10 : IntKind.wrap .i64 ((b : Int) + 1) = ((b + 1 : Nat) : Int) := wrap_nat (n := b + 1) (by omega)
 have hbrk := brk_at (i := i) haf hbf hpl
 have k114 := c114 c F hF (3 + (i : Int)) i a b (by omega) haf hbf
 refine ⟨by omega,?_⟩
 have hgo : brk c p i a b = false → ∀ k : Nat,k < b + 1 → brk c p i a k = false := fun h k hk => by
  by_cases hkb : k = b
  ·rw [hkb];exact h
  ·exact hno3 k (by omega)
 cases hdd : decide (p[a] < p[b])
 ·rw [hdd,Bool.false_and] at hbrk
  refine go (bw8 hl5 hv10 n1 n2 n8 n9 hdd hw10) fnil ?_
  exact ⟨by simp only [↓reduceIte,go_sem,hl5],by omega,hgo hbrk,rfl⟩
 ·rw [hdd,Bool.true_and] at hbrk
  cases hk : decide (key i c.figs[a] > key i c.figs[b])
  ·rw [hk] at hbrk k114
   refine go (bw8 hl5 hv10 n1 n2 n8 n9 hdd hw10) (bw k114 fnil) ?_
   exact ⟨by simp only [↓reduceIte,go_sem,hl5],by omega,hgo hbrk,rfl⟩
  ·rw [hk] at hbrk k114
   have hdis : disorder c p = some ⟨3 + i,a,b⟩ := by
    refine range_some hi2 hno (range_some haf hno2 (range_some hbf (fun k hk => ?_) ?_))
    ·rw [if_neg (by rw [hno3 k hk];simp)]
    ·rw [if_pos hbrk]
   have hft : fault c p = some ⟨3 + i,a,b⟩ := by simp [fault,hfull,hgap,hdis]
   rw [hft]
   refine go (bw8 hl5 hv10 n1 n2 n4 n8 n9 hdd) (bw k114 fnil) ?_
   refine fnq_tuple (results_two (v := fltPV ⟨3 + i,a,b⟩) (u := .bool true) ?_ ?_) (by simp only [lo_push,lo_setVar];omega) (by rfl)
   ·rw [rdRes_hp (l := st.heap.length + 1) (off := 0) (by simp only [↓reduceIte,go_sem,hl5,n4])]
    simp only [↓reduceIte,go_sem,hl5,n1,n2,n4]
   ·rw [rdRes_tmp];simp only [↓reduceIte,go_sem,hl5]
theorem c46 (c : CL) (F P : PV) (p : List Int) (hF : SlOf 3 encF F c.figs) (hP : SlOf 1 encI P p) (hc : OkL c) (hp0 : OkP c p) (st : St) : Cl EE (.func 46 [] []) [clPV c F,P] st (.ret (.bool (fault c p).isNone)) st := by
 have hFc := hF.cells
 have hFi := hF.isCell
 obtain ⟨r,o1,o2,hr⟩ : ∃ r o1 o2 : Int,fltO (fault c p) = .agg [iv r,iv o1,iv o2] := by
  cases fault c p with
  | none => exact ⟨0,0,0,rfl⟩
  | some f => exact ⟨f.rule,f.one,f.other,rfl⟩
 have k68 := c68 c F P p hF hP hc hp0
 rw [hr] at k68
 have e : (fault c p).isNone = !(fault c p).isSome := by cases fault c p <;> rfl
 rw [e]
 refine cl_fn (pr46 · _ _) fn46 2 rfl (by decide) (fun tm hl hg => ?_);have h0 : tg tm 0 = clPV c F := (hg 0 (by decide));have h1 : tg tm 1 = P := (hg 1 (by decide));clear hg
 refine go (bw3 hl h0 h1) (bw k68 fnil) ?_
 refine fnq_flat (results_one (by rw [rdRes_tmp];simp only [↓reduceIte,go_sem,hl];first | done | rfl)) (by first | exact Nat.le_refl _ | omega | (simp only [lo_push,lo_setVar];omega)) (by rfl)
set_option maxHeartbeats 4000000 in
theorem c47 (P G : PV) (p fs : List Int) (hP : SlOf 1 encI P p) (hG : SlOf 1 encI G fs) (hp : p.length < 1000) (hg : fs.length < 1000) (hfs : OkF p.length fs) (st : St) : ClR EE (.func 47 [] []) [P,G] st (RetS st 1 (outL p fs).length ((outL p fs).flatMap encI)) := by
 have hPs := hP.slen
 have hGs := hG.slen
 refine clr_fn (pr47 · _ _) fn47 2 rfl (by decide) (fun tm hl hg => ?_);have h0 : tg tm 0 = P := (hg 0 (by decide));have h1 : tg tm 1 = G := (hg 1 (by decide));clear hg
 refine go (bw3 hl h0 h1) fnil ?_
 refine wp_for [6,5] (fun i vs s => vs = [iv i,iv (lowestL p (fs.take i))] ∧ i ≤ fs.length ∧ s = ({ heap := st.heap,lo := st.heap.length } : St)) (fun i => fs.length - i) ⟨by simp only [↓reduceIte,go_sem,hl];first | done | rfl,Nat.zero_le _,by first | done | rfl⟩ ?_
 rintro i tm1 st1 ⟨hv,hi,rfl⟩ hS
 simp only [List.map_cons,List.map_nil,List.cons.injEq,and_true] at hv
 obtain ⟨hv6,hv5⟩ := hv
 have hl1 : tm1.length = 47 := (by rw [hS.1];simp only [put_len,hl]);have i0 : tg tm1 0 = P := (by rw [hS.2 0 (by decide)];simp only [↓reduceIte,go_sem,hl,h0,h1]);have i1 : tg tm1 1 = G := (by rw [hS.2 1 (by decide)];simp only [↓reduceIte,go_sem,hl,h0,h1]);clear hS
 refine go (bw4 hl1 hv6 i1 hGs) fnil ?_
 refine ⟨decide ((i : Int) < fs.length),by simp only [↓reduceIte,go_sem,hl1],fun hb => ?_,fun hb1 => ?_⟩
 rotate_left
 ·have hlt : i < fs.length := by have := of_decide_eq_true hb1;omega
  have hw1 : IntKind.wrap .i64 ((i : Int) + 1) = ((i + 1 : Nat) : Int) := wrap_nat (n := i + 1) (by omega)
  have hr := hfs _ (List.getElem_mem hlt)
  refine ⟨by omega,?_⟩
  refine go (bw7 hl1 hv6 hv5 i0 i1 hw1 @mm2) fnil ?_
  refine ⟨?_,by omega,rfl⟩
  simp only [↓reduceIte,go_sem,hl1]
  rw [lowestL_take hlt,List.getD_eq_getElem?_getD,List.getElem?_eq_getElem (by omega)]
  rfl
 have hlt := of_decide_eq_false hb
 have hin : i = fs.length := by omega
 rw [hin,List.take_length] at hv5
 clear hv6 hb hlt hin hi
 refine go hl1 fnil ?_
 refine wp_for [8,7] (fun i vs s => ∃ v,vs = [iv i,v] ∧ i ≤ p.length ∧ OwnS st.heap.length s 1 v (castL ((List.range i).filter (outP p fs))).length ((castL ((List.range i).filter (outP p fs))).flatMap encI) ∧ st.heap.length ≤ s.lo ∧ st.heap.length ≤ s.heap.length) (fun i => p.length - i) ⟨_,by simp only [↓reduceIte,go_sem,hl1];first | done | rfl,Nat.zero_le _,.nil,Nat.le_refl _,Nat.le_refl _⟩ ?_
 rintro i tm2 st2 ⟨v,hv2,hi,hO,hlo,hwf⟩ hS
 simp only [List.map_cons,List.map_nil,List.cons.injEq,and_true] at hv2
 obtain ⟨hv8,hv7⟩ := hv2
 have hl2 : tm2.length = 47 := (by rw [hS.1];simp only [put_len,hl1]);have j0 : tg tm2 0 = P := (by rw [hS.2 0 (by decide)];simp only [↓reduceIte,go_sem,hl1,i0,i1,hv5]);have j1 : tg tm2 1 = G := (by rw [hS.2 1 (by decide)];simp only [↓reduceIte,go_sem,hl1,i0,i1,hv5]);have j5 : tg tm2 5 = iv (lowestL p fs) := (by rw [hS.2 5 (by decide)];simp only [↓reduceIte,go_sem,hl1,i0,i1,hv5]);clear hS
 refine go (bw4 hl2 hv8 j0 hPs) fnil ?_
 refine ⟨decide ((i : Int) < p.length),by simp only [↓reduceIte,go_sem,hl2],fun hb => ?_,fun hb1 => ?_⟩
 ·have hlt := of_decide_eq_false hb
  have hin : i = p.length := by omega
  rw [hin] at hO
  refine go (bw hl2 hv7) fnil ?_
  exact fnr_ret (results_one (v := v) (by rw [rdRes_tmp];simp only [↓reduceIte,go_sem,hl2])) (hO.finish hlo (fun m c hc => encI_low _ m c hc))
 have hlt : i < p.length := by have := of_decide_eq_true hb1;omega
 have hw1 : IntKind.wrap .i64 ((i : Int) + 1) = ((i + 1 : Nat) : Int) := wrap_nat (n := i + 1) (by omega)
 refine ⟨by omega,?_⟩
 rw [castL_succ]
 have hget : p.getD i 0 = p[i] := by rw [List.getD_eq_getElem?_getD,List.getElem?_eq_getElem hlt];rfl
 have hll := castL_len (outP p fs) i
 cases hx : decide (p[i] < lowestL p fs)
 ·have ho : outP p fs i = false := by simp only [outP,hget,hx,Bool.false_and]
  refine go (bw8 hl2 j0 j1 j5 hv8 hv7 hx hw1) fnil ?_
  exact ⟨v,by simp only [↓reduceIte,go_sem,hl2,hv7],by omega,by simpa [ho] using hO,hlo,hwf⟩
 ·cases hy : hasI fs (i : Int)
  ·have ho : outP p fs i = true := by simp only [outP,hget,hx,hy,Bool.not_false,Bool.and_self]
   refine go (bw8 hl2 j0 j1 j5 hv8 hv7 hx hy) (bw (c48 G fs i hG (by omega)) fnil) ?_
   refine wops_append rfl rfl (by simp only [↓reduceIte,go_sem,hl2,hv7];first | done | rfl) (by simp only [↓reduceIte,go_sem,hl2,hv7];first | done | rfl) (hO.push) rfl (by first | omega | (simp only [len_push,len_setVar];omega)) (by rfl) (by rfl) (by simp only [maxList];omega) ?_
   intro v' st3 hO' hFr hk
   refine go (bw3 hl2 hv8 hw1) fnil ?_
   refine ⟨v',by simp only [↓reduceIte,go_sem,hl2],by omega,by simpa [ho,share_int] using hO',?_,?_⟩
   ·have := hFr.lo
    simp only [lo_push] at this
    omega
   ·have := hFr.len
    simp only [len_push] at this
    omega
  ·have ho : outP p fs i = false := by simp only [outP,hget,hx,hy,Bool.not_true,Bool.and_false]
   refine go (bw9 hl2 j0 j1 j5 hv8 hv7 hx hy hw1) (bw (c48 G fs i hG (by omega)) fnil) ?_
   exact ⟨v,by simp only [↓reduceIte,go_sem,hl2,hv7],by omega,by simpa [ho] using hO,hlo,hwf⟩
end Go.Den.Ch
end
section
namespace Go.Den.Ch
set_option maxHeartbeats 4000000 in
theorem c94 (c : CL) (F : PV) (e : Int) (hF : SlOf 3 encF F c.figs) (hN : c.figs.length < 1000) (st : St) : ClR EE (.func 94 [] []) [clPV c F,iv e] st (RetS st 1 (wantL c e).length ((wantL c e).flatMap encI)) := by
 have hFs := hF.slen
 have hFc := hF.cells
 refine clr_fn (pr94 · _ _) fn94 2 rfl (by decide) (fun tm hl hg => ?_);have h0 : tg tm 0 = clPV c F := (hg 0 (by decide));have h1 : tg tm 1 = iv e := (hg 1 (by decide));clear hg
 refine go (bw hl h0) fnil ?_
 refine wp_for [6,5] (fun i vs s => ∃ v,vs = [iv i,v] ∧ i ≤ c.figs.length ∧ OwnS (st.heap.length + 1) s 1 v (castL ((List.range i).filter (wantP c e))).length ((castL ((List.range i).filter (wantP c e))).flatMap encI) ∧ Fr (st.heap.length + 1) (({ heap := st.heap,lo := st.heap.length } : St).push (.var [iv c.room,iv c.depth,F])) s) (fun i => c.figs.length - i) ⟨_,by simp only [↓reduceIte,go_sem,hl];first | done | rfl,Nat.zero_le _,.nil,.refl _ _⟩ ?_
 rintro i tm2 st2 ⟨v,hv2,hi,hO,hFr⟩ hS
 simp only [List.map_cons,List.map_nil,List.cons.injEq,and_true] at hv2
 obtain ⟨hv6,hv5⟩ := hv2
 have hl2 : tm2.length = 27 := (by rw [hS.1];simp only [put_len,hl]);have j1 : tg tm2 1 = iv e := (by rw [hS.2 1 (by decide)];simp only [↓reduceIte,go_sem,hl,h1]);have j2 : tg tm2 2 = .ptr st.heap.length 0 := (by rw [hS.2 2 (by decide)];simp only [↓reduceIte,go_sem,hl,h1]);clear hS
 have b2 : hp st2 st.heap.length = some (.var [iv c.room,iv c.depth,F]) := (hFr.old _ (by omega)).trans (by simp only [↓reduceIte,go_sem])
 have m2 := hp_lt b2
 have w1 := hFr.len
 have w2 := hFr.lo
 simp only [lo_push,len_push] at w1 w2
 refine go (bw10 hl2 hv6 j2 b2 (neL m2) (neA m2) (ltL m2) (ltA m2) m2 hFs) fnil ?_
 refine ⟨decide ((i : Int) < c.figs.length),by simp only [↓reduceIte,go_sem,hl2],fun hb => ?_,fun hb1 => ?_⟩
 ·have hlt := of_decide_eq_false hb
  obtain rfl : i = c.figs.length := by omega
  refine go (bw hl2 hv5) fnil ?_
  exact fnr_ret (results_one (v := v) (by rw [rdRes_tmp];simp only [↓reduceIte,go_sem,hl2])) ((hO.mono (Nat.le_succ _)).finish (by omega) (fun m c hc => encI_low _ m c hc))
 have hlt : i < c.figs.length := by have := of_decide_eq_true hb1;omega
 have hw1 : IntKind.wrap .i64 ((i : Int) + 1) = ((i + 1 : Nat) : Int) := wrap_nat (n := i + 1) (by omega)
 refine ⟨by omega,?_⟩
 rw [castL_succ]
 have hll := castL_len (wantP c e) i
 have hget : wantP c e i = (c.figs[i].eve == e) := by simp only [wantP,List.getElem?_eq_getElem hlt]
 rw [hget]
 cases hx : (c.figs[i].eve == e)
 ·refine go (bw13 hl2 j1 j2 hv6 hv5 b2 (neL m2) (neA m2) (ltL m2) (ltA m2) m2 hx hw1) fnil ?_
  exact ⟨v,by simp only [↓reduceIte,go_sem,hl2,hv5],by omega,by simpa using hO,hFr⟩
 ·refine go (bw12 hl2 j1 j2 hv6 hv5 b2 (neL m2) (neA m2) (ltL m2) (ltA m2) m2 hx) fnil ?_
  refine wops_append rfl rfl (by simp only [↓reduceIte,go_sem,hl2,hv5];first | done | rfl) (by simp only [↓reduceIte,go_sem,hl2,hv5];first | done | rfl) (hO.push) rfl (by first | omega | (simp only [len_push,len_setVar];omega)) (by rfl) (by rfl) (by simp only [maxList];omega) ?_
  intro v' st3 hO' hFr' hk
  refine go (bw3 hl2 hv6 hw1) fnil ?_
  exact ⟨v',by simp only [↓reduceIte,go_sem,hl2],by omega,by simpa [share_int] using hO',(hFr.push (by omega)).trans hFr'⟩
end Go.Den.Ch
end

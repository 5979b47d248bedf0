/- Part of the proofs of laws of the package chest. Texts: ChLa, ChMa, ChMb, ChMd, ChMe, ChPl, ChPm. -/
import Derived.Test.YtoeigapilcgelaaGreatDoorK4Av
set_option linter.unusedSimpArgs false
set_option linter.unusedVariables false
section
namespace Go.Den
theorem undef_e : undef = .tuple [] := rfl
end Go.Den
namespace Go.Den.Ch
def sumL (c : CL) (p : List Int) (n : Int) : Int := (layerL c.figs p n).sum
def NoFull (c : CL) (p : List Int) : Prop := ∀ n : Int,0 ≤ n → n < c.depth → ¬ sumL c p n > c.room
def NoGap (c : CL) (p : List Int) : Prop := ∀ n : Int,0 ≤ n → n < layersL p → sumL c p n ≠ 0
def NoDis (c : CL) (p : List Int) (i : Nat) : Prop := ∀ (a b : Nat) (x y : Int) (f g : Fig),p[a]? = some x → p[b]? = some y → c.figs[a]? = some f → c.figs[b]? = some g → x < y → ¬ key i f > key i g
theorem sum_zero {l : List Int} (h : ∀ x ∈ l,1 ≤ x) (hs : l.sum = 0) : l = [] := by
 cases l with
 | nil => rfl
 | cons x l =>
  have h1 := h x (by simp)
  have h2 := (sum_bound (l := l) (b := l.foldl max 0) (by
   have : ∀ (l : List Int) (a : Int),a ≤ l.foldl max a := by
    intro l
    induction l with
    | nil => intro a;exact Int.le_refl _
    | cons y l ih => intro a;exact Int.le_trans (Int.le_max_left a y) (ih _)
   exact this l 0) (fun y hy => ⟨by have := h y (by simp [hy]);omega,by
    have : ∀ (l : List Int) (a : Int),y ∈ l → y ≤ l.foldl max a := by
     intro l
     induction l with
     | nil => intro a h;simp at h
     | cons z l ih =>
      intro a h
      have mono : ∀ (l : List Int) (a : Int),a ≤ l.foldl max a := by
       intro l
       induction l with
       | nil => intro a;exact Int.le_refl _
       | cons y l ih => intro a;exact Int.le_trans (Int.le_max_left a y) (ih _)
      rcases List.mem_cons.1 h with rfl | h
      ·exact Int.le_trans (Int.le_max_right a y) (mono l _)
      ·exact ih _ h
    exact this l 0 hy⟩)).1
  simp only [List.sum_cons] at hs
  omega
theorem fullL_none {c : CL} {p : List Int} (h : fullL c p = none) : NoFull c p := by
 intro n h0 h1 h2
 have := List.findSome?_eq_none_iff.1 h n.toNat (by rw [List.mem_range];omega)
 have h2' : (layerL c.figs p n).sum > c.room := h2
 rw [Int.toNat_of_nonneg h0,if_pos h2'] at this
 cases this
theorem gapL_none {c : CL} {p : List Int} (hc : OkL c) (h : gapL c p = none) : NoGap c p := by
 intro n h0 h1 h2
 have := List.findSome?_eq_none_iff.1 h n.toNat (by rw [List.mem_range];omega)
 rw [Int.toNat_of_nonneg h0] at this
 have he : layerL c.figs p n = [] := sum_zero (fun x hx => ((hc.layer p n).2 x hx).1) h2
 rw [he] at this
 simp at this
theorem disA_none {c : CL} {p : List Int} {i : Nat} (h : disA c p i = none) : NoDis c p i := by
 intro a b x y f g ha hb hfa hfb hxy hk
 have hla : a < c.figs.length := (List.getElem?_eq_some_iff.1 hfa).1
 have hlb : b < c.figs.length := (List.getElem?_eq_some_iff.1 hfb).1
 have h1 := List.findSome?_eq_none_iff.1 h a (List.mem_range.2 hla)
 have h2 := List.findSome?_eq_none_iff.1 h1 b (List.mem_range.2 hlb)
 have h3 : brk c p i a b = true := by
  unfold brk
  rw [ha,hb,hfa,hfb]
  simp [hxy,hk]
 rw [h3,if_pos rfl] at h2
 cases h2
theorem dis_none {c : CL} {p : List Int} (h : disorder c p = none) : NoDis c p 0 ∧ NoDis c p 1 :=
 ⟨disA_none (List.findSome?_eq_none_iff.1 h 0 (by simp)),disA_none (List.findSome?_eq_none_iff.1 h 1 (by simp))⟩
theorem fault_none {c : CL} {p : List Int} (hc : OkL c) (h : fault c p = none) : NoFull c p ∧ NoGap c p ∧ NoDis c p 0 ∧ NoDis c p 1 := by
 unfold fault at h
 rw [Option.or_eq_none_iff,Option.or_eq_none_iff] at h
 exact ⟨fullL_none h.1,gapL_none hc h.2.1,dis_none h.2.2⟩
inductive FaultSays (c : CL) (p : List Int) : Flt → Prop
 | full (n : Nat) (h1 : (n : Int) < c.depth) (h2 : sumL c p n > c.room) : FaultSays c p ⟨1,n,0⟩
 | gap (n : Nat) (h1 : (n : Int) < c.depth) (h2 : (n : Int) < layersL p) (h3 : sumL c p n = 0) (nf : NoFull c p) : FaultSays c p ⟨2,n,0⟩
 | rank (a b : Nat) (x y : Int) (f g : Fig) (ha : p[a]? = some x) (hb : p[b]? = some y) (hfa : c.figs[a]? = some f) (hfb : c.figs[b]? = some g) (h1 : x < y) (h2 : f.rank < g.rank) (nf : NoFull c p) (ng : NoGap c p) : FaultSays c p ⟨3,a,b⟩
 | eve (a b : Nat) (x y : Int) (f g : Fig) (ha : p[a]? = some x) (hb : p[b]? = some y) (hfa : c.figs[a]? = some f) (hfb : c.figs[b]? = some g) (h1 : x < y) (h2 : f.eve > g.eve) (nf : NoFull c p) (ng : NoGap c p) (nr : NoDis c p 0) : FaultSays c p ⟨4,a,b⟩
end Go.Den.Ch
end
section
namespace Go.Den.Ch
def bef : List Int → List Int → Bool
 | [],[] => false
 | [],_ :: _ => true
 | _ :: _,[] => false
 | a :: l,b :: m => if a = b then bef l m else decide (a < b)
theorem bef_irr : ∀ l,bef l l = false
 | [] => rfl
 | a :: l => by simp only [bef,if_true];exact bef_irr l
theorem bef_asym : ∀ l m,bef l m = true → bef m l = false
 | [],[],h => by cases h
 | [],_ :: _,_ => rfl
 | _ :: _,[],h => by cases h
 | a :: l,b :: m,h => by
  simp only [bef] at h ⊢
  by_cases e : a = b
  ·subst e;simp only [if_true] at h ⊢;exact bef_asym l m h
  ·rw [if_neg e] at h;rw [if_neg (Ne.symm e)]
   simp only [decide_eq_true_eq,decide_eq_false_iff_not] at *;omega
theorem bef_app (l m n : List Int) : bef (l ++ m) (l ++ n) = bef m n := by
 induction l with
 | nil => rfl
 | cons a l ih => simp only [List.cons_append,bef,if_true,ih]
theorem bef_lt {l m n : List Int} {a b : Int} (h : a < b) : bef (l ++ a :: m) (l ++ b :: n) = true := by
 rw [bef_app,bef,if_neg (by omega)];simp [h]
theorem dis_of {c : CL} {p : List Int} (h0 : NoDis c p 0) (h1 : NoDis c p 1) : disorder c p = none := by
 refine List.findSome?_eq_none_iff.2 fun i hi => List.findSome?_eq_none_iff.2 fun a _ => List.findSome?_eq_none_iff.2 fun b _ => ?_
 rw [List.mem_range] at hi
 have hn : NoDis c p i := by
  have : i = 0 ∨ i = 1 := by omega
  rcases this with rfl | rfl
  ·exact h0
  ·exact h1
 rw [if_neg]
 intro h
 unfold brk at h
 split at h
 ·rename_i x y f g e1 e2 e3 e4
  simp only [Bool.and_eq_true,decide_eq_true_eq] at h
  exact hn a b x y f g e1 e2 e3 e4 h.1 h.2
 ·cases h
theorem NoDis.take {c : CL} {now t : List Int} {i : Nat} (h : NoDis c (now ++ t) i) : NoDis { c with figs := c.figs.take now.length } now i := by
 intro a b x y f g ha hb hf hg
 have la : a < now.length := (List.getElem?_eq_some_iff.1 ha).1
 have lb : b < now.length := (List.getElem?_eq_some_iff.1 hb).1
 simp only [List.getElem?_take,la,lb,if_true] at hf hg
 exact h a b x y f g (by rw [List.getElem?_append_left la];exact ha) (by rw [List.getElem?_append_left lb];exact hb) hf hg
theorem fault_dis {c : CL} {p : List Int} (h : fault c p = none) : disorder c p = none := by
 unfold fault at h
 rw [Option.or_eq_none_iff,Option.or_eq_none_iff] at h
 exact h.2.2
theorem searchL_all {c : CL} : ∀ (k : Nat) (now t : List Int),t.length = k → now.length + k = c.figs.length → (∀ x ∈ t,0 ≤ x ∧ x < c.depth) → fault c (now ++ t) = none → now ++ t ∈ searchL c k now
 | 0,now,t,ht,_,_,h => by
  obtain rfl := List.eq_nil_of_length_eq_zero ht
  simp only [List.append_nil] at h ⊢
  simp [searchL,h]
 | k + 1,now,x :: t,ht,hk,hx,h => by
  have h1 : now ++ x :: t = (now ++ [x]) ++ t := by simp
  have hx0 := hx x (by simp)
  rw [h1] at h ⊢
  refine List.mem_flatMap.2 ⟨x.toNat,by rw [List.mem_range];omega,?_⟩
  rw [Int.toNat_of_nonneg hx0.1]
  have hd := dis_none (fault_dis h)
  have e : (now ++ [x]).length = now.length + 1 := by simp
  have hn := dis_of (NoDis.take hd.1) (NoDis.take hd.2)
  rw [e] at hn
  rw [hn]
  exact searchL_all k (now ++ [x]) t (by simpa using ht) (by simp at e ⊢;omega) (fun y hy => hx y (by simp [hy])) h
theorem mem_rights {c : CL} {p : List Int} : p ∈ rightsL c ↔ OkP c p ∧ fault c p = none :=
 ⟨rightsL_mem,fun h => searchL_all c.figs.length [] p h.1.len (by simp) h.1.rng h.2⟩
theorem searchL_pre {c : CL} : ∀ {k : Nat} {now p : List Int},p ∈ searchL c k now → ∃ t,p = now ++ t
 | 0,now,p,h => by
  unfold searchL at h
  split at h
  ·exact ⟨[],by simpa using h⟩
  ·cases h
 | k + 1,now,p,h => by
  obtain ⟨n,_,h1⟩ := List.mem_flatMap.1 h
  split at h1
  ·cases h1
  ·obtain ⟨t,rfl⟩ := searchL_pre h1
   exact ⟨(n : Int) :: t,by simp⟩
theorem searchL_sorted {c : CL} : ∀ (k : Nat) (now : List Int),(searchL c k now).Pairwise (fun a b => bef a b = true)
 | 0,now => by
  unfold searchL
  split
  ·exact List.pairwise_singleton _ _
  ·exact List.Pairwise.nil
 | k + 1,now => by
  refine List.pairwise_flatMap.2 ⟨fun n _ => ?_,List.Pairwise.imp ?_ (List.pairwise_lt_range (n := c.depth.toNat))⟩
  ·split
   ·exact List.Pairwise.nil
   ·exact searchL_sorted k _
  ·intro a b hab x hx y hy
   split at hx
   ·cases hx
   split at hy
   ·cases hy
   obtain ⟨t,rfl⟩ := searchL_pre hx
   obtain ⟨u,rfl⟩ := searchL_pre hy
   simp only [List.append_assoc,List.singleton_append]
   exact bef_lt (by omega)
theorem rights_sorted (c : CL) : (rightsL c).Pairwise (fun a b => bef a b = true) := searchL_sorted _ _
theorem best_aux {α : Type} {m : α → Int} : ∀ (X : List α) (o p : α),X.foldl (fun acc x => match acc with | none => some x | some o => if decide (m x < m o) then some x else some o) (some o) = some p →
  (p = o ∧ ∀ q ∈ X,m o ≤ m q) ∨ ∃ A B,X = A ++ p :: B ∧ m p < m o ∧ (∀ q ∈ A,m p < m q) ∧ ∀ q ∈ B,m p ≤ m q
 | [],o,p,h => by cases h;exact .inl ⟨rfl,fun _ h => by cases h⟩
 | x :: X,o,p,h => by
  simp only [List.foldl_cons] at h
  by_cases hx : m x < m o
  ·simp only [hx,decide_true,if_true] at h
   rcases best_aux X x p h with ⟨rfl,h1⟩ | ⟨A,B,rfl,h1,h2,h3⟩
   ·exact .inr ⟨[],X,rfl,hx,(fun _ h => by cases h),h1⟩
   ·refine .inr ⟨x :: A,B,rfl,by omega,fun q hq => ?_,h3⟩
    rcases List.mem_cons.1 hq with rfl | hq
    ·exact h1
    ·exact h2 q hq
  ·simp only [hx,decide_false,Bool.false_eq_true,if_false] at h
   rcases best_aux X o p h with ⟨rfl,h1⟩ | ⟨A,B,rfl,h1,h2,h3⟩
   ·refine .inl ⟨rfl,fun q hq => ?_⟩
    rcases List.mem_cons.1 hq with rfl | hq
    ·omega
    ·exact h1 q hq
   ·refine .inr ⟨x :: A,B,rfl,h1,fun q hq => ?_,h3⟩
    rcases List.mem_cons.1 hq with rfl | hq
    ·omega
    ·exact h2 q hq
theorem best_some {α : Type} {m : α → Int} {X : List α} {p : α} (h : bestF (fun a b => decide (m a < m b)) X = some p) : ∃ A B,X = A ++ p :: B ∧ (∀ q ∈ A,m p < m q) ∧ ∀ q ∈ B,m p ≤ m q := by
 cases X with
 | nil => cases h
 | cons x X =>
  rcases best_aux X x p h with ⟨rfl,h1⟩ | ⟨A,B,rfl,h1,h2,h3⟩
  ·exact ⟨[],X,rfl,(fun _ h => by cases h),h1⟩
  ·refine ⟨x :: A,B,rfl,fun q hq => ?_,h3⟩
   rcases List.mem_cons.1 hq with rfl | hq
   ·exact h1
   ·exact h2 q hq
theorem best_none {α : Type} {bt : α → α → Bool} {X : List α} (h : bestF bt X = none) : X = [] := by
 cases X with
 | nil => rfl
 | cons x X =>
  exfalso
  have : ∀ (X : List α) (o : α),X.foldl (fun acc x => match acc with | none => some x | some o => if bt x o then some x else some o) (some o) ≠ none := by
   intro X
   induction X with
   | nil => intro o h;cases h
   | cons y X ih => intro o;simp only [List.foldl_cons];cases bt y o <;> exact ih _
  exact this X x h
theorem best_law {m : List Int → Int} {X : List (List Int)} {p : List Int} (hs : X.Pairwise (fun a b => bef a b = true)) (h : bestF (fun a b => decide (m a < m b)) X = some p) :
  p ∈ X ∧ ∀ q ∈ X,m p ≤ m q ∧ (m q = m p → bef q p = false) := by
 obtain ⟨A,B,rfl,hA,hB⟩ := best_some h
 refine ⟨by simp,fun q hq => ?_⟩
 rcases List.mem_append.1 hq with h1 | h1
 ·have := hA q h1
  exact ⟨by omega,by omega⟩
 ·rcases List.mem_cons.1 h1 with rfl | h2
  ·exact ⟨by omega,fun _ => bef_irr _⟩
  ·exact ⟨hB q h2,fun _ => bef_asym _ _ ((List.pairwise_cons.1 (List.pairwise_append.1 hs).2.1).1 q h2)⟩
theorem getD_in {p : List Int} {i : Nat} (hi : i < p.length) : p.getD i 0 = p[i] := by rw [List.getD_eq_getElem?_getD,List.getElem?_eq_getElem hi];rfl
theorem mem_cast {P : Nat → Bool} {n i : Nat} : (i : Int) ∈ castL ((List.range n).filter P) ↔ i < n ∧ P i = true := by
 unfold castL
 rw [List.mem_map]
 constructor
 ·rintro ⟨k,hk,e⟩
  rw [List.mem_filter,List.mem_range] at hk
  obtain rfl : k = i := by omega
  exact hk
 ·intro h
  exact ⟨i,by rw [List.mem_filter,List.mem_range];exact h,rfl⟩
theorem hasI_iff {l : List Int} {x : Int} : hasI l x = true ↔ x ∈ l := by
 unfold hasI
 rw [List.any_eq_true]
 constructor
 ·rintro ⟨a,ha,h⟩
  rw [beq_iff_eq] at h
  rw [h];exact ha
 ·intro h
  exact ⟨x,h,by simp⟩
end Go.Den.Ch
end
section
namespace Go.Den.Ch
def fitsB (c : CL) (p : List Int) : Bool := packB c p && (fault c p).isNone
def movedT (p q : List Int) (n : Nat) : Int := (((List.range n).filter (movP p q)).length : Int)
def movedM (p q : List Int) : Int := movedT p q (min p.length q.length)
theorem zs : (∀ h : Decidable False,decide (h := h) False = false) ∧ (∀ h : Decidable True,decide (h := h) True = true) ∧ (((0 : Int) != 0) = false) ∧ (((5 : Int) != 0) = true) ∧ (((7 : Int) != 0) = true) ∧ (((5 : Int) == 5) = true) ∧ (((0 : Int) == 0) = true) ∧ (((5 : Int) == 0) = false) ∧ (((7 : Int) == 7) = true) ∧ (((7 : Int) == 0) = false) ∧ (((7 : Int) != 7) = false) ∧ (((5 : Int) != 5) = false) ∧ (decide ((0 : Int) < 0) = false) ∧ (decide ((0 : Int) > 0) = false) ∧ ((true != true) = false) ∧ ((false != false) = false) ∧ ((true != false) = true) ∧ ((false != true) = true) := ⟨fun h => by cases h <;> first | rfl | contradiction,fun h => by cases h <;> first | rfl | contradiction,by decide⟩
theorem nee (n : Int) : (n == n) = true := by simp
theorem r58 (c : CL) (F : PV) (hF : SlOf 3 encF F c.figs) (st : St) : ClR EE (.func 58 [] []) [clPV c F] st (fun v st' => ∃ P,v = .tuple [P,iv (chestsR c).2.1,iv (chestsR c).2.2] ∧ SlOf 1 encI P (chestsR c).1 ∧ Keep st st') := by
 obtain ⟨v,st',h1,P,e,hW⟩ := c58 c F hF st
 exact ⟨v,st',h1,P,e,retI hW,keepW hW⟩
end Go.Den.Ch
end
section
namespace Go.Den.Ch
set_option maxHeartbeats 1000000 in
theorem c114 (c : CL) (F : PV) (hF : SlOf 3 encF F c.figs) (r : Int) (i a b : Nat) (hr : (r = 3 ∧ i = 0) ∨ (r = 4 ∧ i = 1)) (ha : a < c.figs.length) (hb : b < c.figs.length) (st : St) : Cl EE (.func 114 [] []) [clPV c F,iv r,iv a,iv b] st (.ret (.bool (decide (key i c.figs[a] > key i c.figs[b])))) st := by
 have hFc := hF.cells
 refine cl_fn (pr114 · _ _) fn114 4 rfl (by decide) (fun tm hl hg => ?_);have h0 : tg tm 0 = clPV c F := (hg 0 (by decide));have h1 : tg tm 1 = iv r := (hg 1 (by decide));have h2 : tg tm 2 = iv a := (hg 2 (by decide));have h3 : tg tm 3 = iv b := (hg 3 (by decide));clear hg
 rcases hr with ⟨rfl,rfl⟩ | ⟨rfl,rfl⟩
 ·have e : decide (key 0 c.figs[a] > key 0 c.figs[b]) = decide (c.figs[a].rank < c.figs[b].rank) := by
   rw [decide_eq_decide];simp only [key,if_true];omega
  have z : ((3 : Int) == 3) = true := rfl
  rw [e]
  refine go (bw6 hl h0 h1 h2 h3 undef_e) fnil ?_
  refine wopsD_set (v := undef) (l := st.heap.length + 1) (ob := .var [iv c.figs[a].size,iv c.figs[a].rank,iv c.figs[a].eve]) (by simp only [lo_push,len_push];omega) (by simp only [len_push];omega) rfl rfl (fun rec st3 he hh => by simp only [↓reduceIte,go_sem,hl,hh,he]) ?_
  refine wopsD_set (v := undef) (l := st.heap.length + 2) (ob := .var [iv c.figs[b].size,iv c.figs[b].rank,iv c.figs[b].eve]) (by simp only [lo_push,lo_setVar,len_push,len_setVar];omega) (by simp only [len_push,len_setVar];omega) rfl rfl (fun rec st3 he hh => by simp only [↓reduceIte,go_sem,hl,hh,he]) ?_
  apply wopsD_nil
  refine ⟨?_,?_⟩
  ·simp only [footOk,List.all_cons,List.all_nil,List.getElem?_cons_zero,List.getElem?_cons_succ,Bool.and_true]
   simp only [footOf]
   simp only [↓reduceIte,go_sem,hl]
   have hq : ∀ l,clash l Foot.quiet = false := fun _ => rfl
   have hq1 : clash st.heap.length (.st (st.heap.length + 1)) = false := by simp [clash]
   have hq2 : clash st.heap.length (.st (st.heap.length + 2)) = false := by simp [clash]
   simp only [List.all_cons,List.all_nil,List.getElem?_cons_zero,List.getElem?_cons_succ,hq,hq1,hq2,Bool.not_false,Bool.and_self]
  ·refine go (bw3 hl h1 z) fnil ?_
   refine fnq_flat (results_one (by rw [rdRes_tmp];simp only [↓reduceIte,go_sem,hl];first | done | rfl)) (by simp only [lo_push,lo_setVar];omega) (by rfl)
 ·have e : decide (key 1 c.figs[a] > key 1 c.figs[b]) = decide (c.figs[a].eve > c.figs[b].eve) := by
   rw [decide_eq_decide];simp only [key,Nat.one_ne_zero,if_false]
  have z : ((4 : Int) == 3) = false := rfl
  rw [e]
  refine go (bw6 hl h0 h1 h2 h3 undef_e) fnil ?_
  refine wopsD_set (v := undef) (l := st.heap.length + 1) (ob := .var [iv c.figs[a].size,iv c.figs[a].rank,iv c.figs[a].eve]) (by simp only [lo_push,len_push];omega) (by simp only [len_push];omega) rfl rfl (fun rec st3 he hh => by simp only [↓reduceIte,go_sem,hl,hh,he]) ?_
  refine wopsD_set (v := undef) (l := st.heap.length + 2) (ob := .var [iv c.figs[b].size,iv c.figs[b].rank,iv c.figs[b].eve]) (by simp only [lo_push,lo_setVar,len_push,len_setVar];omega) (by simp only [len_push,len_setVar];omega) rfl rfl (fun rec st3 he hh => by simp only [↓reduceIte,go_sem,hl,hh,he]) ?_
  apply wopsD_nil
  refine ⟨?_,?_⟩
  ·simp only [footOk,List.all_cons,List.all_nil,List.getElem?_cons_zero,List.getElem?_cons_succ,Bool.and_true]
   simp only [footOf]
   simp only [↓reduceIte,go_sem,hl]
   have hq : ∀ l,clash l Foot.quiet = false := fun _ => rfl
   have hq1 : clash st.heap.length (.st (st.heap.length + 1)) = false := by simp [clash]
   have hq2 : clash st.heap.length (.st (st.heap.length + 2)) = false := by simp [clash]
   simp only [List.all_cons,List.all_nil,List.getElem?_cons_zero,List.getElem?_cons_succ,hq,hq1,hq2,Bool.not_false,Bool.and_self]
  ·refine go (bw3 hl h1 z) fnil ?_
   refine fnq_flat (results_one (by rw [rdRes_tmp];simp only [↓reduceIte,go_sem,hl];first | done | rfl)) (by simp only [lo_push,lo_setVar];omega) (by rfl)
theorem sum_pos {c : CL} (hc : OkL c) {p : List Int} {n : Int} (h : (layerL c.figs p n).sum = 0) : (layerL c.figs p n).length = 0 := by
 have he : layerL c.figs p n = [] := sum_zero (fun x hx => ((hc.layer p n).2 x hx).1) h
 rw [he];rfl
set_option maxHeartbeats 8000000 in
theorem c68 (c : CL) (F P : PV) (p : List Int) (hF : SlOf 3 encF F c.figs) (hP : SlOf 1 encI P p) (hc : OkL c) (hp0 : OkP c p) (st : St) : Cl EE (.func 68 [] []) [clPV c F,P] st (.ret (.tuple [fltO (fault c p),.bool (fault c p).isSome])) st := by
 have hFc := hF.cells
 have hPs := hP.slen
 have hlen := hc.len
 have hpl := hp0.len
 obtain ⟨d,hd⟩ : ∃ d : Nat,c.depth = d := ⟨c.depth.toNat,by have := hc.d0;omega⟩
 have hd5 : d ≤ 5 := by have := hc.d1;omega
 have k28 := fun n => c28 c F P p n hF hP hc hpl
 refine cl_fn (pr68 · _ _) fn68 2 rfl (by decide) (fun tm hl hg => ?_);have h0 : tg tm 0 = clPV c F := (hg 0 (by decide));have h1 : tg tm 1 = P := (hg 1 (by decide));clear hg
 refine go (bw hl h0) fnil ?_
 refine wp_for [6] (fun i vs s => vs = [iv i] ∧ i ≤ d ∧ (∀ k : Nat,k < i → ¬ (layerL c.figs p k).sum > c.room) ∧ s = (({ heap := st.heap,lo := st.heap.length } : St).push (.var [iv c.room,iv c.depth,F])).push (.var [iv 0,iv 0,iv 0])) (fun i => d - i) ⟨by simp only [↓reduceIte,go_sem,hl];first | done | rfl,Nat.zero_le _,(fun k hk => absurd hk (by omega)),by first | done | rfl⟩ ?_
 rintro i tm1 st1 ⟨hv,hi,hno,rfl⟩ hS
 simp only [List.map_cons,List.map_nil,List.cons.injEq,and_true] at hv
 have hl1 : tm1.length = 76 := (by rw [hS.1];simp only [put_len,hl]);have i1 : tg tm1 1 = P := (by rw [hS.2 1 (by decide)];simp only [↓reduceIte,go_sem,hl,h1]);have i2 : tg tm1 2 = .ptr st.heap.length 0 := (by rw [hS.2 2 (by decide)];simp only [↓reduceIte,go_sem,hl,h1]);have i4 : tg tm1 4 = .ptr (st.heap.length + 1) 0 := (by rw [hS.2 4 (by decide)];simp only [↓reduceIte,go_sem,hl,h1]);clear hS
 refine go (bw3 hl1 hv i2) fnil ?_
 refine ⟨decide ((i : Int) < c.depth),by simp only [↓reduceIte,go_sem,hl1],fun hb => ?_,fun hb1 => ?_⟩
 rotate_left
 ·have hlt : i < d := by have := of_decide_eq_true hb1;omega
  have hw1 : IntKind.wrap .i64 ((i : Int) + 1) = ((i + 1 : Nat) : Int) := wrap_nat (n := i + 1) (by omega)
  refine ⟨by omega,?_⟩
  by_cases hf : (layerL c.figs p (i : Nat)).sum > c.room
  ·have hdd : decide ((layerL c.figs p (i : Nat)).sum > c.room) = true := by simp [hf]
   have hft : fault c p = some ⟨1,i,0⟩ := by
    have : fullL c p = some ⟨1,i,0⟩ := by
     refine range_some (by omega) (fun k hk => if_neg (hno k hk)) (if_pos hf)
    simp [fault,this]
   rw [hft]
   refine go (bw6 hl1 hv i1 i2 i4 hdd) (bw k28 fnil) ?_
   refine fnq_tuple (results_two (v := fltPV ⟨1,i,0⟩) (u := .bool true) ?_ ?_) (by simp only [lo_push,lo_setVar];omega) (by rfl)
   ·rw [rdRes_hp (l := st.heap.length + 1) (off := 0) (by simp only [↓reduceIte,go_sem,hl1,i4])]
    simp only [↓reduceIte,go_sem,hl1,i1,i2,i4]
   ·rw [rdRes_tmp];simp only [↓reduceIte,go_sem,hl1]
  ·have hdd : decide ((layerL c.figs p (i : Nat)).sum > c.room) = false := by simp [hf]
   refine go (bw7 hl1 hv i1 i2 i4 hdd hw1) (bw k28 fnil) ?_
   refine ⟨by simp only [↓reduceIte,go_sem,hl1],by omega,fun k hk => ?_,rfl⟩
   by_cases hki : k = i
   ·subst hki;exact hf
   ·exact hno k (by omega)
 have hlt := of_decide_eq_false hb
 have hfull : fullL c p = none := range_none (fun k hk => if_neg (hno k (by omega)))
 obtain ⟨L,hL⟩ : ∃ L : Nat,layersL p = L := ⟨(layersL p).toNat,by have := layersL_nonneg p;omega⟩
 have hL5 : L ≤ 5 := by
  have := layersL_bound (p := p) (d := c.depth) hc.d0 (fun x hx => (hp0.rng x hx).2)
  omega
 have k29 := c29 P p hP (by omega) (layersL_small hc hp0)
 rw [hL] at k29
 clear hv hb hlt hno hi
 refine go hl1 fnil ?_
 refine wp_for [7] (fun i vs s => vs = [iv i] ∧ i ≤ L ∧ (∀ k : Nat,k < i → ¬ (layerL c.figs p k).length = 0) ∧ s = (({ heap := st.heap,lo := st.heap.length } : St).push (.var [iv c.room,iv c.depth,F])).push (.var [iv 0,iv 0,iv 0])) (fun i => L - i) ⟨by simp only [↓reduceIte,go_sem,hl1];first | done | rfl,Nat.zero_le _,(fun k hk => absurd hk (by omega)),by first | done | rfl⟩ ?_
 rintro i tm2 st1 ⟨hv,hi,hno,rfl⟩ hS
 simp only [List.map_cons,List.map_nil,List.cons.injEq,and_true] at hv
 have hl2 : tm2.length = 76 := (by rw [hS.1];simp only [put_len,hl1]);have j1 : tg tm2 1 = P := (by rw [hS.2 1 (by decide)];simp only [↓reduceIte,go_sem,hl1,i1,i2,i4]);have j2 : tg tm2 2 = .ptr st.heap.length 0 := (by rw [hS.2 2 (by decide)];simp only [↓reduceIte,go_sem,hl1,i1,i2,i4]);have j4 : tg tm2 4 = .ptr (st.heap.length + 1) 0 := (by rw [hS.2 4 (by decide)];simp only [↓reduceIte,go_sem,hl1,i1,i2,i4]);clear hS
 clear hl i1 i2 i4 hl1 tm1 h0 h1 tm
 refine go (bw3 hl2 hv j1) (bw k29 fnil) ?_
 refine ⟨decide ((i : Int) < (L : Int)),by simp only [↓reduceIte,go_sem,hl2],fun hb => ?_,fun hb1 => ?_⟩
 rotate_left
 ·have hlt : i < L := by have := of_decide_eq_true hb1;omega
  have hw1 : IntKind.wrap .i64 ((i : Int) + 1) = ((i + 1 : Nat) : Int) := wrap_nat (n := i + 1) (by omega)
  refine ⟨by omega,?_⟩
  by_cases hf : (layerL c.figs p (i : Nat)).sum = 0
  ·have hdd : ((layerL c.figs p (i : Nat)).sum == 0) = true := by simp [hf]
   have hft : fault c p = some ⟨2,i,0⟩ := by
    have : gapL c p = some ⟨2,i,0⟩ := by
     refine range_some (by omega) (fun k hk => if_neg (hno k hk)) (if_pos (sum_pos hc hf))
    simp [fault,hfull,this]
   rw [hft]
   refine go (bw6 hl2 hv j1 j2 j4 hdd) (bw k28 fnil) ?_
   refine fnq_tuple (results_two (v := fltPV ⟨2,i,0⟩) (u := .bool true) ?_ ?_) (by simp only [lo_push,lo_setVar];omega) (by rfl)
   ·rw [rdRes_hp (l := st.heap.length + 1) (off := 0) (by simp only [↓reduceIte,go_sem,hl2,j4])]
    simp only [↓reduceIte,go_sem,hl2,j1,j2,j4]
   ·rw [rdRes_tmp];simp only [↓reduceIte,go_sem,hl2]
  ·have hdd : ((layerL c.figs p (i : Nat)).sum == 0) = false := by simp [hf]
   refine go (bw7 hl2 hv j1 j2 j4 hdd hw1) (bw k28 fnil) ?_
   refine ⟨by simp only [↓reduceIte,go_sem,hl2],by omega,fun k hk => ?_,rfl⟩
   by_cases hki : k = i
   ·subst hki
    intro h0
    rw [List.eq_nil_of_length_eq_zero h0] at hf
    exact hf rfl
   ·exact hno k (by omega)
 have hlt := of_decide_eq_false hb
 have hgap : gapL c p = none := range_none (fun k hk => if_neg (hno k (by omega)))
 clear hv hb hlt hno hi k29
 refine go hl2 fnil ?_
 refine wp_for [8] (fun i vs s => vs = [iv (3 + (i : Int))] ∧ i ≤ 2 ∧ (∀ k : Nat,k < i → disA c p k = none) ∧ s = (({ heap := st.heap,lo := st.heap.length } : St).push (.var [iv c.room,iv c.depth,F])).push (.var [iv 0,iv 0,iv 0])) (fun i => 2 - i) ⟨by simp only [↓reduceIte,go_sem,hl2];first | done | rfl,Nat.zero_le _,(fun k hk => absurd hk (by omega)),by first | done | rfl⟩ ?_
 rintro i tm3 st1 ⟨hv,hi,hno,rfl⟩ hS
 simp only [List.map_cons,List.map_nil,List.cons.injEq,and_true] at hv
 have hl3 : tm3.length = 76 := (by rw [hS.1];simp only [put_len,hl2]);have k1 : tg tm3 1 = P := (by rw [hS.2 1 (by decide)];simp only [↓reduceIte,go_sem,hl2,j1,j2,j4]);have k2 : tg tm3 2 = .ptr st.heap.length 0 := (by rw [hS.2 2 (by decide)];simp only [↓reduceIte,go_sem,hl2,j1,j2,j4]);have k4 : tg tm3 4 = .ptr (st.heap.length + 1) 0 := (by rw [hS.2 4 (by decide)];simp only [↓reduceIte,go_sem,hl2,j1,j2,j4]);clear hS
 clear hl2 j1 j2 j4 tm2
 refine go (bw hl3 hv) fnil ?_
 refine ⟨decide (3 + (i : Int) ≤ 4),by simp only [↓reduceIte,go_sem,hl3],fun hb => ?_,fun hb1 => ?_⟩
 ·have hlt := of_decide_eq_false hb
  have hft : fault c p = none := by
   have : disorder c p = none := range_none (fun k hk => hno k (by omega))
   simp [fault,hfull,hgap,this]
  rw [hft]
  refine go (bw4 hl3 k1 k2 k4) fnil ?_
  refine fnq_tuple (results_two (v := zeroF) (u := .bool false) ?_ ?_) (by simp only [lo_push,lo_setVar];omega) (by rfl)
  ·rw [rdRes_hp (l := st.heap.length + 1) (off := 0) (by simp only [↓reduceIte,go_sem,hl3,k4])]
   simp only [↓reduceIte,go_sem,hl3,k4]
   rfl
  ·rw [rdRes_tmp];simp only [↓reduceIte,go_sem,hl3]
 have hi2 : i < 2 := by have := of_decide_eq_true hb1;omega
 have hw8 : IntKind.wrap .i64 (3 + (i : Int) + 1) = 3 + ((i + 1 : Nat) : Int) := by rw [wrap_in (by unfold inI;omega)];omega
 refine ⟨by omega,?_⟩
 refine go hl3 fnil ?_
 refine wp_for [9] (fun a vs s => vs = [iv a] ∧ a ≤ p.length ∧ (∀ k : Nat,k < a → disB c p i k = none) ∧ s = (({ heap := st.heap,lo := st.heap.length } : St).push (.var [iv c.room,iv c.depth,F])).push (.var [iv 0,iv 0,iv 0])) (fun a => p.length - a) ⟨by simp only [↓reduceIte,go_sem,hl3];first | done | rfl,Nat.zero_le _,(fun k hk => absurd hk (by omega)),by first | done | rfl⟩ ?_
 rintro a tm4 st1 ⟨hv9,ha,hno2,rfl⟩ hS
 simp only [List.map_cons,List.map_nil,List.cons.injEq,and_true] at hv9
 have hl4 : tm4.length = 76 := (by rw [hS.1];simp only [put_len,hl3]);have m1 : tg tm4 1 = P := (by rw [hS.2 1 (by decide)];simp only [↓reduceIte,go_sem,hl3,k1,k2,k4,hv]);have m2 : tg tm4 2 = .ptr st.heap.length 0 := (by rw [hS.2 2 (by decide)];simp only [↓reduceIte,go_sem,hl3,k1,k2,k4,hv]);have m4 : tg tm4 4 = .ptr (st.heap.length + 1) 0 := (by rw [hS.2 4 (by decide)];simp only [↓reduceIte,go_sem,hl3,k1,k2,k4,hv]);have m8 : tg tm4 8 = iv (3 + (i : Int)) := (by rw [hS.2 8 (by decide)];simp only [↓reduceIte,go_sem,hl3,k1,k2,k4,hv]);clear hS
 clear hl3 k1 k2 k4 hv tm3
 refine go (bw4 hl4 hv9 m1 hPs) fnil ?_
 refine ⟨decide ((a : Int) < p.length),by simp only [↓reduceIte,go_sem,hl4],fun hb => ?_,fun hb2 => ?_⟩
 ·have hlt := of_decide_eq_false hb
  refine go (bw3 hl4 m8 hw8) fnil ?_
  refine ⟨by simp only [↓reduceIte,go_sem,hl4],by omega,fun k hk => ?_,rfl⟩
  by_cases hki : k = i
  ·subst hki
   exact range_none (fun b hb => hno2 b (by omega))
  ·exact hno k (by omega)
 have hap : a < p.length := by have := of_decide_eq_true hb2;omega
 have haf : a < c.figs.length := by omega
 have hw9 : IntKind.wrap .i64 ((a : Int) + 1) = ((a + 1 : Nat) : Int) := wrap_nat (n := a + 1) (by omega)
 refine ⟨by omega,?_⟩
 refine go hl4 fnil ?_
 refine wp_for [10] (fun b vs s => vs = [iv b] ∧ b ≤ p.length ∧ (∀ k : Nat,k < b → brk c p i a k = false) ∧ s = (({ heap := st.heap,lo := st.heap.length } : St).push (.var [iv c.room,iv c.depth,F])).push (.var [iv 0,iv 0,iv 0])) (fun b => p.length - b) ⟨by simp only [↓reduceIte,go_sem,hl4];first | done | rfl,Nat.zero_le _,(fun k hk => absurd hk (by omega)),by first | done | rfl⟩ ?_
 rintro b tm5 st1 ⟨hv10,hb0,hno3,rfl⟩ hS
 simp only [List.map_cons,List.map_nil,List.cons.injEq,and_true] at hv10
 have hl5 : tm5.length = 76 := (by rw [hS.1];simp only [put_len,hl4]);have n1 : tg tm5 1 = P := (by rw [hS.2 1 (by decide)];simp only [↓reduceIte,go_sem,hl4,m1,m2,m4,m8,hv9]);have n2 : tg tm5 2 = .ptr st.heap.length 0 := (by rw [hS.2 2 (by decide)];simp only [↓reduceIte,go_sem,hl4,m1,m2,m4,m8,hv9]);have n4 : tg tm5 4 = .ptr (st.heap.length + 1) 0 := (by rw [hS.2 4 (by decide)];simp only [↓reduceIte,go_sem,hl4,m1,m2,m4,m8,hv9]);have n8 : tg tm5 8 = iv (3 + (i : Int)) := (by rw [hS.2 8 (by decide)];simp only [↓reduceIte,go_sem,hl4,m1,m2,m4,m8,hv9]);have n9 : tg tm5 9 = iv a := (by rw [hS.2 9 (by decide)];simp only [↓reduceIte,go_sem,hl4,m1,m2,m4,m8,hv9]);clear hS
 clear hl4 m1 m2 m4 m8 hv9 tm4
 refine go (bw4 hl5 hv10 n1 hPs) fnil ?_
 refine ⟨decide ((b : Int) < p.length),by simp only [↓reduceIte,go_sem,hl5],fun hb => ?_,fun hb3 => ?_⟩
 ·have hlt := of_decide_eq_false hb
  refine go (bw3 hl5 n9 hw9) fnil ?_
  refine ⟨by simp only [↓reduceIte,go_sem,hl5],by omega,fun k hk => ?_,rfl⟩
  by_cases hka : k = a
  ·subst hka
   exact range_none (fun b hb => by rw [if_neg (by rw [hno3 b (by omega)];simp)])
  ·exact hno2 k (by omega)
 have hbp : b < p.length := by have := of_decide_eq_true hb3;omega
 have hbf : b < c.figs.length := by omega
 have hw10 : IntKind.wrap .i64 ((b : Int) + 1) = ((b + 1 : Nat) : Int) := wrap_nat (n := b + 1) (by omega)
 have hbrk := brk_at (i := i) haf hbf hpl
 have k114 := c114 c F hF (3 + (i : Int)) i a b (by omega) haf hbf
 refine ⟨by omega,?_⟩
 have hgo : brk c p i a b = false → ∀ k : Nat,k < b + 1 → brk c p i a k = false := fun h k hk => by
  by_cases hkb : k = b
  ·rw [hkb];exact h
  ·exact hno3 k (by omega)
 cases hdd : decide (p[a] < p[b])
 ·rw [hdd,Bool.false_and] at hbrk
  refine go (bw8 hl5 hv10 n1 n2 n8 n9 hdd hw10) fnil ?_
  exact ⟨by simp only [↓reduceIte,go_sem,hl5],by omega,hgo hbrk,rfl⟩
 ·rw [hdd,Bool.true_and] at hbrk
  cases hk : decide (key i c.figs[a] > key i c.figs[b])
  ·rw [hk] at hbrk k114
   refine go (bw8 hl5 hv10 n1 n2 n8 n9 hdd hw10) (bw k114 fnil) ?_
   exact ⟨by simp only [↓reduceIte,go_sem,hl5],by omega,hgo hbrk,rfl⟩
  ·rw [hk] at hbrk k114
   have hdis : disorder c p = some ⟨3 + i,a,b⟩ := by
    refine range_some hi2 hno (range_some haf hno2 (range_some hbf (fun k hk => ?_) ?_))
    ·rw [if_neg (by rw [hno3 k hk];simp)]
    ·rw [if_pos hbrk]
   have hft : fault c p = some ⟨3 + i,a,b⟩ := by simp [fault,hfull,hgap,hdis]
   rw [hft]
   refine go (bw8 hl5 hv10 n1 n2 n4 n8 n9 hdd) (bw k114 fnil) ?_
   refine fnq_tuple (results_two (v := fltPV ⟨3 + i,a,b⟩) (u := .bool true) ?_ ?_) (by simp only [lo_push,lo_setVar];omega) (by rfl)
   ·rw [rdRes_hp (l := st.heap.length + 1) (off := 0) (by simp only [↓reduceIte,go_sem,hl5,n4])]
    simp only [↓reduceIte,go_sem,hl5,n1,n2,n4]
   ·rw [rdRes_tmp];simp only [↓reduceIte,go_sem,hl5]
theorem c46 (c : CL) (F P : PV) (p : List Int) (hF : SlOf 3 encF F c.figs) (hP : SlOf 1 encI P p) (hc : OkL c) (hp0 : OkP c p) (st : St) : Cl EE (.func 46 [] []) [clPV c F,P] st (.ret (.bool (fault c p).isNone)) st := by
 have hFc := hF.cells
 have hFi := hF.isCell
 obtain ⟨r,o1,o2,hr⟩ : ∃ r o1 o2 : Int,fltO (fault c p) = .agg [iv r,iv o1,iv o2] := by
  cases fault c p with
  | none => exact ⟨0,0,0,rfl⟩
  | some f => exact ⟨f.rule,f.one,f.other,rfl⟩
 have k68 := c68 c F P p hF hP hc hp0
 rw [hr] at k68
 have e : (fault c p).isNone = !(fault c p).isSome := by cases fault c p <;> rfl
 rw [e]
 refine cl_fn (pr46 · _ _) fn46 2 rfl (by decide) (fun tm hl hg => ?_);have h0 : tg tm 0 = clPV c F := (hg 0 (by decide));have h1 : tg tm 1 = P := (hg 1 (by decide));clear hg
 refine go (bw3 hl h0 h1) (bw k68 fnil) ?_
 refine fnq_flat (results_one (by rw [rdRes_tmp];simp only [↓reduceIte,go_sem,hl];first | done | rfl)) (by first | exact Nat.le_refl _ | omega | (simp only [lo_push,lo_setVar];omega)) (by rfl)
end Go.Den.Ch
end
section
namespace Go.Den.Ch
end Go.Den.Ch
end
section
namespace Go.Den.Ch
def rkN (q : List Int) (m : Nat) : Nat := ((List.range m).filter fun (k : Nat) => hasI q (k : Int)).length
def rk (q : List Int) (x : Int) : Int := (rkN q x.toNat : Nat)
theorem rkN_succ (q : List Int) (m : Nat) : rkN q (m + 1) = rkN q m + (if hasI q (m : Int) then 1 else 0) := by
 unfold rkN
 rw [List.range_succ,List.filter_append,List.length_append]
 cases h : hasI q (m : Int) <;> simp [h]
theorem rkN_le (q : List Int) : ∀ m,rkN q m ≤ m
 | 0 => Nat.le_refl _
 | m + 1 => by have := rkN_le q m;rw [rkN_succ];split <;> omega
theorem rkN_mono (q : List Int) (m : Nat) : ∀ d,rkN q m ≤ rkN q (m + d)
 | 0 => Nat.le_refl _
 | d + 1 => by have := rkN_mono q m d;rw [← Nat.add_assoc,rkN_succ];omega
theorem rk_mono {q : List Int} {x y : Int} (h : x ≤ y) : rk q x ≤ rk q y := by
 have := rkN_mono q x.toNat (y.toNat - x.toNat)
 rw [show x.toNat + (y.toNat - x.toNat) = y.toNat by omega] at this
 unfold rk;omega
theorem rk_lt {q : List Int} {x y : Int} (hx : x ∈ q) (h0 : 0 ≤ x) (h : x < y) : rk q x < rk q y := by
 have h1 := rkN_mono q (x.toNat + 1) (y.toNat - x.toNat - 1)
 rw [show x.toNat + 1 + (y.toNat - x.toNat - 1) = y.toNat by omega,rkN_succ,Int.toNat_of_nonneg h0,hasI_iff.2 hx,if_pos rfl] at h1
 unfold rk;omega
theorem rk_lt_iff {q : List Int} {x y : Int} (h : rk q x < rk q y) : x < y := by
 apply Int.not_le.1
 intro h2
 have := rk_mono (q := q) h2
 omega
theorem rk_inj {q : List Int} {x y : Int} (hx : x ∈ q) (hy : y ∈ q) (h0 : 0 ≤ x) (h1 : 0 ≤ y) (h : rk q x = rk q y) : x = y := by
 rcases Int.lt_trichotomy x y with h2 | h2 | h2
 ·have := rk_lt hx h0 h2;omega
 ·exact h2
 ·have := rk_lt hy h1 h2;omega
theorem rk_surj {q : List Int} : ∀ (m : Nat) (n : Int),0 ≤ n → n < (rkN q m : Nat) → ∃ x ∈ q,rk q x = n ∧ 0 ≤ x
 | 0,n,h0,h => by simp [rkN] at h;omega
 | m + 1,n,h0,h => by
  by_cases h1 : n < (rkN q m : Nat)
  ·exact rk_surj m n h0 h1
  ·rw [rkN_succ] at h
   cases hm : hasI q (m : Int) with
   | false => rw [hm] at h;simp at h;omega
   | true =>
    rw [hm] at h
    simp only [if_true] at h
    refine ⟨m,hasI_iff.1 hm,?_,by omega⟩
    unfold rk
    rw [Int.toNat_natCast];omega
theorem map_of : ∀ {gs : List Int} {p : List Int},gs.Pairwise (· < ·) → p.length = gs.length → ∃ lam : Int → Int,p = gs.map lam
 | [],[],_,_ => ⟨fun _ => 0,rfl⟩
 | g :: gs,x :: p,hn,hl => by
  rw [List.pairwise_cons] at hn
  obtain ⟨lam,e⟩ := map_of hn.2 (by simpa using hl)
  refine ⟨fun k => if k = g then x else lam k,?_⟩
  rw [List.map_cons,if_pos rfl,e]
  congr 1
  refine List.map_congr_left fun k hk => ?_
  have := hn.1 k hk
  rw [if_neg (by omega)]
theorem lay_sum (G : Int → Fig) (lam : Int → Int) (x : Int) : ∀ gs : List Int,(layerL (gs.map G) (gs.map lam) x).sum = (gs.map fun k => if lam k = x then (G k).size else 0).sum
 | [] => rfl
 | g :: gs => by
  have ih := lay_sum G lam x gs
  simp only [List.map_cons,layerL,List.sum_cons]
  by_cases h : lam g = x
  ·rw [if_pos h,if_pos h,List.sum_cons,ih]
  ·rw [if_neg h,if_neg h,ih];omega
theorem sum_filter_le {w : Int → Int} (P : Int → Bool) : ∀ l : List Int,(∀ k ∈ l,0 ≤ w k) → ((l.filter P).map w).sum ≤ (l.map w).sum
 | [],_ => Int.le_refl _
 | k :: l,h => by
  have ih := sum_filter_le P l fun j hj => h j (by simp [hj])
  have := h k (by simp)
  rw [List.filter_cons]
  split
  ·simp only [List.map_cons,List.sum_cons];omega
  ·simp only [List.map_cons,List.sum_cons];omega
theorem sum_mem_le {w : Int → Int} : ∀ l : List Int,(∀ k ∈ l,0 ≤ w k) → 0 ≤ (l.map w).sum ∧ ∀ k ∈ l,w k ≤ (l.map w).sum
 | [],_ => ⟨Int.le_refl _,fun _ h => by cases h⟩
 | k :: l,h => by
  obtain ⟨h1,h2⟩ := sum_mem_le l fun j hj => h j (by simp [hj])
  have h3 := h k (by simp)
  simp only [List.map_cons,List.sum_cons]
  refine ⟨by omega,fun j hj => ?_⟩
  rcases List.mem_cons.1 hj with rfl | hj
  ·omega
  ·have := h2 j hj;omega
theorem layersL_mem {p : List Int} {n : Int} (h0 : 0 ≤ n) (h : n < layersL p) : ∃ x ∈ p,n ≤ x := by
 have : ∀ (p : List Int) (a : Int),n < p.foldl (fun n x => max n (x + 1)) a → n < a ∨ ∃ x ∈ p,n ≤ x := by
  intro p
  induction p with
  | nil => intro a h;exact .inl h
  | cons y p ih =>
   intro a h
   rcases ih _ h with h1 | ⟨x,hx,h1⟩
   ·simp only at h1
    by_cases h2 : n < a
    ·exact .inl h2
    ·exact .inr ⟨y,by simp,by omega⟩
   ·exact .inr ⟨x,by simp [hx],h1⟩
 rcases this p 0 h with h1 | h1
 ·omega
 ·exact h1
theorem fault_of {c : CL} {p : List Int} (h1 : NoFull c p) (h2 : NoGap c p) (h3 : NoDis c p 0) (h4 : NoDis c p 1) : fault c p = none := by
 have e1 : fullL c p = none := by
  refine List.findSome?_eq_none_iff.2 fun n hn => ?_
  rw [List.mem_range] at hn
  rw [if_neg]
  exact h1 n (by omega) (by omega)
 have e2 : gapL c p = none := by
  refine List.findSome?_eq_none_iff.2 fun n hn => ?_
  rw [List.mem_range] at hn
  rw [if_neg]
  intro h
  refine h2 n (by omega) (by omega) ?_
  rw [sumL,List.eq_nil_of_length_eq_zero h];rfl
 unfold fault
 rw [e1,e2,dis_of h3 h4];rfl
theorem figAt_el {c : CL} {k : Nat} (hk : k < c.figs.length) : figAt c k = c.figs[k] := by
 rw [figAt,Int.toNat_natCast,List.getD_eq_getElem?_getD,List.getElem?_eq_getElem hk];rfl
theorem ris_cast {n : Nat} {fs : List Int} (h : OkR n fs) : fs = castL ((List.range n).filter fun (i : Nat) => hasI fs i) := rising_ext h.ris (castL_ris _ _) (fun x => by
 constructor
 ·intro hx
  have := h.rng x hx
  obtain ⟨j,rfl⟩ : ∃ j : Nat,x = j := ⟨x.toNat,by omega⟩
  exact mem_cast.2 ⟨by omega,hasI_iff.2 hx⟩
 ·intro hx
  obtain ⟨j,_,rfl⟩ := mem_castL hx
  exact hasI_iff.1 (mem_cast.1 hx).2)
theorem ris_len {n : Nat} {fs : List Int} (h : OkR n fs) : fs.length ≤ n := by
 rw [ris_cast h];exact castL_len _ _
theorem figAt_size {c : CL} (hc : OkL c) {k : Int} (h : 0 ≤ k ∧ k < c.figs.length) : 1 ≤ (figAt c k).size := by
 obtain ⟨j,rfl⟩ : ∃ j : Nat,k = j := ⟨k.toNat,by omega⟩
 rw [figAt_el (show j < c.figs.length by omega)]
 exact (hc.size (List.getElem_mem _)).1
theorem sub_law {c : CL} (hc : OkL c) (hr : 0 ≤ c.room) {fs gs : List Int} (hf : OkR c.figs.length fs) (hg : OkR c.figs.length gs) (hs : ∀ x ∈ fs,x ∈ gs) (h : canB c gs = true) : canB c fs = true := by
 have hne : ∀ l,canB c l = true ↔ rightsL (partL c l) ≠ [] := fun l => by simp [canB]
 rw [hne] at h ⊢
 obtain ⟨p,hp⟩ := List.exists_mem_of_ne_nil _ h
 obtain ⟨h1,h2⟩ := mem_rights.1 hp
 have hcg : OkL (partL c gs) := ⟨by
   have := ris_len hg;simp only [partL,List.length_map];have := hc.len;omega,fun f hf => by
   obtain ⟨k,hk,rfl⟩ := List.mem_map.1 hf
   have := hg.rng k hk
   obtain ⟨j,rfl⟩ : ∃ j : Nat,k = j := ⟨k.toNat,by omega⟩
   rw [figAt_el (show j < c.figs.length by omega)]
   exact hc.figs _ (List.getElem_mem _),hc.d0,hc.d1⟩
 obtain ⟨a1,_,a3,a4⟩ := fault_none hcg h2
 have hpl : p.length = gs.length := by have := h1.len;simpa [partL] using this
 obtain ⟨lam,rfl⟩ := map_of hg.ris hpl
 have r1 : ∀ k ∈ gs,0 ≤ lam k ∧ lam k < c.depth := fun k hk => h1.rng _ (List.mem_map.2 ⟨k,hk,rfl⟩)
 have w0 : ∀ (l : List Int),(∀ k ∈ l,0 ≤ k ∧ k < c.figs.length) → ∀ (mu : Int → Int) (x : Int),∀ k ∈ l,0 ≤ (if mu k = x then (figAt c k).size else 0) := fun l hl mu x k hk => by
  have := figAt_size hc (hl k hk)
  split <;> omega
 have hfe : fs = gs.filter (fun k => hasI fs k) := rising_ext hf.ris (hg.ris.filter _) (fun x => by
  rw [List.mem_filter,hasI_iff]
  exact ⟨fun h => ⟨hs x h,h⟩,fun h => h.2⟩)
 have hsum : ∀ x,(fs.map fun k => if lam k = x then (figAt c k).size else 0).sum ≤ (gs.map fun k => if lam k = x then (figAt c k).size else 0).sum := fun x => by
  have := sum_filter_le (w := fun k => if lam k = x then (figAt c k).size else 0) (fun k => hasI fs k) gs (w0 gs hg.rng lam x)
  rw [← hfe] at this
  exact this
 have hq : ∀ k ∈ fs,lam k ∈ fs.map lam := fun k hk => List.mem_map.2 ⟨k,hk,rfl⟩
 refine List.ne_nil_of_mem (a := fs.map fun k => rk (fs.map lam) (lam k)) (mem_rights.2 ⟨⟨by simp [partL],fun x hx => ?_⟩,fault_of ?_ ?_ ?_ ?_⟩)
 ·obtain ⟨k,hk,rfl⟩ := List.mem_map.1 hx
  have := r1 k (hs k hk)
  have := rkN_le (fs.map lam) (lam k).toNat
  have e : (partL c fs).depth = c.depth := rfl
  rw [e]
  unfold rk;omega
 ·intro n h0 hn
  have e : sumL (partL c fs) (fs.map fun k => rk (fs.map lam) (lam k)) n = (fs.map fun k => if rk (fs.map lam) (lam k) = n then (figAt c k).size else 0).sum := lay_sum (figAt c) _ n fs
  rw [e]
  have er : (partL c fs).room = c.room := rfl
  rw [er]
  by_cases hex : ∃ k ∈ fs,rk (fs.map lam) (lam k) = n
  ·obtain ⟨k0,hk0,e0⟩ := hex
   have ec : (fs.map fun k => if rk (fs.map lam) (lam k) = n then (figAt c k).size else 0) = (fs.map fun k => if lam k = lam k0 then (figAt c k).size else 0) := by
    refine List.map_congr_left fun k hk => ?_
    by_cases hk2 : lam k = lam k0
    ·rw [if_pos hk2,if_pos (by rw [hk2];exact e0)]
    ·rw [if_neg hk2,if_neg]
     intro h3
     exact hk2 (rk_inj (hq k hk) (hq k0 hk0) (r1 k (hs k hk)).1 (r1 k0 (hs k0 hk0)).1 (h3.trans e0.symm))
   rw [ec]
   have h3 := hsum (lam k0)
   have h4 := a1 (lam k0) (r1 k0 (hs k0 hk0)).1 (r1 k0 (hs k0 hk0)).2
   have e5 : sumL (partL c gs) (gs.map lam) (lam k0) = (gs.map fun k => if lam k = lam k0 then (figAt c k).size else 0).sum := lay_sum (figAt c) lam (lam k0) gs
   rw [e5] at h4
   have er2 : (partL c gs).room = c.room := rfl
   rw [er2] at h4
   omega
  ·have ec : (fs.map fun k => if rk (fs.map lam) (lam k) = n then (figAt c k).size else 0) = fs.map fun _ => (0 : Int) := List.map_congr_left fun k hk => if_neg fun h => hex ⟨k,hk,h⟩
   rw [ec]
   have : ∀ l : List Int,(l.map fun _ => (0 : Int)).sum = 0 := by
    intro l
    induction l with
    | nil => rfl
    | cons _ l ih => simp only [List.map_cons,List.sum_cons,ih];rfl
   rw [this];omega
 ·intro n h0 hn
  obtain ⟨x,hx,hnx⟩ := layersL_mem h0 hn
  obtain ⟨k,hk,rfl⟩ := List.mem_map.1 hx
  have hex : ∃ k ∈ fs,rk (fs.map lam) (lam k) = n := by
   by_cases he : rk (fs.map lam) (lam k) = n
   ·exact ⟨k,hk,he⟩
   ·obtain ⟨y,hy,ey,_⟩ := rk_surj (q := fs.map lam) (lam k).toNat n h0 (by have : rk (fs.map lam) (lam k) = (rkN (fs.map lam) (lam k).toNat : Nat) := rfl;omega)
    obtain ⟨k2,hk2,rfl⟩ := List.mem_map.1 hy
    exact ⟨k2,hk2,ey⟩
  obtain ⟨k0,hk0,e0⟩ := hex
  have e : sumL (partL c fs) (fs.map fun k => rk (fs.map lam) (lam k)) n = (fs.map fun k => if rk (fs.map lam) (lam k) = n then (figAt c k).size else 0).sum := lay_sum (figAt c) _ n fs
  rw [e]
  have h3 := (sum_mem_le fs (w0 fs hf.rng (fun k => rk (fs.map lam) (lam k)) n)).2 k0 hk0
  rw [if_pos e0] at h3
  have := figAt_size hc (hf.rng k0 hk0)
  omega
 all_goals
  intro a b x y f g ha hb hfa hfb hxy
  have hfa' : (fs.map (figAt c))[a]? = some f := hfa
  have hfb' : (fs.map (figAt c))[b]? = some g := hfb
  rw [List.getElem?_map,Option.map_eq_some_iff] at ha hb hfa' hfb'
  obtain ⟨k,hk,rfl⟩ := ha
  obtain ⟨m,hm,rfl⟩ := hb
  obtain ⟨_,e1,rfl⟩ := hfa'
  obtain ⟨_,e2,rfl⟩ := hfb'
  obtain rfl := Option.some.inj (hk.symm.trans e1)
  obtain rfl := Option.some.inj (hm.symm.trans e2)
  have hkg := hs _ (List.mem_of_getElem? hk)
  have hmg := hs _ (List.mem_of_getElem? hm)
  obtain ⟨u,hu⟩ := List.mem_iff_getElem?.1 hkg
  obtain ⟨v,hv⟩ := List.mem_iff_getElem?.1 hmg
 ·exact a3 u v (lam k) (lam m) _ _ (by rw [List.getElem?_map,hu];rfl) (by rw [List.getElem?_map,hv];rfl) (show (gs.map (figAt c))[u]? = _ by rw [List.getElem?_map,hu];rfl) (show (gs.map (figAt c))[v]? = _ by rw [List.getElem?_map,hv];rfl) (rk_lt_iff hxy)
 ·exact a4 u v (lam k) (lam m) _ _ (by rw [List.getElem?_map,hu];rfl) (by rw [List.getElem?_map,hv];rfl) (show (gs.map (figAt c))[u]? = _ by rw [List.getElem?_map,hu];rfl) (show (gs.map (figAt c))[v]? = _ by rw [List.getElem?_map,hv];rfl) (rk_lt_iff hxy)
end Go.Den.Ch
end
section
namespace Go.Den.Ch
theorem ris_len2 {n : Nat} : ∀ {t : List Int} {a : Nat},t.Pairwise (· < ·) → (∀ x ∈ t,(a : Int) ≤ x ∧ x < n) → a ≤ n → t.length ≤ n - a
 | [],_,_,_,_ => Nat.zero_le _
 | x :: t,a,hp,h,ha => by
  rw [List.pairwise_cons] at hp
  have hx := h x (by simp)
  have := ris_len2 (n := n) (t := t) (a := x.toNat + 1) hp.2 (fun y hy => by have := hp.1 y hy;have := h y (by simp [hy]);omega) (by omega)
  simp only [List.length_cons]
  omega
theorem mem_comb {n : Nat} {l : List Int} : ∀ (k : Nat) (now : List Int) (f : Nat),l ∈ combL n k now f ↔ ∃ t,l = now ++ t ∧ t.length = k ∧ t.Pairwise (· < ·) ∧ ∀ x ∈ t,(f : Int) ≤ x ∧ x < n
 | 0,now,f => by
  simp only [combL,List.mem_singleton]
  constructor
  ·rintro rfl;exact ⟨[],by simp,rfl,List.Pairwise.nil,fun _ h => by cases h⟩
  ·rintro ⟨t,rfl,ht,_⟩;rw [List.eq_nil_of_length_eq_zero ht,List.append_nil]
 | k + 1,now,f => by
  simp only [combL,List.mem_flatMap,List.mem_range]
  constructor
  ·rintro ⟨j,hj,h⟩
   obtain ⟨t,rfl,ht,hp,hr⟩ := (mem_comb k _ _).1 h
   refine ⟨((f + j : Nat) : Int) :: t,by simp,by simp [ht],List.pairwise_cons.2 ⟨fun x hx => by have := hr x hx;omega,hp⟩,fun x hx => ?_⟩
   rcases List.mem_cons.1 hx with rfl | hx
   ·omega
   ·have := hr x hx;omega
  ·rintro ⟨t,rfl,ht,hp,hr⟩
   cases t with
   | nil => simp at ht
   | cons x t =>
    rw [List.pairwise_cons] at hp
    have hx := hr x (by simp)
    have hl := ris_len2 (n := n) (t := t) (a := x.toNat + 1) hp.2 (fun y hy => by have := hp.1 y hy;have := hr y (by simp [hy]);omega) (by omega)
    simp only [List.length_cons] at ht
    refine ⟨x.toNat - f,by omega,?_⟩
    have e : ((f + (x.toNat - f) : Nat) : Int) = x := by omega
    rw [e,show f + (x.toNat - f) + 1 = x.toNat + 1 by omega]
    exact (mem_comb k _ _).2 ⟨t,by simp,by omega,hp.2,fun y hy => by have := hp.1 y hy;have := hr y (by simp [hy]);omega⟩
theorem comb_sorted {n : Nat} : ∀ (k : Nat) (now : List Int) (f : Nat),(combL n k now f).Pairwise (fun a b => bef a b = true)
 | 0,now,f => List.pairwise_singleton _ _
 | k + 1,now,f => by
  refine List.pairwise_flatMap.2 ⟨fun j _ => comb_sorted k _ _,List.Pairwise.imp ?_ (List.pairwise_lt_range (n := n - k - f))⟩
  intro a b hab x hx y hy
  obtain ⟨t,rfl,_⟩ := (mem_comb k _ _).1 hx
  obtain ⟨u,rfl,_⟩ := (mem_comb k _ _).1 hy
  simp only [List.append_assoc,List.singleton_append]
  exact bef_lt (by omega)
theorem find_least {β : Type} {f : Nat → Option β} {b : β} : ∀ {n : Nat},(List.range n).findSome? f = some b → ∃ i,i < n ∧ f i = some b ∧ ∀ j < i,f j = none
 | 0,h => by cases h
 | n + 1,h => by
  rw [List.range_succ,List.findSome?_append] at h
  cases hn : (List.range n).findSome? f with
  | some x =>
   rw [hn] at h
   cases h
   obtain ⟨i,hi,h1,h2⟩ := find_least hn
   exact ⟨i,by omega,h1,h2⟩
  | none =>
   rw [hn] at h
   have h3 : f n = some b := by simpa using h
   exact ⟨n,by omega,h3,fun j hj => List.findSome?_eq_none_iff.1 hn j (List.mem_range.2 hj)⟩
theorem room_pos {c : CL} (hA : listB c = true) : 0 ≤ c.room := by
 simp only [listB,inB,Bool.and_eq_true,decide_eq_true_eq] at hA;omega
set_option maxHeartbeats 8000000 in
theorem r106 (c : CL) (F G : PV) (l : List Int) (hF : SlOf 3 encF F c.figs) (hG : SlOf 1 encI G l) (hr : ∀ x ∈ l,0 ≤ x ∧ x < c.figs.length) (hl6 : l.length ≤ 6) (st : St) : ClR EE (.func 106 [] []) [clPV c F,G] st (fun v st' => ∃ F',v = clPV (partL c l) F' ∧ SlOf 3 encF F' (partL c l).figs ∧ Keep st st') := by
 have hFc := hF.cells
 have hFi := hF.isCell
 have hGs := hG.slen
 refine clr_fn (pr106 · _ _) fn106 2 rfl (by decide) (fun tm hl hg => ?_);have h0 : tg tm 0 = clPV c F := (hg 0 (by decide));have h1 : tg tm 1 = G := (hg 1 (by decide));clear hg
 refine go (bw6 hl h0 h1 hGs hFc hFi) fnil ?_
 refine wp_for [6] (fun i vs s => ∃ v,vs = [iv i] ∧ i ≤ l.length ∧ hp s (st.heap.length + 2) = some (.var [iv c.room,iv c.depth,v]) ∧ hp s (st.heap.length + 1) = some (.var [iv 0,iv 0,.nilslice]) ∧ hp s st.heap.length = some (.var [iv c.room,iv c.depth,F]) ∧ OwnS st.heap.length s 3 v (((l.take i).map (figAt c))).length (((l.take i).map (figAt c)).flatMap encF) ∧ HExt st.heap s.heap ∧ st.heap.length ≤ s.lo ∧ s.lo ≤ s.heap.length) (fun i => l.length - i) ⟨.nilslice,by simp only [↓reduceIte,go_sem,hl];first | done | rfl,Nat.zero_le _,by simp only [↓reduceIte,go_sem];first | done | rfl,by simp only [↓reduceIte,go_sem];first | done | rfl,by simp only [↓reduceIte,go_sem];first | done | rfl,.nil,(show HExt ({ heap := st.heap,lo := st.heap.length } : St).heap _ from (((((Fr.refl st.heap.length { heap := st.heap,lo := st.heap.length }).push (Nat.le_refl _)).push (by simp only [len_push];omega)).push (by simp only [len_push];omega)).setVar (by omega)).hext),by simp only [lo_push,lo_setVar];omega,by simp only [lo_push,lo_setVar,len_push,len_setVar];omega⟩ ?_
 rintro i tm1 st1 ⟨v,hv,hi1,b2,b1,b0,hO,hx,hlo,hwf1⟩ hS
 simp only [List.map_cons,List.map_nil,List.cons.injEq,and_true] at hv
 have hl1 : tm1.length = 32 := (by rw [hS.1];simp only [put_len,hl]);have i1 : tg tm1 1 = G := (by rw [hS.2 1 (by decide)];simp only [↓reduceIte,go_sem,hl,h1]);have i2 : tg tm1 2 = .ptr st.heap.length 0 := (by rw [hS.2 2 (by decide)];simp only [↓reduceIte,go_sem,hl,h1]);have i4 : tg tm1 4 = .ptr (st.heap.length + 1) 0 := (by rw [hS.2 4 (by decide)];simp only [↓reduceIte,go_sem,hl,h1]);have i5 : tg tm1 5 = .ptr (st.heap.length + 2) 0 := (by rw [hS.2 5 (by decide)];simp only [↓reduceIte,go_sem,hl,h1]);clear hS
 have m0 := hp_lt b0
 have m1 := hp_lt b1
 have m2 := hp_lt b2
 have hvc : v.cells = [v] := sl_cells hO.sl
 have hvi : v.isCell = true := sl_isCell hO.sl
 refine go (bw4 hl1 hv i1 hGs) fnil ?_
 refine ⟨decide ((i : Int) < l.length),by simp only [↓reduceIte,go_sem,hl1],fun hb => ?_,fun hb1 => ?_⟩
 ·have hlt := of_decide_eq_false hb
  obtain rfl : i = l.length := by omega
  rw [List.take_length] at hO
  have hF2 : SlOf 3 encF v (partL c l).figs := SlOf.of_sl hO.sl (by simp [partL]) (by simp [partL]) (fun _ => rfl)
  refine go (bw17 hl1 i4 i5 b1 b2 (neL m1) (neA m1) (ltL m1) (ltA m1) (neL m2) (neA m2) (ltL m2) (ltA m2) m1 m2 hvc hvi) fnil ?_
  obtain ⟨F',e1,hW⟩ := finish_agg (st := st) (st1 := setVar st1 (st.heap.length + 1) (.var [iv c.room,iv c.depth,v])) (a := c.room) (b := c.depth) hF2.sl (by simp only [lo_setVar];omega) (fun m => lowL_of (encF_low _ m))
  refine fnr_ret (v := .agg [iv c.room,iv c.depth,v]) (results_one ?_) ?_
  ·rw [rdRes_hp (l := st.heap.length + 1) (off := 0) (by simp only [↓reduceIte,go_sem,hl1,i4])]
   simp only [↓reduceIte,go_sem,hl1,i4,m1,m2,hvc,hvi]
   first | done | rfl
  ·rw [e1]
   exact ⟨F',rfl,retF hW,keepW hW⟩
 have hi : i < l.length := by have := of_decide_eq_true hb1;omega
 have hw1 : IntKind.wrap .i64 ((i : Int) + 1) = ((i + 1 : Nat) : Int) := wrap_nat (n := i + 1) (by omega)
 refine ⟨by omega,?_⟩
 have hr1 := hr _ (List.getElem_mem hi)
 have hfg : c.figs[l[i].toNat]'(by omega) = figAt c l[i] := by rw [figAt,List.getD_eq_getElem?_getD,List.getElem?_eq_getElem (by omega)];rfl
 refine go (bw23 hl1 hv i1 i2 i4 i5 b0 b1 b2 (neL m0) (neA m0) (ltL m0) (ltA m0) (neL m1) (neA m1) (ltL m1) (ltA m1) (neL m2) (neA m2) (ltL m2) (ltA m2) hvc hvi) fnil ?_
 have hO0 : OwnS st.heap.length (st1.push (.tag true)) 3 v (((l.take i).map (figAt c))).length (((l.take i).map (figAt c)).flatMap encF) := hO.push
 have hl0 : ((l.take i).map (figAt c)).length ≤ 6 := by simp;omega
 refine wopsD_append (m := st.heap.length) (by simp only [lo_push,len_push];omega) rfl rfl (by simp only [↓reduceIte,go_sem,hl1];first | done | rfl) (by simp only [↓reduceIte,go_sem,hl1];first | done | rfl) hO0 rfl (by simp only [len_push];omega) (by rfl) (by rfl) (by simp only [maxList];omega) ?_
 intro v' st2 ft hO' hFr hk
 have f1 := hFr.lo
 have f2 := hFr.up
 have f3 := hFr.len
 simp only [lo_push,len_push] at f1 f2 f3
 have d0 := hk _ _ ((HExt.push st1 _).hp b0) (by simp)
 have d1 := hk _ _ ((HExt.push st1 _).hp b1) (by simp)
 have d2 := hk _ _ ((HExt.push st1 _).hp b2) (by simp)
 have n2 := hp_lt d2
 have hvc' : v'.cells = [v'] := sl_cells hO'.sl
 have hvi' : v'.isCell = true := sl_isCell hO'.sl
 refine go (bw4 hl1 i5 hvc' hvi') fnil ?_
 refine wopsD_set (v := undef) (l := st.heap.length + 2) (ob := .var [iv c.room,iv c.depth,v']) (by omega) (by omega) rfl rfl (fun rec st5 he hh => by simp only [↓reduceIte,go_sem,hl1,i5,he,hh,d2,hvc',hvi',neL n2,neA n2,ltL n2,ltA n2]) ?_
 apply wopsD_nil
 refine ⟨?_,?_⟩
 ·exact footOk_q (by simp [footOf])
 have hx2 : HExt st.heap st2.heap := (hx.trans (HExt.push st1 (.tag true))).fr hFr
 refine go (bw3 hl1 hv hw1) fnil ?_
 refine ⟨v',by simp only [↓reduceIte,go_sem,hl1],by omega,by simp only [↓reduceIte,go_sem,n2];first | done | rfl,by simp only [↓reduceIte,go_sem,d1];first | done | rfl,by simp only [↓reduceIte,go_sem,d0];first | done | rfl,?_,hx2.setVar (by omega),by simp only [lo_setVar];omega,by simp only [lo_setVar,len_setVar];omega⟩
 have e1 : ((l.take (i + 1)).map (figAt c)) = (l.take i).map (figAt c) ++ [figAt c l[i]] := by rw [List.take_succ_eq_append_getElem hi,List.map_append];rfl
 rw [e1]
 refine OwnS.setVar ?_ (by rw [d2];simp)
 rw [← hfg]
 simpa [share_int] using hO'
theorem part_list {c : CL} {l : List Int} (hA : listB c = true) (hr : ∀ x ∈ l,0 ≤ x ∧ x < c.figs.length) (hl6 : l.length ≤ 6) : listB (partL c l) = true := by
 simp only [listB,Bool.and_eq_true,decide_eq_true_eq] at hA ⊢
 refine ⟨hA.1,hA.2.1,by simpa [partL] using hl6,List.all_eq_true.2 fun f hf => ?_⟩
 obtain ⟨k,hk,rfl⟩ := List.mem_map.1 hf
 have := hr k hk
 obtain ⟨j,rfl⟩ : ∃ j : Nat,k = j := ⟨k.toNat,by omega⟩
 rw [figAt_el (show j < c.figs.length by omega)]
 exact List.all_eq_true.1 hA.2.2.2 _ (List.getElem_mem _)
end Go.Den.Ch
end

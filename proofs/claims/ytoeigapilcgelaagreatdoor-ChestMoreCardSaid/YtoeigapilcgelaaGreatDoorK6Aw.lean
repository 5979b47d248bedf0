/- Part of the proofs of laws of the package chest. Texts: ChLa, ChMa, ChMb, ChPl, ChPm, ChShelf. -/
import Derived.Test.YtoeigapilcgelaaGreatDoorK6Av
import Derived.Shelf.Strconv.Itoa3
import Derived.Shelf.Strings.OnBuilder
import Derived.Shelf.Strings.Split
import Derived.Test.YtoeigapilcgelaaGreatDoorProg
set_option linter.unusedSimpArgs false
set_option linter.unusedVariables false
section
namespace Go.Den
theorem undef_e : undef = .tuple [] := rfl
end Go.Den
namespace Go.Den.Ch
def sumL (c : CL) (p : List Int) (n : Int) : Int := (layerL c.figs p n).sum
def NoFull (c : CL) (p : List Int) : Prop := ∀ n : Int,0 ≤ n → n < c.depth → ¬ sumL c p n > c.room
def NoGap (c : CL) (p : List Int) : Prop := ∀ n : Int,0 ≤ n → n < layersL p → sumL c p n ≠ 0
def NoDis (c : CL) (p : List Int) (i : Nat) : Prop := ∀ (a b : Nat) (x y : Int) (f g : Fig),p[a]? = some x → p[b]? = some y → c.figs[a]? = some f → c.figs[b]? = some g → x < y → ¬ key i f > key i g
theorem sum_zero {l : List Int} (h : ∀ x ∈ l,1 ≤ x) (hs : l.sum = 0) : l = [] := by
 cases l with
 | nil => rfl
 | cons x l =>
  have h1 := h x (by simp)
  have h2 := (sum_bound (l := l) (b := l.foldl max 0) (by
   have : ∀ (l : List Int) (a : Int),a ≤ l.foldl max a := by
    intro l
    induction l with
    | nil => intro a;exact Int.le_refl _
    | cons y l ih => intro a;exact Int.le_trans (Int.le_max_left a y) (ih _)
   exact this l 0) (fun y hy => ⟨by have := h y (by simp [hy]);omega,by
    have : ∀ (l : List Int) (a : Int),y ∈ l → y ≤ l.foldl max a := by
     intro l
     induction l with
     | nil => intro a h;simp at h
     | cons z l ih =>
      intro a h
      have mono : ∀ (l : List Int) (a : Int),a ≤ l.foldl max a := by
       intro l
       induction l with
       | nil => intro a;exact Int.le_refl _
       | cons y l ih => intro a;exact Int.le_trans (Int.le_max_left a y) (ih _)
      rcases List.mem_cons.1 h with rfl | h
      ·exact Int.le_trans (Int.le_max_right a y) (mono l _)
      ·exact ih _ h
    exact this l 0 hy⟩)).1
  simp only [List.sum_cons] at hs
  omega
theorem fullL_none {c : CL} {p : List Int} (h : fullL c p = none) : NoFull c p := by
 intro n h0 h1 h2
 have := List.findSome?_eq_none_iff.1 h n.toNat (by rw [List.mem_range];omega)
 have h2' : (layerL c.figs p n).sum > c.room := h2
 rw [Int.toNat_of_nonneg h0,if_pos h2'] at this
 cases this
theorem gapL_none {c : CL} {p : List Int} (hc : OkL c) (h : gapL c p = none) : NoGap c p := by
 intro n h0 h1 h2
 have := List.findSome?_eq_none_iff.1 h n.toNat (by rw [List.mem_range];omega)
 rw [Int.toNat_of_nonneg h0] at this
 have he : layerL c.figs p n = [] := sum_zero (fun x hx => ((hc.layer p n).2 x hx).1) h2
 rw [he] at this
 simp at this
theorem disA_none {c : CL} {p : List Int} {i : Nat} (h : disA c p i = none) : NoDis c p i := by
 intro a b x y f g ha hb hfa hfb hxy hk
 have hla : a < c.figs.length := (List.getElem?_eq_some_iff.1 hfa).1
 have hlb : b < c.figs.length := (List.getElem?_eq_some_iff.1 hfb).1
 have h1 := List.findSome?_eq_none_iff.1 h a (List.mem_range.2 hla)
 have h2 := List.findSome?_eq_none_iff.1 h1 b (List.mem_range.2 hlb)
 have h3 : brk c p i a b = true := by
  unfold brk
  rw [ha,hb,hfa,hfb]
  simp [hxy,hk]
 rw [h3,if_pos rfl] at h2
 cases h2
theorem dis_none {c : CL} {p : List Int} (h : disorder c p = none) : NoDis c p 0 ∧ NoDis c p 1 :=
 ⟨disA_none (List.findSome?_eq_none_iff.1 h 0 (by simp)),disA_none (List.findSome?_eq_none_iff.1 h 1 (by simp))⟩
theorem fault_none {c : CL} {p : List Int} (hc : OkL c) (h : fault c p = none) : NoFull c p ∧ NoGap c p ∧ NoDis c p 0 ∧ NoDis c p 1 := by
 unfold fault at h
 rw [Option.or_eq_none_iff,Option.or_eq_none_iff] at h
 exact ⟨fullL_none h.1,gapL_none hc h.2.1,dis_none h.2.2⟩
inductive FaultSays (c : CL) (p : List Int) : Flt → Prop
 | full (n : Nat) (h1 : (n : Int) < c.depth) (h2 : sumL c p n > c.room) : FaultSays c p ⟨1,n,0⟩
 | gap (n : Nat) (h1 : (n : Int) < c.depth) (h2 : (n : Int) < layersL p) (h3 : sumL c p n = 0) (nf : NoFull c p) : FaultSays c p ⟨2,n,0⟩
 | rank (a b : Nat) (x y : Int) (f g : Fig) (ha : p[a]? = some x) (hb : p[b]? = some y) (hfa : c.figs[a]? = some f) (hfb : c.figs[b]? = some g) (h1 : x < y) (h2 : f.rank < g.rank) (nf : NoFull c p) (ng : NoGap c p) : FaultSays c p ⟨3,a,b⟩
 | eve (a b : Nat) (x y : Int) (f g : Fig) (ha : p[a]? = some x) (hb : p[b]? = some y) (hfa : c.figs[a]? = some f) (hfb : c.figs[b]? = some g) (h1 : x < y) (h2 : f.eve > g.eve) (nf : NoFull c p) (ng : NoGap c p) (nr : NoDis c p 0) : FaultSays c p ⟨4,a,b⟩
end Go.Den.Ch
end
section
namespace Go.Den.Ch
def bef : List Int → List Int → Bool
 | [],[] => false
 | [],_ :: _ => true
 | _ :: _,[] => false
 | a :: l,b :: m => if a = b then bef l m else decide (a < b)
theorem bef_irr : ∀ l,bef l l = false
 | [] => rfl
 | a :: l => by simp only [bef,if_true];exact bef_irr l
theorem bef_asym : ∀ l m,bef l m = true → bef m l = false
 | [],[],h => by cases h
 | [],_ :: _,_ => rfl
 | _ :: _,[],h => by cases h
 | a :: l,b :: m,h => by
  simp only [bef] at h ⊢
  by_cases e : a = b
  ·subst e;simp only [if_true] at h ⊢;exact bef_asym l m h
  ·rw [if_neg e] at h;rw [if_neg (Ne.symm e)]
   simp only [decide_eq_true_eq,decide_eq_false_iff_not] at *;omega
theorem bef_app (l m n : List Int) : bef (l ++ m) (l ++ n) = bef m n := by
 induction l with
 | nil => rfl
 | cons a l ih => simp only [List.cons_append,bef,if_true,ih]
theorem bef_lt {l m n : List Int} {a b : Int} (h : a < b) : bef (l ++ a :: m) (l ++ b :: n) = true := by
 rw [bef_app,bef,if_neg (by omega)];simp [h]
theorem dis_of {c : CL} {p : List Int} (h0 : NoDis c p 0) (h1 : NoDis c p 1) : disorder c p = none := by
 refine List.findSome?_eq_none_iff.2 fun i hi => List.findSome?_eq_none_iff.2 fun a _ => List.findSome?_eq_none_iff.2 fun b _ => ?_
 rw [List.mem_range] at hi
 have hn : NoDis c p i := by
  have : i = 0 ∨ i = 1 := by omega
  rcases this with rfl | rfl
  ·exact h0
  ·exact h1
 rw [if_neg]
 intro h
 unfold brk at h
 split at h
 ·rename_i x y f g e1 e2 e3 e4
  simp only [Bool.and_eq_true,decide_eq_true_eq] at h
  exact hn a b x y f g e1 e2 e3 e4 h.1 h.2
 ·cases h
theorem NoDis.take {c : CL} {now t : List Int} {i : Nat} (h : NoDis c (now ++ t) i) : NoDis { c with figs := c.figs.take now.length } now i := by
 intro a b x y f g ha hb hf hg
 have la : a < now.length := (List.getElem?_eq_some_iff.1 ha).1
 have lb : b < now.length := (List.getElem?_eq_some_iff.1 hb).1
 simp only [List.getElem?_take,la,lb,if_true] at hf hg
 exact h a b x y f g (by rw [List.getElem?_append_left la];exact ha) (by rw [List.getElem?_append_left lb];exact hb) hf hg
theorem fault_dis {c : CL} {p : List Int} (h : fault c p = none) : disorder c p = none := by
 unfold fault at h
 rw [Option.or_eq_none_iff,Option.or_eq_none_iff] at h
 exact h.2.2
theorem searchL_all {c : CL} : ∀ (k : Nat) (now t : List Int),t.length = k → now.length + k = c.figs.length → (∀ x ∈ t,0 ≤ x ∧ x < c.depth) → fault c (now ++ t) = none → now ++ t ∈ searchL c k now
 | 0,now,t,ht,_,_,h => by
  obtain rfl := List.eq_nil_of_length_eq_zero ht
  simp only [List.append_nil] at h ⊢
  simp [searchL,h]
 | k + 1,now,x :: t,ht,hk,hx,h => by
  have h1 : now ++ x :: t = (now ++ [x]) ++ t := by simp
  have hx0 := hx x (by simp)
  rw [h1] at h ⊢
  refine List.mem_flatMap.2 ⟨x.toNat,by rw [List.mem_range];omega,?_⟩
  rw [Int.toNat_of_nonneg hx0.1]
  have hd := dis_none (fault_dis h)
  have e : (now ++ [x]).length = now.length + 1 := by simp
  have hn := dis_of (NoDis.take hd.1) (NoDis.take hd.2)
  rw [e] at hn
  rw [hn]
  exact searchL_all k (now ++ [x]) t (by simpa using ht) (by simp at e ⊢;omega) (fun y hy => hx y (by simp [hy])) h
theorem mem_rights {c : CL} {p : List Int} : p ∈ rightsL c ↔ OkP c p ∧ fault c p = none :=
 ⟨rightsL_mem,fun h => searchL_all c.figs.length [] p h.1.len (by simp) h.1.rng h.2⟩
theorem searchL_pre {c : CL} : ∀ {k : Nat} {now p : List Int},p ∈ searchL c k now → ∃ t,p = now ++ t
 | 0,now,p,h => by
  unfold searchL at h
  split at h
  ·exact ⟨[],by simpa using h⟩
  ·cases h
 | k + 1,now,p,h => by
  obtain ⟨n,_,h1⟩ := List.mem_flatMap.1 h
  split at h1
  ·cases h1
  ·obtain ⟨t,rfl⟩ := searchL_pre h1
   exact ⟨(n : Int) :: t,by simp⟩
theorem searchL_sorted {c : CL} : ∀ (k : Nat) (now : List Int),(searchL c k now).Pairwise (fun a b => bef a b = true)
 | 0,now => by
  unfold searchL
  split
  ·exact List.pairwise_singleton _ _
  ·exact List.Pairwise.nil
 | k + 1,now => by
  refine List.pairwise_flatMap.2 ⟨fun n _ => ?_,List.Pairwise.imp ?_ (List.pairwise_lt_range (n := c.depth.toNat))⟩
  ·split
   ·exact List.Pairwise.nil
   ·exact searchL_sorted k _
  ·intro a b hab x hx y hy
   split at hx
   ·cases hx
   split at hy
   ·cases hy
   obtain ⟨t,rfl⟩ := searchL_pre hx
   obtain ⟨u,rfl⟩ := searchL_pre hy
   simp only [List.append_assoc,List.singleton_append]
   exact bef_lt (by omega)
theorem rights_sorted (c : CL) : (rightsL c).Pairwise (fun a b => bef a b = true) := searchL_sorted _ _
theorem best_aux {α : Type} {m : α → Int} : ∀ (X : List α) (o p : α),X.foldl (fun acc x => match acc with | none => some x | some o => if decide (m x < m o) then some x else some o) (some o) = some p →
  (p = o ∧ ∀ q ∈ X,m o ≤ m q) ∨ ∃ A B,X = A ++ p :: B ∧ m p < m o ∧ (∀ q ∈ A,m p < m q) ∧ ∀ q ∈ B,m p ≤ m q
 | [],o,p,h => by cases h;exact .inl ⟨rfl,fun _ h => by cases h⟩
 | x :: X,o,p,h => by
  simp only [List.foldl_cons] at h
  by_cases hx : m x < m o
  ·simp only [hx,decide_true,if_true] at h
   rcases best_aux X x p h with ⟨rfl,h1⟩ | ⟨A,B,rfl,h1,h2,h3⟩
   ·exact .inr ⟨[],X,rfl,hx,(fun _ h => by cases h),h1⟩
   ·refine .inr ⟨x :: A,B,rfl,by omega,fun q hq => ?_,h3⟩
    rcases List.mem_cons.1 hq with rfl | hq
    ·exact h1
    ·exact h2 q hq
  ·simp only [hx,decide_false,Bool.false_eq_true,if_false] at h
   rcases best_aux X o p h with ⟨rfl,h1⟩ | ⟨A,B,rfl,h1,h2,h3⟩
   ·refine .inl ⟨rfl,fun q hq => ?_⟩
    rcases List.mem_cons.1 hq with rfl | hq
    ·omega
    ·exact h1 q hq
   ·refine .inr ⟨x :: A,B,rfl,h1,fun q hq => ?_,h3⟩
    rcases List.mem_cons.1 hq with rfl | hq
    ·omega
    ·exact h2 q hq
theorem best_some {α : Type} {m : α → Int} {X : List α} {p : α} (h : bestF (fun a b => decide (m a < m b)) X = some p) : ∃ A B,X = A ++ p :: B ∧ (∀ q ∈ A,m p < m q) ∧ ∀ q ∈ B,m p ≤ m q := by
 cases X with
 | nil => cases h
 | cons x X =>
  rcases best_aux X x p h with ⟨rfl,h1⟩ | ⟨A,B,rfl,h1,h2,h3⟩
  ·exact ⟨[],X,rfl,(fun _ h => by cases h),h1⟩
  ·refine ⟨x :: A,B,rfl,fun q hq => ?_,h3⟩
   rcases List.mem_cons.1 hq with rfl | hq
   ·exact h1
   ·exact h2 q hq
theorem best_none {α : Type} {bt : α → α → Bool} {X : List α} (h : bestF bt X = none) : X = [] := by
 cases X with
 | nil => rfl
 | cons x X =>
  exfalso
  have : ∀ (X : List α) (o : α),X.foldl (fun acc x => match acc with | none => some x | some o => if bt x o then some x else some o) (some o) ≠ none := by
   intro X
   induction X with
   | nil => intro o h;cases h
   | cons y X ih => intro o;simp only [List.foldl_cons];cases bt y o <;> exact ih _
  exact this X x h
theorem best_law {m : List Int → Int} {X : List (List Int)} {p : List Int} (hs : X.Pairwise (fun a b => bef a b = true)) (h : bestF (fun a b => decide (m a < m b)) X = some p) :
  p ∈ X ∧ ∀ q ∈ X,m p ≤ m q ∧ (m q = m p → bef q p = false) := by
 obtain ⟨A,B,rfl,hA,hB⟩ := best_some h
 refine ⟨by simp,fun q hq => ?_⟩
 rcases List.mem_append.1 hq with h1 | h1
 ·have := hA q h1
  exact ⟨by omega,by omega⟩
 ·rcases List.mem_cons.1 h1 with rfl | h2
  ·exact ⟨by omega,fun _ => bef_irr _⟩
  ·exact ⟨hB q h2,fun _ => bef_asym _ _ ((List.pairwise_cons.1 (List.pairwise_append.1 hs).2.1).1 q h2)⟩
theorem getD_in {p : List Int} {i : Nat} (hi : i < p.length) : p.getD i 0 = p[i] := by rw [List.getD_eq_getElem?_getD,List.getElem?_eq_getElem hi];rfl
theorem mem_cast {P : Nat → Bool} {n i : Nat} : (i : Int) ∈ castL ((List.range n).filter P) ↔ i < n ∧ P i = true := by
 unfold castL
 rw [List.mem_map]
 constructor
 ·rintro ⟨k,hk,e⟩
  rw [List.mem_filter,List.mem_range] at hk
  obtain rfl : k = i := by omega
  exact hk
 ·intro h
  exact ⟨i,by rw [List.mem_filter,List.mem_range];exact h,rfl⟩
theorem hasI_iff {l : List Int} {x : Int} : hasI l x = true ↔ x ∈ l := by
 unfold hasI
 rw [List.any_eq_true]
 constructor
 ·rintro ⟨a,ha,h⟩
  rw [beq_iff_eq] at h
  rw [h];exact ha
 ·intro h
  exact ⟨x,h,by simp⟩
end Go.Den.Ch
end
section
namespace Go.Den.Ch
theorem wrong_cases (c : CL) (F P : PV) (p : List Int) (hF : SlOf 3 encF F c.figs) (hP : SlOf 1 encI P p) (hA : listB c = true) (hB : packB c p = true) : ∃ r o1 o2 e : Int,(∀ st,Cl EE (.func 27 [] []) [clPV c F,P] st (.ret (.tuple [.agg [iv r,iv o1,iv o2],iv e])) st) ∧ ((fault c p = none ∧ e = 5) ∨ (fault c p = some ⟨r,o1,o2⟩ ∧ e = 0)) := by
 have h27 := c27 c F P p hF hP
 have ew : wrongR c p = match fault c p with | some f => (some f,0) | none => (none,5) := by unfold wrongR;rw [hA,hB];rfl
 rw [ew] at h27
 cases hf : fault c p with
 | none => rw [hf] at h27;exact ⟨0,0,0,5,h27,.inl ⟨rfl,rfl⟩⟩
 | some f => rw [hf] at h27;exact ⟨f.rule,f.one,f.other,0,h27,.inr ⟨rfl,rfl⟩⟩
def fitsB (c : CL) (p : List Int) : Bool := packB c p && (fault c p).isNone
theorem c37 (c : CL) (F P : PV) (p : List Int) (hF : SlOf 3 encF F c.figs) (hP : SlOf 1 encI P p) (hA : listB c = true) (hN : p.length < 1000000) (st : St) : Cl EE (.func 37 [] []) [clPV c F,P] st (.ret (.bool (fitsB c p))) st := by
 have hFc := hF.cells
 have hFi := hF.isCell
 have hc := OkL.of hA
 have k25 := c25 c F P p hF hP hN ⟨hc.d0,hc.d1⟩
 refine cl_fn (pr37 · _ _) fn37 2 rfl (by decide) (fun tm hl hg => ?_);have h0 : tg tm 0 = clPV c F := (hg 0 (by decide));have h1 : tg tm 1 = P := (hg 1 (by decide));clear hg
 cases hB : packB c p
 ·have e : fitsB c p = false := by simp [fitsB,hB]
  rw [e]
  refine go (bw4 hl h0 h1 hB) (bw k25 fnil) ?_
  refine fnq_flat (results_one (by rw [rdRes_tmp];simp only [↓reduceIte,go_sem,hl];first | done | rfl)) (by first | exact Nat.le_refl _ | omega | (simp only [lo_push,lo_setVar];omega)) (by rfl)
 ·obtain ⟨r,o1,o2,e,k27,hcase⟩ := wrong_cases c F P p hF hP hA hB
  have he : (e == 5) = fitsB c p := by
   rcases hcase with ⟨h,rfl⟩ | ⟨h,rfl⟩ <;> simp [fitsB,hB,h]
  refine go (bw5 hl h0 h1 hB he) (bw3 k25 k27 fnil) ?_
  refine fnq_flat (results_one (by rw [rdRes_tmp];simp only [↓reduceIte,go_sem,hl];first | done | rfl)) (by first | exact Nat.le_refl _ | omega | (simp only [lo_push,lo_setVar];omega)) (by rfl)
theorem rising_all {n : Nat} {l : List Int} (h : ∀ k < l.length,riseP n l k = true) : risingB n l = true := List.all_eq_true.2 fun k hk => h k (List.mem_range.1 hk)
theorem rising_not {n : Nat} {l : List Int} {k : Nat} (hk : k < l.length) (h : riseP n l k = false) : risingB n l = false := List.all_eq_false.2 ⟨k,List.mem_range.2 hk,by rw [h];simp⟩
set_option maxHeartbeats 2000000 in
theorem c45 (c : CL) (F G : PV) (l : List Int) (hF : SlOf 3 encF F c.figs) (hG : SlOf 1 encI G l) (hN : l.length < 1000000) (hn : c.figs.length < 1000000) (st : St) : Cl EE (.func 45 [] []) [clPV c F,G] st (.ret (.bool (risingB c.figs.length l))) st := by
 have hGs := hG.slen
 have hFs := hF.slen
 have hFc := hF.cells
 refine cl_fn (pr45 · _ _) fn45 2 rfl (by decide) (fun tm hl hg => ?_);have h0 : tg tm 0 = clPV c F := (hg 0 (by decide));have h1 : tg tm 1 = G := (hg 1 (by decide));clear hg
 refine go (bw hl h0) fnil ?_
 refine wp_for [5] (fun i vs st1 => vs = [iv i] ∧ i ≤ l.length ∧ (∀ k < i,riseP c.figs.length l k = true) ∧ st1 = ({ heap := st.heap,lo := st.heap.length } : St).push (.var [iv c.room,iv c.depth,F])) (fun i => l.length - i) ⟨by simp only [↓reduceIte,go_sem,hl];first | done | rfl,Nat.zero_le _,(fun k hk => absurd hk (by omega)),by first | done | rfl⟩ ?_
 rintro i tm1 st1 ⟨hv,hi,hk,rfl⟩ hS
 simp only [List.map_cons,List.map_nil,List.cons.injEq,and_true] at hv
 have hl1 : tm1.length = 38 := (by rw [hS.1];simp only [put_len,hl]);have i1 : tg tm1 1 = G := (by rw [hS.2 1 (by decide)];simp only [↓reduceIte,go_sem,hl,h1]);have i2 : tg tm1 2 = .ptr st.heap.length 0 := (by rw [hS.2 2 (by decide)];simp only [↓reduceIte,go_sem,hl,h1]);clear hS
 refine go (bw4 hl1 hv i1 hGs) fnil ?_
 refine ⟨decide ((i : Int) < l.length),by simp only [↓reduceIte,go_sem,hl1],fun hb => ?_,fun hb1 => ?_⟩
 ·have hlt := of_decide_eq_false hb
  rw [rising_all (fun k h => hk k (by omega))]
  refine go hl1 fnil ?_
  refine fnq_flat (results_one (by rw [rdRes_tmp];simp only [↓reduceIte,go_sem,hl1];first | done | rfl)) (by first | exact Nat.le_refl _ | omega | (simp only [lo_push,lo_setVar];omega)) (by rfl)
 ·have hlt : i < l.length := by have := of_decide_eq_true hb1;omega
  have hw1 : IntKind.wrap .i64 ((i : Int) + 1) = ((i + 1 : Nat) : Int) := wrap_nat (n := i + 1) (by omega)
  have hwn : IntKind.wrap .i64 ((c.figs.length : Int) - 1) = (c.figs.length : Int) - 1 := wrap_in (by unfold inI;omega)
  have eg : l.getD i 0 = l[i] := by rw [List.getD_eq_getElem?_getD,List.getElem?_eq_getElem hlt];rfl
  refine ⟨by omega,?_⟩
  cases hx : inB l[i] 0 ((c.figs.length : Int) - 1)
  ·rw [rising_not hlt (by unfold riseP;rw [eg,hx];rfl)]
   refine go (bw7 hl1 hv i1 i2 hFs hwn hx) (bw c74 fnil) ?_
   refine fnq_flat (results_one (by rw [rdRes_tmp];simp only [↓reduceIte,go_sem,hl1];first | done | rfl)) (by first | exact Nat.le_refl _ | omega | (simp only [lo_push,lo_setVar];omega)) (by rfl)
  ·cases hd : decide ((i : Int) > 0)
   ·have := of_decide_eq_false hd
    have hr : riseP c.figs.length l i = true := by
     have : decide (0 < i) = false := by simp;omega
     unfold riseP;rw [eg,hx,this];rfl
    refine go (bw9 hl1 hv i1 i2 hFs hwn hx hd hw1) (bw c74 fnil) ?_
    refine ⟨by simp only [↓reduceIte,go_sem,hl1],by omega,(fun k h => ?_),rfl⟩
    by_cases hki : k = i
    ·rw [hki];exact hr
    ·exact hk k (by omega)
   ·have hpos := of_decide_eq_true hd
    obtain ⟨j,rfl⟩ : ∃ j,i = j + 1 := ⟨i - 1,by omega⟩
    have hwm : IntKind.wrap .i64 (((j + 1 : Nat) : Int) - 1) = (j : Int) := by rw [wrap_in (by unfold inI;omega)];omega
    have hj : j < l.length := by omega
    have ej : l.getD (j + 1 - 1) 0 = l[j] := by rw [List.getD_eq_getElem?_getD,Nat.add_sub_cancel,List.getElem?_eq_getElem hj];rfl
    have hr : riseP c.figs.length l (j + 1) = !decide (l[j + 1] ≤ l[j]) := by
     unfold riseP;rw [eg,ej,hx];simp
    cases hy : decide (l[j + 1] ≤ l[j])
    ·rw [hy] at hr
     refine go (bw11 hl1 hv i1 i2 hFs hwn hx hd hw1 hwm hy) (bw c74 fnil) ?_
     refine ⟨by simp only [↓reduceIte,go_sem,hl1],by omega,(fun k h => ?_),rfl⟩
     by_cases hki : k = j + 1
     ·rw [hki];exact hr
     ·exact hk k (by omega)
    ·rw [hy] at hr
     rw [rising_not hlt hr]
     refine go (bw10 hl1 hv i1 i2 hFs hwn hx hd hwm hy) (bw c74 fnil) ?_
     refine fnq_flat (results_one (by rw [rdRes_tmp];simp only [↓reduceIte,go_sem,hl1];first | done | rfl)) (by first | exact Nat.le_refl _ | omega | (simp only [lo_push,lo_setVar];omega)) (by rfl)
def movedT (p q : List Int) (n : Nat) : Int := (((List.range n).filter (movP p q)).length : Int)
def movedM (p q : List Int) : Int := movedT p q (min p.length q.length)
theorem r31 (c : CL) (F : PV) (hF : SlOf 3 encF F c.figs) (st : St) : ClR EE (.func 31 [] []) [clPV c F] st (fun v st' => ∃ P,v = .tuple [P,iv (bestR c).2.1,iv (bestR c).2.2] ∧ SlOf 1 encI P (bestR c).1 ∧ Keep st st') := by
 obtain ⟨v,st',h1,P,e,hW⟩ := c31 c F hF st
 exact ⟨v,st',h1,P,e,retI hW,keepW hW⟩
theorem fits_mem {c : CL} {p : List Int} : fitsB c p = true ↔ p ∈ rightsL c := by
 rw [mem_rights]
 constructor
 ·intro h
  simp only [fitsB,Bool.and_eq_true,Option.isNone_iff_eq_none] at h
  exact ⟨OkP.of h.1,h.2⟩
 ·rintro ⟨h1,h2⟩
  have : packB c p = true := by
   simp only [packB,inB,Bool.and_eq_true,decide_eq_true_eq,List.all_eq_true]
   exact ⟨h1.len,fun x hx => by have := h1.rng x hx;omega⟩
  simp [fitsB,this,h2]
theorem zs : (∀ h : Decidable False,decide (h := h) False = false) ∧ (∀ h : Decidable True,decide (h := h) True = true) ∧ (((0 : Int) != 0) = false) ∧ (((5 : Int) != 0) = true) ∧ (((7 : Int) != 0) = true) ∧ (((5 : Int) == 5) = true) ∧ (((0 : Int) == 0) = true) ∧ (((5 : Int) == 0) = false) ∧ (((7 : Int) == 7) = true) ∧ (((7 : Int) == 0) = false) ∧ (((7 : Int) != 7) = false) ∧ (((5 : Int) != 5) = false) ∧ (decide ((0 : Int) < 0) = false) ∧ (decide ((0 : Int) > 0) = false) ∧ ((true != true) = false) ∧ ((false != false) = false) ∧ ((true != false) = true) ∧ ((false != true) = true) := ⟨fun h => by cases h <;> first | rfl | contradiction,fun h => by cases h <;> first | rfl | contradiction,by decide⟩
theorem r32 (c : CL) (F : PV) (hF : SlOf 3 encF F c.figs) (hA : listB c = true) (st : St) : Cl EE (.func 32 [] []) [clPV c F] st (.ret (.tuple [iv (rightsL c).length,iv 0])) st := by
 have h := c32 c F hF (by have := rightsL_len (OkL.of hA);omega) st
 rw [hA] at h
 exact h
theorem rising_in {n : Nat} {l : List Int} (h : risingB n l = true) : ∀ x ∈ l,0 ≤ x ∧ x < n := fun x hx => by
 obtain ⟨k,hk,rfl⟩ := List.getElem_of_mem hx
 have := List.all_eq_true.1 h k (List.mem_range.2 hk)
 have eg : l.getD k 0 = l[k] := by rw [List.getD_eq_getElem?_getD,List.getElem?_eq_getElem hk];rfl
 simp only [riseP,eg,inB,Bool.and_eq_true,decide_eq_true_eq] at this
 omega
end Go.Den.Ch
end
section
namespace Go.Den.Ch
def rkN (q : List Int) (m : Nat) : Nat := ((List.range m).filter fun (k : Nat) => hasI q (k : Int)).length
def rk (q : List Int) (x : Int) : Int := (rkN q x.toNat : Nat)
theorem rkN_succ (q : List Int) (m : Nat) : rkN q (m + 1) = rkN q m + (if hasI q (m : Int) then 1 else 0) := by
 unfold rkN
 rw [List.range_succ,List.filter_append,List.length_append]
 cases h : hasI q (m : Int) <;> simp [h]
theorem rkN_le (q : List Int) : ∀ m,rkN q m ≤ m
 | 0 => Nat.le_refl _
 | m + 1 => by have := rkN_le q m;rw [rkN_succ];split <;> omega
theorem rkN_mono (q : List Int) (m : Nat) : ∀ d,rkN q m ≤ rkN q (m + d)
 | 0 => Nat.le_refl _
 | d + 1 => by have := rkN_mono q m d;rw [← Nat.add_assoc,rkN_succ];omega
theorem rk_mono {q : List Int} {x y : Int} (h : x ≤ y) : rk q x ≤ rk q y := by
 have := rkN_mono q x.toNat (y.toNat - x.toNat)
 rw [show x.toNat + (y.toNat - x.toNat) = y.toNat by omega] at this
 unfold rk;omega
theorem rk_lt {q : List Int} {x y : Int} (hx : x ∈ q) (h0 : 0 ≤ x) (h : x < y) : rk q x < rk q y := by
 have h1 := rkN_mono q (x.toNat + 1) (y.toNat - x.toNat - 1)
 rw [show x.toNat + 1 + (y.toNat - x.toNat - 1) = y.toNat by omega,rkN_succ,Int.toNat_of_nonneg h0,hasI_iff.2 hx,if_pos rfl] at h1
 unfold rk;omega
theorem rk_lt_iff {q : List Int} {x y : Int} (h : rk q x < rk q y) : x < y := by
 apply Int.not_le.1
 intro h2
 have := rk_mono (q := q) h2
 omega
theorem rk_inj {q : List Int} {x y : Int} (hx : x ∈ q) (hy : y ∈ q) (h0 : 0 ≤ x) (h1 : 0 ≤ y) (h : rk q x = rk q y) : x = y := by
 rcases Int.lt_trichotomy x y with h2 | h2 | h2
 ·have := rk_lt hx h0 h2;omega
 ·exact h2
 ·have := rk_lt hy h1 h2;omega
theorem rk_surj {q : List Int} : ∀ (m : Nat) (n : Int),0 ≤ n → n < (rkN q m : Nat) → ∃ x ∈ q,rk q x = n ∧ 0 ≤ x
 | 0,n,h0,h => by simp [rkN] at h;omega
 | m + 1,n,h0,h => by
  by_cases h1 : n < (rkN q m : Nat)
  ·exact rk_surj m n h0 h1
  ·rw [rkN_succ] at h
   cases hm : hasI q (m : Int) with
   | false => rw [hm] at h;simp at h;omega
   | true =>
    rw [hm] at h
    simp only [if_true] at h
    refine ⟨m,hasI_iff.1 hm,?_,by omega⟩
    unfold rk
    rw [Int.toNat_natCast];omega
theorem map_of : ∀ {gs : List Int} {p : List Int},gs.Pairwise (· < ·) → p.length = gs.length → ∃ lam : Int → Int,p = gs.map lam
 | [],[],_,_ => ⟨fun _ => 0,rfl⟩
 | g :: gs,x :: p,hn,hl => by
  rw [List.pairwise_cons] at hn
  obtain ⟨lam,e⟩ := map_of hn.2 (by simpa using hl)
  refine ⟨fun k => if k = g then x else lam k,?_⟩
  rw [List.map_cons,if_pos rfl,e]
  congr 1
  refine List.map_congr_left fun k hk => ?_
  have := hn.1 k hk
  rw [if_neg (by omega)]
theorem lay_sum (G : Int → Fig) (lam : Int → Int) (x : Int) : ∀ gs : List Int,(layerL (gs.map G) (gs.map lam) x).sum = (gs.map fun k => if lam k = x then (G k).size else 0).sum
 | [] => rfl
 | g :: gs => by
  have ih := lay_sum G lam x gs
  simp only [List.map_cons,layerL,List.sum_cons]
  by_cases h : lam g = x
  ·rw [if_pos h,if_pos h,List.sum_cons,ih]
  ·rw [if_neg h,if_neg h,ih];omega
theorem sum_filter_le {w : Int → Int} (P : Int → Bool) : ∀ l : List Int,(∀ k ∈ l,0 ≤ w k) → ((l.filter P).map w).sum ≤ (l.map w).sum
 | [],_ => Int.le_refl _
 | k :: l,h => by
  have ih := sum_filter_le P l fun j hj => h j (by simp [hj])
  have := h k (by simp)
  rw [List.filter_cons]
  split
  ·simp only [List.map_cons,List.sum_cons];omega
  ·simp only [List.map_cons,List.sum_cons];omega
theorem sum_mem_le {w : Int → Int} : ∀ l : List Int,(∀ k ∈ l,0 ≤ w k) → 0 ≤ (l.map w).sum ∧ ∀ k ∈ l,w k ≤ (l.map w).sum
 | [],_ => ⟨Int.le_refl _,fun _ h => by cases h⟩
 | k :: l,h => by
  obtain ⟨h1,h2⟩ := sum_mem_le l fun j hj => h j (by simp [hj])
  have h3 := h k (by simp)
  simp only [List.map_cons,List.sum_cons]
  refine ⟨by omega,fun j hj => ?_⟩
  rcases List.mem_cons.1 hj with rfl | hj
  ·omega
  ·have := h2 j hj;omega
theorem layersL_mem {p : List Int} {n : Int} (h0 : 0 ≤ n) (h : n < layersL p) : ∃ x ∈ p,n ≤ x := by
 have : ∀ (p : List Int) (a : Int),n < p.foldl (fun n x => max n (x + 1)) a → n < a ∨ ∃ x ∈ p,n ≤ x := by
  intro p
  induction p with
  | nil => intro a h;exact .inl h
  | cons y p ih =>
   intro a h
   rcases ih _ h with h1 | ⟨x,hx,h1⟩
   ·simp only at h1
    by_cases h2 : n < a
    ·exact .inl h2
    ·exact .inr ⟨y,by simp,by omega⟩
   ·exact .inr ⟨x,by simp [hx],h1⟩
 rcases this p 0 h with h1 | h1
 ·omega
 ·exact h1
theorem fault_of {c : CL} {p : List Int} (h1 : NoFull c p) (h2 : NoGap c p) (h3 : NoDis c p 0) (h4 : NoDis c p 1) : fault c p = none := by
 have e1 : fullL c p = none := by
  refine List.findSome?_eq_none_iff.2 fun n hn => ?_
  rw [List.mem_range] at hn
  rw [if_neg]
  exact h1 n (by omega) (by omega)
 have e2 : gapL c p = none := by
  refine List.findSome?_eq_none_iff.2 fun n hn => ?_
  rw [List.mem_range] at hn
  rw [if_neg]
  intro h
  refine h2 n (by omega) (by omega) ?_
  rw [sumL,List.eq_nil_of_length_eq_zero h];rfl
 unfold fault
 rw [e1,e2,dis_of h3 h4];rfl
theorem figAt_el {c : CL} {k : Nat} (hk : k < c.figs.length) : figAt c k = c.figs[k] := by
 rw [figAt,Int.toNat_natCast,List.getD_eq_getElem?_getD,List.getElem?_eq_getElem hk];rfl
theorem ris_cast {n : Nat} {fs : List Int} (h : OkR n fs) : fs = castL ((List.range n).filter fun (i : Nat) => hasI fs i) := rising_ext h.ris (castL_ris _ _) (fun x => by
 constructor
 ·intro hx
  have := h.rng x hx
  obtain ⟨j,rfl⟩ : ∃ j : Nat,x = j := ⟨x.toNat,by omega⟩
  exact mem_cast.2 ⟨by omega,hasI_iff.2 hx⟩
 ·intro hx
  obtain ⟨j,_,rfl⟩ := mem_castL hx
  exact hasI_iff.1 (mem_cast.1 hx).2)
theorem ris_len {n : Nat} {fs : List Int} (h : OkR n fs) : fs.length ≤ n := by
 rw [ris_cast h];exact castL_len _ _
theorem figAt_size {c : CL} (hc : OkL c) {k : Int} (h : 0 ≤ k ∧ k < c.figs.length) : 1 ≤ (figAt c k).size := by
 obtain ⟨j,rfl⟩ : ∃ j : Nat,k = j := ⟨k.toNat,by omega⟩
 rw [figAt_el (show j < c.figs.length by omega)]
 exact (hc.size (List.getElem_mem _)).1
theorem sub_law {c : CL} (hc : OkL c) (hr : 0 ≤ c.room) {fs gs : List Int} (hf : OkR c.figs.length fs) (hg : OkR c.figs.length gs) (hs : ∀ x ∈ fs,x ∈ gs) (h : canB c gs = true) : canB c fs = true := by
 have hne : ∀ l,canB c l = true ↔ rightsL (partL c l) ≠ [] := fun l => by simp [canB]
 rw [hne] at h ⊢
 obtain ⟨p,hp⟩ := List.exists_mem_of_ne_nil _ h
 obtain ⟨h1,h2⟩ := mem_rights.1 hp
 have hcg : OkL (partL c gs) := ⟨by
   have := ris_len hg;simp only [partL,List.length_map];have := hc.len;omega,fun f hf => by
   obtain ⟨k,hk,rfl⟩ := List.mem_map.1 hf
   have := hg.rng k hk
   obtain ⟨j,rfl⟩ : ∃ j : Nat,k = j := ⟨k.toNat,by omega⟩
   rw [figAt_el (show j < c.figs.length by omega)]
   exact hc.figs _ (List.getElem_mem _),hc.d0,hc.d1⟩
 obtain ⟨a1,_,a3,a4⟩ := fault_none hcg h2
 have hpl : p.length = gs.length := by have := h1.len;simpa [partL] using this
 obtain ⟨lam,rfl⟩ := map_of hg.ris hpl
 have r1 : ∀ k ∈ gs,0 ≤ lam k ∧ lam k < c.depth := fun k hk => h1.rng _ (List.mem_map.2 ⟨k,hk,rfl⟩)
 have w0 : ∀ (l : List Int),(∀ k ∈ l,0 ≤ k ∧ k < c.figs.length) → ∀ (mu : Int → Int) (x : Int),∀ k ∈ l,0 ≤ (if mu k = x then (figAt c k).size else 0) := fun l hl mu x k hk => by
  have := figAt_size hc (hl k hk)
  split <;> omega
 have hfe : fs = gs.filter (fun k => hasI fs k) := rising_ext hf.ris (hg.ris.filter _) (fun x => by
  rw [List.mem_filter,hasI_iff]
  exact ⟨fun h => ⟨hs x h,h⟩,fun h => h.2⟩)
 have hsum : ∀ x,(fs.map fun k => if lam k = x then (figAt c k).size else 0).sum ≤ (gs.map fun k => if lam k = x then (figAt c k).size else 0).sum := fun x => by
  have := sum_filter_le (w := fun k => if lam k = x then (figAt c k).size else 0) (fun k => hasI fs k) gs (w0 gs hg.rng lam x)
  rw [← hfe] at this
  exact this
 have hq : ∀ k ∈ fs,lam k ∈ fs.map lam := fun k hk => List.mem_map.2 ⟨k,hk,rfl⟩
 refine List.ne_nil_of_mem (a := fs.map fun k => rk (fs.map lam) (lam k)) (mem_rights.2 ⟨⟨by simp [partL],fun x hx => ?_⟩,fault_of ?_ ?_ ?_ ?_⟩)
 ·obtain ⟨k,hk,rfl⟩ := List.mem_map.1 hx
  have := r1 k (hs k hk)
  have := rkN_le (fs.map lam) (lam k).toNat
  have e : (partL c fs).depth = c.depth := rfl
  rw [e]
  unfold rk;omega
 ·intro n h0 hn
  have e : sumL (partL c fs) (fs.map fun k => rk (fs.map lam) (lam k)) n = (fs.map fun k => if rk (fs.map lam) (lam k) = n then (figAt c k).size else 0).sum := lay_sum (figAt c) _ n fs
  rw [e]
  have er : (partL c fs).room = c.room := rfl
  rw [er]
  by_cases hex : ∃ k ∈ fs,rk (fs.map lam) (lam k) = n
  ·obtain ⟨k0,hk0,e0⟩ := hex
   have ec : (fs.map fun k => if rk (fs.map lam) (lam k) = n then (figAt c k).size else 0) = (fs.map fun k => if lam k = lam k0 then (figAt c k).size else 0) := by
    refine List.map_congr_left fun k hk => ?_
    by_cases hk2 : lam k = lam k0
    ·rw [if_pos hk2,if_pos (by rw [hk2];exact e0)]
    ·rw [if_neg hk2,if_neg]
     intro h3
     exact hk2 (rk_inj (hq k hk) (hq k0 hk0) (r1 k (hs k hk)).1 (r1 k0 (hs k0 hk0)).1 (h3.trans e0.symm))
   rw [ec]
   have h3 := hsum (lam k0)
   have h4 := a1 (lam k0) (r1 k0 (hs k0 hk0)).1 (r1 k0 (hs k0 hk0)).2
   have e5 : sumL (partL c gs) (gs.map lam) (lam k0) = (gs.map fun k => if lam k = lam k0 then (figAt c k).size else 0).sum := lay_sum (figAt c) lam (lam k0) gs
   rw [e5] at h4
   have er2 : (partL c gs).room = c.room := rfl
   rw [er2] at h4
   omega
  ·have ec : (fs.map fun k => if rk (fs.map lam) (lam k) = n then (figAt c k).size else 0) = fs.map fun _ => (0 : Int) := List.map_congr_left fun k hk => if_neg fun h => hex ⟨k,hk,h⟩
   rw [ec]
   have : ∀ l : List Int,(l.map fun _ => (0 : Int)).sum = 0 := by
    intro l
    induction l with
    | nil => rfl
    | cons _ l ih => simp only [List.map_cons,List.sum_cons,ih];rfl
   rw [this];omega
 ·intro n h0 hn
  obtain ⟨x,hx,hnx⟩ := layersL_mem h0 hn
  obtain ⟨k,hk,rfl⟩ := List.mem_map.1 hx
  have hex : ∃ k ∈ fs,rk (fs.map lam) (lam k) = n := by
   by_cases he : rk (fs.map lam) (lam k) = n
   ·exact ⟨k,hk,he⟩
   ·obtain ⟨y,hy,ey,_⟩ := rk_surj (q := fs.map lam) (lam k).toNat n h0 (by have : rk (fs.map lam) (lam k) = (rkN (fs.map lam) (lam k).toNat : Nat) := rfl;omega)
    obtain ⟨k2,hk2,rfl⟩ := List.mem_map.1 hy
    exact ⟨k2,hk2,ey⟩
  obtain ⟨k0,hk0,e0⟩ := hex
  have e : sumL (partL c fs) (fs.map fun k => rk (fs.map lam) (lam k)) n = (fs.map fun k => if rk (fs.map lam) (lam k) = n then (figAt c k).size else 0).sum := lay_sum (figAt c) _ n fs
  rw [e]
  have h3 := (sum_mem_le fs (w0 fs hf.rng (fun k => rk (fs.map lam) (lam k)) n)).2 k0 hk0
  rw [if_pos e0] at h3
  have := figAt_size hc (hf.rng k0 hk0)
  omega
 all_goals
  intro a b x y f g ha hb hfa hfb hxy
  have hfa' : (fs.map (figAt c))[a]? = some f := hfa
  have hfb' : (fs.map (figAt c))[b]? = some g := hfb
  rw [List.getElem?_map,Option.map_eq_some_iff] at ha hb hfa' hfb'
  obtain ⟨k,hk,rfl⟩ := ha
  obtain ⟨m,hm,rfl⟩ := hb
  obtain ⟨_,e1,rfl⟩ := hfa'
  obtain ⟨_,e2,rfl⟩ := hfb'
  obtain rfl := Option.some.inj (hk.symm.trans e1)
  obtain rfl := Option.some.inj (hm.symm.trans e2)
  have hkg := hs _ (List.mem_of_getElem? hk)
  have hmg := hs _ (List.mem_of_getElem? hm)
  obtain ⟨u,hu⟩ := List.mem_iff_getElem?.1 hkg
  obtain ⟨v,hv⟩ := List.mem_iff_getElem?.1 hmg
 ·exact a3 u v (lam k) (lam m) _ _ (by rw [List.getElem?_map,hu];rfl) (by rw [List.getElem?_map,hv];rfl) (show (gs.map (figAt c))[u]? = _ by rw [List.getElem?_map,hu];rfl) (show (gs.map (figAt c))[v]? = _ by rw [List.getElem?_map,hv];rfl) (rk_lt_iff hxy)
 ·exact a4 u v (lam k) (lam m) _ _ (by rw [List.getElem?_map,hu];rfl) (by rw [List.getElem?_map,hv];rfl) (show (gs.map (figAt c))[u]? = _ by rw [List.getElem?_map,hu];rfl) (show (gs.map (figAt c))[v]? = _ by rw [List.getElem?_map,hv];rfl) (rk_lt_iff hxy)
end Go.Den.Ch
end
section
namespace Go.Den.Ch
theorem ris_len2 {n : Nat} : ∀ {t : List Int} {a : Nat},t.Pairwise (· < ·) → (∀ x ∈ t,(a : Int) ≤ x ∧ x < n) → a ≤ n → t.length ≤ n - a
 | [],_,_,_,_ => Nat.zero_le _
 | x :: t,a,hp,h,ha => by
  rw [List.pairwise_cons] at hp
  have hx := h x (by simp)
  have := ris_len2 (n := n) (t := t) (a := x.toNat + 1) hp.2 (fun y hy => by have := hp.1 y hy;have := h y (by simp [hy]);omega) (by omega)
  simp only [List.length_cons]
  omega
theorem mem_comb {n : Nat} {l : List Int} : ∀ (k : Nat) (now : List Int) (f : Nat),l ∈ combL n k now f ↔ ∃ t,l = now ++ t ∧ t.length = k ∧ t.Pairwise (· < ·) ∧ ∀ x ∈ t,(f : Int) ≤ x ∧ x < n
 | 0,now,f => by
  simp only [combL,List.mem_singleton]
  constructor
  ·rintro rfl;exact ⟨[],by simp,rfl,List.Pairwise.nil,fun _ h => by cases h⟩
  ·rintro ⟨t,rfl,ht,_⟩;rw [List.eq_nil_of_length_eq_zero ht,List.append_nil]
 | k + 1,now,f => by
  simp only [combL,List.mem_flatMap,List.mem_range]
  constructor
  ·rintro ⟨j,hj,h⟩
   obtain ⟨t,rfl,ht,hp,hr⟩ := (mem_comb k _ _).1 h
   refine ⟨((f + j : Nat) : Int) :: t,by simp,by simp [ht],List.pairwise_cons.2 ⟨fun x hx => by have := hr x hx;omega,hp⟩,fun x hx => ?_⟩
   rcases List.mem_cons.1 hx with rfl | hx
   ·omega
   ·have := hr x hx;omega
  ·rintro ⟨t,rfl,ht,hp,hr⟩
   cases t with
   | nil => simp at ht
   | cons x t =>
    rw [List.pairwise_cons] at hp
    have hx := hr x (by simp)
    have hl := ris_len2 (n := n) (t := t) (a := x.toNat + 1) hp.2 (fun y hy => by have := hp.1 y hy;have := hr y (by simp [hy]);omega) (by omega)
    simp only [List.length_cons] at ht
    refine ⟨x.toNat - f,by omega,?_⟩
    have e : ((f + (x.toNat - f) : Nat) : Int) = x := by omega
    rw [e,show f + (x.toNat - f) + 1 = x.toNat + 1 by omega]
    exact (mem_comb k _ _).2 ⟨t,by simp,by omega,hp.2,fun y hy => by have := hp.1 y hy;have := hr y (by simp [hy]);omega⟩
theorem comb_sorted {n : Nat} : ∀ (k : Nat) (now : List Int) (f : Nat),(combL n k now f).Pairwise (fun a b => bef a b = true)
 | 0,now,f => List.pairwise_singleton _ _
 | k + 1,now,f => by
  refine List.pairwise_flatMap.2 ⟨fun j _ => comb_sorted k _ _,List.Pairwise.imp ?_ (List.pairwise_lt_range (n := n - k - f))⟩
  intro a b hab x hx y hy
  obtain ⟨t,rfl,_⟩ := (mem_comb k _ _).1 hx
  obtain ⟨u,rfl,_⟩ := (mem_comb k _ _).1 hy
  simp only [List.append_assoc,List.singleton_append]
  exact bef_lt (by omega)
theorem find_least {β : Type} {f : Nat → Option β} {b : β} : ∀ {n : Nat},(List.range n).findSome? f = some b → ∃ i,i < n ∧ f i = some b ∧ ∀ j < i,f j = none
 | 0,h => by cases h
 | n + 1,h => by
  rw [List.range_succ,List.findSome?_append] at h
  cases hn : (List.range n).findSome? f with
  | some x =>
   rw [hn] at h
   cases h
   obtain ⟨i,hi,h1,h2⟩ := find_least hn
   exact ⟨i,by omega,h1,h2⟩
  | none =>
   rw [hn] at h
   have h3 : f n = some b := by simpa using h
   exact ⟨n,by omega,h3,fun j hj => List.findSome?_eq_none_iff.1 hn j (List.mem_range.2 hj)⟩
theorem part_all (c : CL) : partL c (castL (List.range c.figs.length)) = c := by
 have : (castL (List.range c.figs.length)).map (figAt c) = c.figs := by
  refine List.ext_getElem (by simp [castL]) fun i h1 h2 => ?_
  simp only [castL,List.getElem_map,List.getElem_range]
  exact figAt_el h2
 unfold partL
 rw [this]
theorem okr_all (n : Nat) : OkR n (castL (List.range n)) := ⟨fun x hx => by
 obtain ⟨k,hk,rfl⟩ := mem_castL hx
 rw [List.mem_range] at hk;omega,by
 rw [castL,List.pairwise_map]
 exact (List.pairwise_lt_range (n := n)).imp fun h => by omega⟩
theorem okr_in {n : Nat} {m : List Int} (h : OkR n m) : ∀ x ∈ m,x ∈ castL (List.range n) := fun x hx => by
 have := h.rng x hx
 exact List.mem_map.2 ⟨x.toNat,List.mem_range.2 (by omega),by omega⟩
theorem can_iff {c : CL} {l : List Int} : canB c l = true ↔ rightsL (partL c l) ≠ [] := by simp [canB]
theorem room_pos {c : CL} (hA : listB c = true) : 0 ≤ c.room := by
 simp only [listB,inB,Bool.and_eq_true,decide_eq_true_eq] at hA;omega
theorem all_can {c : CL} (hA : listB c = true) (h : rightsL c ≠ []) {m : List Int} (hm : OkR c.figs.length m) : canB c m = true :=
 sub_law (OkL.of hA) (room_pos hA) hm (okr_all _) (okr_in hm) (can_iff.2 (by rw [part_all];exact h))
theorem okr_of {n : Nat} {l : List Int} (h : risingB n l = true) : OkR n l := ⟨rising_in h,by
 rw [List.pairwise_iff_getElem]
 have hs : ∀ k,∀ hk : k + 1 < l.length,l[k] < l[k + 1] := fun k hk => by
  have := List.all_eq_true.1 h (k + 1) (List.mem_range.2 hk)
  unfold riseP at this
  rw [getD_in hk,Nat.add_sub_cancel,getD_in (show k < l.length by omega)] at this
  simp only [Bool.and_eq_true,Bool.not_eq_true',Bool.and_eq_false_iff,decide_eq_false_iff_not] at this
  omega
 intro i j hi hj hij
 obtain ⟨d,rfl⟩ : ∃ d,j = i + 1 + d := ⟨j - i - 1,by omega⟩
 induction d with
 | zero => exact hs i hj
 | succ d ih => exact Int.lt_trans (ih (by omega) (by omega)) (hs (i + 1 + d) (by omega))⟩
set_option maxHeartbeats 8000000 in
theorem r106 (c : CL) (F G : PV) (l : List Int) (hF : SlOf 3 encF F c.figs) (hG : SlOf 1 encI G l) (hr : ∀ x ∈ l,0 ≤ x ∧ x < c.figs.length) (hl6 : l.length ≤ 6) (st : St) : ClR EE (.func 106 [] []) [clPV c F,G] st (fun v st' => ∃ F',v = clPV (partL c l) F' ∧ SlOf 3 encF F' (partL c l).figs ∧ Keep st st') := by
 have hFc := hF.cells
 have hFi := hF.isCell
 have hGs := hG.slen
 refine clr_fn (pr106 · _ _) fn106 2 rfl (by decide) (fun tm hl hg => ?_);have h0 : tg tm 0 = clPV c F := (hg 0 (by decide));have h1 : tg tm 1 = G := (hg 1 (by decide));clear hg
 refine go (bw6 hl h0 h1 hGs hFc hFi) fnil ?_
 refine wp_for [6] (fun i vs s => ∃ v,vs = [iv i] ∧ i ≤ l.length ∧ hp s (st.heap.length + 2) = some (.var [iv c.room,iv c.depth,v]) ∧ hp s (st.heap.length + 1) = some (.var [iv 0,iv 0,.nilslice]) ∧ hp s st.heap.length = some (.var [iv c.room,iv c.depth,F]) ∧ OwnS st.heap.length s 3 v (((l.take i).map (figAt c))).length (((l.take i).map (figAt c)).flatMap encF) ∧ HExt st.heap s.heap ∧ st.heap.length ≤ s.lo ∧ s.lo ≤ s.heap.length) (fun i => l.length - i) ⟨.nilslice,by simp only [↓reduceIte,go_sem,hl];first | done | rfl,Nat.zero_le _,by simp only [↓reduceIte,go_sem];first | done | rfl,by simp only [↓reduceIte,go_sem];first | done | rfl,by simp only [↓reduceIte,go_sem];first | done | rfl,.nil,(show HExt ({ heap := st.heap,lo := st.heap.length } : St).heap _ from (((((Fr.refl st.heap.length { heap := st.heap,lo := st.heap.length }).push (Nat.le_refl _)).push (by simp only [len_push];omega)).push (by simp only [len_push];omega)).setVar (by omega)).hext),by simp only [lo_push,lo_setVar];omega,by simp only [lo_push,lo_setVar,len_push,len_setVar];omega⟩ ?_
 rintro i tm1 st1 ⟨v,hv,hi1,b2,b1,b0,hO,hx,hlo,hwf1⟩ hS
 simp only [List.map_cons,List.map_nil,List.cons.injEq,and_true] at hv
 have hl1 : tm1.length = 32 := (by rw [hS.1];simp only [put_len,hl]);have i1 : tg tm1 1 = G := (by rw [hS.2 1 (by decide)];simp only [↓reduceIte,go_sem,hl,h1]);have i2 : tg tm1 2 = .ptr st.heap.length 0 := (by rw [hS.2 2 (by decide)];simp only [↓reduceIte,go_sem,hl,h1]);have i4 : tg tm1 4 = .ptr (st.heap.length + 1) 0 := (by rw [hS.2 4 (by decide)];simp only [↓reduceIte,go_sem,hl,h1]);have i5 : tg tm1 5 = .ptr (st.heap.length + 2) 0 := (by rw [hS.2 5 (by decide)];simp only [↓reduceIte,go_sem,hl,h1]);clear hS
 have m0 := hp_lt b0
 have m1 := hp_lt b1
 have m2 := hp_lt b2
 have hvc : v.cells = [v] := sl_cells hO.sl
 have hvi : v.isCell = true := sl_isCell hO.sl
 refine go (bw4 hl1 hv i1 hGs) fnil ?_
 refine ⟨decide ((i : Int) < l.length),by simp only [↓reduceIte,go_sem,hl1],fun hb => ?_,fun hb1 => ?_⟩
 ·have hlt := of_decide_eq_false hb
  obtain rfl : i = l.length := by omega
  rw [List.take_length] at hO
  have hF2 : SlOf 3 encF v (partL c l).figs := SlOf.of_sl hO.sl (by simp [partL]) (by simp [partL]) (fun _ => rfl)
  refine go (bw17 hl1 i4 i5 b1 b2 (neL m1) (neA m1) (ltL m1) (ltA m1) (neL m2) (neA m2) (ltL m2) (ltA m2) m1 m2 hvc hvi) fnil ?_
  obtain ⟨F',e1,hW⟩ := finish_agg (st := st) (st1 := setVar st1 (st.heap.length + 1) (.var [iv c.room,iv c.depth,v])) (a := c.room) (b := c.depth) hF2.sl (by simp only [lo_setVar];omega) (fun m => lowL_of (encF_low _ m))
  refine fnr_ret (v := .agg [iv c.room,iv c.depth,v]) (results_one ?_) ?_
  ·rw [rdRes_hp (l := st.heap.length + 1) (off := 0) (by simp only [↓reduceIte,go_sem,hl1,i4])]
   simp only [↓reduceIte,go_sem,hl1,i4,m1,m2,hvc,hvi]
   first | done | rfl
  ·rw [e1]
   exact ⟨F',rfl,retF hW,keepW hW⟩
 have hi : i < l.length := by have := of_decide_eq_true hb1;omega
 have hw1 : IntKind.wrap .i64 ((i : Int) + 1) = ((i + 1 : Nat) : Int) := wrap_nat (n := i + 1) (by omega)
 refine ⟨by omega,?_⟩
 have hr1 := hr _ (List.getElem_mem hi)
 have hfg : c.figs[l[i].toNat]'(by omega) = figAt c l[i] := by rw [figAt,List.getD_eq_getElem?_getD,List.getElem?_eq_getElem (by omega)];rfl
 refine go (bw23 hl1 hv i1 i2 i4 i5 b0 b1 b2 (neL m0) (neA m0) (ltL m0) (ltA m0) (neL m1) (neA m1) (ltL m1) (ltA m1) (neL m2) (neA m2) (ltL m2) (ltA m2) hvc hvi) fnil ?_
 have hO0 : OwnS st.heap.length (st1.push (.tag true)) 3 v (((l.take i).map (figAt c))).length (((l.take i).map (figAt c)).flatMap encF) := hO.push
 have hl0 : ((l.take i).map (figAt c)).length ≤ 6 := by simp;omega
 refine wopsD_append (m := st.heap.length) (by simp only [lo_push,len_push];omega) rfl rfl (by simp only [↓reduceIte,go_sem,hl1];first | done | rfl) (by simp only [↓reduceIte,go_sem,hl1];first | done | rfl) hO0 rfl (by simp only [len_push];omega) (by rfl) (by rfl) (by simp only [maxList];omega) ?_
 intro v' st2 ft hO' hFr hk
 have f1 := hFr.lo
 have f2 := hFr.up
 have f3 := hFr.len
 simp only [lo_push,len_push] at f1 f2 f3
 have d0 := hk _ _ ((HExt.push st1 _).hp b0) (by simp)
 have d1 := hk _ _ ((HExt.push st1 _).hp b1) (by simp)
 have d2 := hk _ _ ((HExt.push st1 _).hp b2) (by simp)
 have n2 := hp_lt d2
 have hvc' : v'.cells = [v'] := sl_cells hO'.sl
 have hvi' : v'.isCell = true := sl_isCell hO'.sl
 refine go (bw4 hl1 i5 hvc' hvi') fnil ?_
 refine wopsD_set (v := undef) (l := st.heap.length + 2) (ob := .var [iv c.room,iv c.depth,v']) (by omega) (by omega) rfl rfl (fun rec st5 he hh => by simp only [↓reduceIte,go_sem,hl1,i5,he,hh,d2,hvc',hvi',neL n2,neA n2,ltL n2,ltA n2]) ?_
 apply wopsD_nil
 refine ⟨?_,?_⟩
 ·exact footOk_q (by simp [footOf])
 have hx2 : HExt st.heap st2.heap := (hx.trans (HExt.push st1 (.tag true))).fr hFr
 refine go (bw3 hl1 hv hw1) fnil ?_
 refine ⟨v',by simp only [↓reduceIte,go_sem,hl1],by omega,by simp only [↓reduceIte,go_sem,n2];first | done | rfl,by simp only [↓reduceIte,go_sem,d1];first | done | rfl,by simp only [↓reduceIte,go_sem,d0];first | done | rfl,?_,hx2.setVar (by omega),by simp only [lo_setVar];omega,by simp only [lo_setVar,len_setVar];omega⟩
 have e1 : ((l.take (i + 1)).map (figAt c)) = (l.take i).map (figAt c) ++ [figAt c l[i]] := by rw [List.take_succ_eq_append_getElem hi,List.map_append];rfl
 rw [e1]
 refine OwnS.setVar ?_ (by rw [d2];simp)
 rw [← hfg]
 simpa [share_int] using hO'
theorem part_list {c : CL} {l : List Int} (hA : listB c = true) (hr : ∀ x ∈ l,0 ≤ x ∧ x < c.figs.length) (hl6 : l.length ≤ 6) : listB (partL c l) = true := by
 simp only [listB,Bool.and_eq_true,decide_eq_true_eq] at hA ⊢
 refine ⟨hA.1,hA.2.1,by simpa [partL] using hl6,List.all_eq_true.2 fun f hf => ?_⟩
 obtain ⟨k,hk,rfl⟩ := List.mem_map.1 hf
 have := hr k hk
 obtain ⟨j,rfl⟩ : ∃ j : Nat,k = j := ⟨k.toNat,by omega⟩
 rw [figAt_el (show j < c.figs.length by omega)]
 exact List.all_eq_true.1 hA.2.2.2 _ (List.getElem_mem _)
theorem best_err {c : CL} (hA : listB c = true) : ((bestR c).2.2 = 0 ∧ rightsL c ≠ []) ∨ ((bestR c).2.2 = 5 ∧ rightsL c = []) := by
 cases hb : bestF ltLay (rightsL c) with
 | none => exact .inr ⟨by simp [bestR,hA,hb],best_none hb⟩
 | some b => exact .inl ⟨by simp [bestR,hA,hb],List.ne_nil_of_mem (best_law (m := layersL) (rights_sorted _) hb).1⟩
set_option maxHeartbeats 8000000 in
theorem c61 (c : CL) (F G : PV) (l : List Int) (hF : SlOf 3 encF F c.figs) (hG : SlOf 1 encI G l) (hA : listB c = true) (hr : ∀ x ∈ l,0 ≤ x ∧ x < c.figs.length) (hl6 : l.length ≤ 6) (st : St) : Cl EE (.func 61 [] []) [clPV c F,G] st (.ret (.tuple [.bool (canB c l),.bool true])) st := by
 have hFc := hF.cells
 have hFi := hF.isCell
 refine cl_fn (pr61 · _ _) fn61 2 rfl (by decide) (fun tm hl hg => ?_);have h0 : tg tm 0 = clPV c F := (hg 0 (by decide));have h1 : tg tm 1 = G := (hg 1 (by decide));clear hg
 refine go (bw3 hl h0 h1) fnil ?_
 refine wops_callR rfl rfl (by simp only [↓reduceIte,go_sem,hl,h1];first | done | rfl) (by simp only [↓reduceIte,go_sem,hl,h1];exact r106 c F G l hF hG hr hl6 _) ?_
 rintro v S1 ⟨F',rfl,hF',hK⟩
 have q1 := hK.2
 have q2 := hK.len
 try simp only [lo_push,len_push] at q1 q2
 refine go hl fnil ?_
 refine wops_callR rfl rfl (by simp only [↓reduceIte,go_sem,hl];first | done | rfl) (by simp only [↓reduceIte,go_sem,hl];exact r31 (partL c l) F' hF' _) ?_
 rintro w S2 ⟨B,rfl,hB,hK2⟩
 have q3 := hK2.2
 have q4 := hK2.len
 rcases best_err (part_list hA hr hl6) with ⟨e,hx⟩ | ⟨e,hx⟩
 ·have hc := can_iff.2 hx
  rw [e,hc]
  refine go (bw hl zs) fnil ?_
  refine fnq_tuple (results_two (v := .bool true) (u := .bool true) ?_ ?_) (by first | omega | (simp only [lo_push,lo_setVar];omega)) (by rfl)
  ·rw [rdRes_tmp];simp only [↓reduceIte,go_sem,hl]
  ·rw [rdRes_tmp];simp only [↓reduceIte,go_sem,hl]
 ·have hc : canB c l = false := by simp [canB,hx]
  rw [e,hc]
  refine go (bw hl zs) fnil ?_
  refine fnq_tuple (results_two (v := .bool false) (u := .bool true) ?_ ?_) (by first | omega | (simp only [lo_push,lo_setVar];omega)) (by rfl)
  ·rw [rdRes_tmp];simp only [↓reduceIte,go_sem,hl]
  ·rw [rdRes_tmp];simp only [↓reduceIte,go_sem,hl]
end Go.Den.Ch
end
section
namespace Go.Proofs
open Go.Shelf
def Tryz.lays156_ren : Go.Shelf.Ren := ⟨fun | 156 => 138 | 165 => 151 | 166 => 152 | 169 => 153 | 240 => 156 | 241 => 157 | 276 => 165 | 277 => 166 | n => n,fun | 31 => 125 | 9 => 9 | 3 => 3 | 4 => 4 | 0 => 0 | 20 => 20 | 72 => 164 | 76 => 168 | 70 => 162 | 37 => 89 | 75 => 167 | 127 => 173 | 164 => 182 | 5 => 5 | 80 => 170 | n => n,fun | n => n⟩
theorem Tryz.lays156 : Go.Proofs.Lays.n156 Tryz.prog Tryz.lays156_ren := {
 mixed := by kernel_rfl
 f156 := Tryz.func138.trans (congrArg some (by kernel_rfl))
 f165 := Tryz.func151.trans (congrArg some (by kernel_rfl))
 f166 := Tryz.func152.trans (congrArg some (by kernel_rfl))
 f169 := Tryz.func153.trans (congrArg some (by kernel_rfl))
 f240 := Tryz.func156.trans (congrArg some (by kernel_rfl))
 f241 := Tryz.func157.trans (congrArg some (by kernel_rfl))
 f276 := Tryz.func165.trans (congrArg some (by kernel_rfl))
 f277 := Tryz.func166.trans (congrArg some (by kernel_rfl))
 t0 := Tryz.underlying0
 a0 := Tryz.isAgg0
 z0 := Tryz.sizeOf0
 v0 := Tryz.zeroValue0
 t3 := Tryz.underlying3
 a3 := Tryz.isAgg3
 z3 := Tryz.sizeOf3
 v3 := Tryz.zeroValue3
 t4 := Tryz.underlying4
 a4 := Tryz.isAgg4
 z4 := Tryz.sizeOf4
 v4 := Tryz.zeroValue4
 t9 := Tryz.underlying9
 a9 := Tryz.isAgg9
 z9 := Tryz.sizeOf9
 v9 := Tryz.zeroValue9
 t20 := Tryz.underlying20
 a20 := Tryz.isAgg20
 z20 := Tryz.sizeOf20
 v20 := Tryz.zeroValue20
 t31 := Tryz.underlying125
 a31 := Tryz.isAgg125
 z31 := Tryz.sizeOf125
 v31 := Tryz.zeroValue125
 t37 := Tryz.underlying89
 a37 := Tryz.isAgg89
 z37 := Tryz.sizeOf89
 v37 := Tryz.zeroValue89
 t70 := Tryz.underlying162
 a70 := Tryz.isAgg162
 z70 := Tryz.sizeOf162
 v70 := Tryz.zeroValue162
 t72 := Tryz.underlying164
 a72 := Tryz.isAgg164
 z72 := Tryz.sizeOf164
 v72 := Tryz.zeroValue164
 t75 := Tryz.underlying167
 a75 := Tryz.isAgg167
 z75 := Tryz.sizeOf167
 v75 := Tryz.zeroValue167
 t76 := Tryz.underlying168
 a76 := Tryz.isAgg168
 z76 := Tryz.sizeOf168
 v76 := Tryz.zeroValue168
 t127 := Tryz.underlying173
 a127 := Tryz.isAgg173
 z127 := Tryz.sizeOf173
 v127 := Tryz.zeroValue173
 t164 := Tryz.underlying182
 a164 := Tryz.isAgg182
 z164 := Tryz.sizeOf182
 v164 := Tryz.zeroValue182 }
theorem Tryz.Builder_Extra_156 : Builder.Extra Tryz.prog Tryz.lays156_ren := {
 sizeBuilder := by kernel_rfl
 liesBuilder := by kernel_rfl
 t5 := Tryz.underlying5
 a5 := Tryz.isAgg5
 z5 := Tryz.sizeOf5
 v5 := Tryz.zeroValue5
 infoByte := by kernel_rfl
 cellsByte := by kernel_rfl
 sizeByte := by kernel_rfl
 neB5 := by decide }
open Go.RowKit in
theorem Tryz.strings_Join_none (a : Option Addr) (c : Nat) (sep : ByteArray) (w : World) :
  Calls Tryz.prog 138 #[.slice a 0 c,.string sep] w fun e w' => e = .returned (.string ⟨#[]⟩) ∧ w' = w := Any.strings_Join_none Tryz.lays156 Tryz.Builder_Extra_156 a c sep w
open Go.RowKit in
theorem Tryz.strings_Join (bk o c : Nat) (xs : List ByteArray) (sep : ByteArray) (w : World) (hcells : ∀ (j : Nat) x,xs[j]? = some x → w.cell? ⟨bk,o + j,none⟩ = some (.string x)) (hbk : bk < w.heap.size) (hN : xs.length ≤ 140737488355328) (hcap : xs.length ≤ c) (hlen : (Lib.join (xs.map (·.data.toList)) sep.data.toList).length ≤ 140737488355328) :
  Calls Tryz.prog 138 #[.slice (some ⟨bk,o,none⟩) xs.length c,.string sep] w fun e w' => e = .returned (.string ⟨(Lib.join (xs.map (·.data.toList)) sep.data.toList).toArray⟩) ∧ Below w.heap.size w w' := Any.strings_Join Tryz.lays156 Tryz.Builder_Extra_156 bk o c xs sep w hcells hbk hN hcap hlen
def Tryz.lays171_ren : Go.Shelf.Ren := ⟨fun | 171 => 137 | 243 => 150 | 246 => 155 | 283 => 161 | 284 => 162 | 285 => 163 | 286 => 164 | 129 => 172 | 317 => 171 | 318 => 173 | 319 => 174 | 320 => 175 | 337 => 181 | 338 => 182 | n => n,fun | 3 => 3 | 9 => 9 | 2 => 2 | 4 => 4 | 171 => 176 | 0 => 0 | 53 => 177 | 37 => 89 | 5 => 5 | 173 => 180 | 212 => 191 | 51 => 192 | 20 => 20 | 213 => 193 | 46 => 194 | 232 => 203 | 233 => 204 | n => n,fun | 17 => 0 | 18 => 4 | 19 => 5 | n => n⟩
theorem Tryz.lays171 : Go.Proofs.Lays.n171 Tryz.prog Tryz.lays171_ren := {
 mixed := by kernel_rfl
 f129 := Tryz.func172.trans (congrArg some (by kernel_rfl))
 f171 := Tryz.func137.trans (congrArg some (by kernel_rfl))
 f243 := Tryz.func150.trans (congrArg some (by kernel_rfl))
 f246 := Tryz.func155.trans (congrArg some (by kernel_rfl))
 f283 := Tryz.func161.trans (congrArg some (by kernel_rfl))
 f284 := Tryz.func162.trans (congrArg some (by kernel_rfl))
 f285 := Tryz.func163.trans (congrArg some (by kernel_rfl))
 f286 := Tryz.func164.trans (congrArg some (by kernel_rfl))
 f317 := Tryz.func171.trans (congrArg some (by kernel_rfl))
 f318 := Tryz.func173.trans (congrArg some (by kernel_rfl))
 f319 := Tryz.func174.trans (congrArg some (by kernel_rfl))
 f320 := Tryz.func175.trans (congrArg some (by kernel_rfl))
 f337 := Tryz.func181.trans (congrArg some (by kernel_rfl))
 f338 := Tryz.func182.trans (congrArg some (by kernel_rfl))
 t0 := Tryz.underlying0
 a0 := Tryz.isAgg0
 z0 := Tryz.sizeOf0
 v0 := Tryz.zeroValue0
 t2 := Tryz.underlying2
 a2 := Tryz.isAgg2
 z2 := Tryz.sizeOf2
 v2 := Tryz.zeroValue2
 t3 := Tryz.underlying3
 a3 := Tryz.isAgg3
 z3 := Tryz.sizeOf3
 v3 := Tryz.zeroValue3
 t4 := Tryz.underlying4
 a4 := Tryz.isAgg4
 z4 := Tryz.sizeOf4
 v4 := Tryz.zeroValue4
 t5 := Tryz.underlying5
 a5 := Tryz.isAgg5
 z5 := Tryz.sizeOf5
 v5 := Tryz.zeroValue5
 t9 := Tryz.underlying9
 a9 := Tryz.isAgg9
 z9 := Tryz.sizeOf9
 v9 := Tryz.zeroValue9
 t20 := Tryz.underlying20
 a20 := Tryz.isAgg20
 z20 := Tryz.sizeOf20
 v20 := Tryz.zeroValue20
 t37 := Tryz.underlying89
 a37 := Tryz.isAgg89
 z37 := Tryz.sizeOf89
 v37 := Tryz.zeroValue89
 t46 := Tryz.underlying194
 a46 := Tryz.isAgg194
 z46 := Tryz.sizeOf194
 v46 := Tryz.zeroValue194
 t51 := Tryz.underlying192
 a51 := Tryz.isAgg192
 z51 := Tryz.sizeOf192
 v51 := Tryz.zeroValue192
 t53 := Tryz.underlying177
 a53 := Tryz.isAgg177
 z53 := Tryz.sizeOf177
 v53 := Tryz.zeroValue177
 t171 := Tryz.underlying176
 a171 := Tryz.isAgg176
 z171 := Tryz.sizeOf176
 v171 := Tryz.zeroValue176
 t173 := Tryz.underlying180
 a173 := Tryz.isAgg180
 z173 := Tryz.sizeOf180
 v173 := Tryz.zeroValue180
 t212 := Tryz.underlying191
 a212 := Tryz.isAgg191
 z212 := Tryz.sizeOf191
 v212 := Tryz.zeroValue191
 t213 := Tryz.underlying193
 a213 := Tryz.isAgg193
 z213 := Tryz.sizeOf193
 t232 := Tryz.underlying203
 a232 := Tryz.isAgg203
 z232 := Tryz.sizeOf203
 v232 := Tryz.zeroValue203
 t233 := Tryz.underlying204
 a233 := Tryz.isAgg204
 z233 := Tryz.sizeOf204
 v233 := Tryz.zeroValue204
 g17 := by kernel_rfl
 g18 := by kernel_rfl
 g19 := by kernel_rfl }
open Go.RowKit Go.Sort Go.Lib in
theorem Tryz.strconv_Itoa_small (i : Nat) (hi : i < 100) (w : World) :
  Calls Tryz.prog 137 #[.int .i64 i] w fun e w' => e = .returned (.string ⟨(Lib.decDigits i).toArray⟩) ∧ w' = w := Any.strconv_Itoa_small Tryz.lays171 i hi w
def Tryz.lays146_ren : Go.Shelf.Ren := ⟨fun | 146 => 139 | 221 => 154 | 268 => 158 | 138 => 159 | 143 => 160 | 195 => 167 | 197 => 168 | 218 => 169 | 219 => 170 | 260 => 176 | 217 => 177 | 225 => 178 | 224 => 179 | 267 => 180 | 266 => 183 | 314 => 184 | n => n,fun | 9 => 9 | 31 => 125 | 3 => 3 | 4 => 4 | 0 => 0 | 105 => 186 | 21 => 21 | 5 => 5 | 46 => 194 | 119 => 197 | 139 => 200 | 138 => 199 | 146 => 201 | 51 => 192 | n => n,fun | 1 => 1 | 3 => 2 | 4 => 3 | n => n⟩
theorem Tryz.lays146 : Go.Proofs.Lays.n146 Tryz.prog Tryz.lays146_ren := {
 mixed := by kernel_rfl
 f138 := Tryz.func159.trans (congrArg some (by kernel_rfl))
 f143 := Tryz.func160.trans (congrArg some (by kernel_rfl))
 f146 := Tryz.func139.trans (congrArg some (by kernel_rfl))
 f195 := Tryz.func167.trans (congrArg some (by kernel_rfl))
 f197 := Tryz.func168.trans (congrArg some (by kernel_rfl))
 f217 := Tryz.func177.trans (congrArg some (by kernel_rfl))
 f218 := Tryz.func169.trans (congrArg some (by kernel_rfl))
 f219 := Tryz.func170.trans (congrArg some (by kernel_rfl))
 f221 := Tryz.func154.trans (congrArg some (by kernel_rfl))
 f224 := Tryz.func179.trans (congrArg some (by kernel_rfl))
 f225 := Tryz.func178.trans (congrArg some (by kernel_rfl))
 f260 := Tryz.func176.trans (congrArg some (by kernel_rfl))
 f266 := Tryz.func183.trans (congrArg some (by kernel_rfl))
 f267 := Tryz.func180.trans (congrArg some (by kernel_rfl))
 f268 := Tryz.func158.trans (congrArg some (by kernel_rfl))
 f314 := Tryz.func184.trans (congrArg some (by kernel_rfl))
 t0 := Tryz.underlying0
 a0 := Tryz.isAgg0
 z0 := Tryz.sizeOf0
 v0 := Tryz.zeroValue0
 t3 := Tryz.underlying3
 a3 := Tryz.isAgg3
 z3 := Tryz.sizeOf3
 v3 := Tryz.zeroValue3
 t4 := Tryz.underlying4
 a4 := Tryz.isAgg4
 z4 := Tryz.sizeOf4
 v4 := Tryz.zeroValue4
 t5 := Tryz.underlying5
 a5 := Tryz.isAgg5
 z5 := Tryz.sizeOf5
 v5 := Tryz.zeroValue5
 t9 := Tryz.underlying9
 a9 := Tryz.isAgg9
 z9 := Tryz.sizeOf9
 v9 := Tryz.zeroValue9
 t21 := Tryz.underlying21
 a21 := Tryz.isAgg21
 z21 := Tryz.sizeOf21
 v21 := Tryz.zeroValue21
 t31 := Tryz.underlying125
 a31 := Tryz.isAgg125
 z31 := Tryz.sizeOf125
 v31 := Tryz.zeroValue125
 t46 := Tryz.underlying194
 a46 := Tryz.isAgg194
 z46 := Tryz.sizeOf194
 v46 := Tryz.zeroValue194
 t51 := Tryz.underlying192
 a51 := Tryz.isAgg192
 z51 := Tryz.sizeOf192
 v51 := Tryz.zeroValue192
 t105 := Tryz.underlying186
 a105 := Tryz.isAgg186
 z105 := Tryz.sizeOf186
 v105 := Tryz.zeroValue186
 t119 := Tryz.underlying197
 a119 := Tryz.isAgg197
 z119 := Tryz.sizeOf197
 t138 := Tryz.underlying199
 a138 := Tryz.isAgg199
 z138 := Tryz.sizeOf199
 v138 := Tryz.zeroValue199
 t139 := Tryz.underlying200
 a139 := Tryz.isAgg200
 z139 := Tryz.sizeOf200
 v139 := Tryz.zeroValue200
 t146 := Tryz.underlying201
 a146 := Tryz.isAgg201
 z146 := Tryz.sizeOf201
 v146 := Tryz.zeroValue201
 g1 := by kernel_rfl
 g3 := by kernel_rfl
 g4 := by kernel_rfl }
open Go.RowKit Go.Lib in
theorem Tryz.strings_Split (s sep : ByteArray) (m : Int) (w : World) (hs : s.size < 4294967281) (hm : w.cell? ⟨1,0,none⟩ = some (.int .i64 m)) (h1 : 1 ≤ sep.size) :
  Calls Tryz.prog 139 #[.string s,.string sep] w fun e w' =>
   e = .returned (.slice (some ⟨w.heap.size,0,none⟩) (Lib.countB s sep + 1) (Lib.countB s sep + 1)) ∧ w' = w.alloc (.cells ((Lib.splitB sep 0 (Lib.countB s sep) s).map Value.string).toArray 9) := Any.strings_Split Tryz.lays146 (by kernel_rfl) s sep m w hs hm h1
end Go.Proofs
end

/- Part of the proofs of laws of the package chest. Texts: ChSa, ChSb, ChShelf, ChPrimA. -/
import Derived.Test.YtoeigapilcgelaaGreatDoorK3Aw
import Derived.Shelf.Strconv.Itoa3
import Derived.Shelf.Strings.OnBuilder
import Derived.Shelf.Strings.Split
import Derived.Test.YtoeigapilcgelaaGreatDoorProg
import Derived.Test.YtoeigapilcgelaaGreatDoorK3Al
import Derived.Test.YtoeigapilcgelaaGreatDoorK3Aj
set_option linter.unusedSimpArgs false
set_option linter.unusedVariables false
section
namespace Go.Den.Ch
theorem sorted_ext : ∀ {a b : List (List Int)},a.Pairwise (fun x y => bef x y = true) → b.Pairwise (fun x y => bef x y = true) → (∀ x,x ∈ a ↔ x ∈ b) → a = b
 | [],[],_,_,_ => rfl
 | [],y :: b,_,_,h => by have := (h y).2 (by simp);cases this
 | x :: a,[],_,_,h => by have := (h x).1 (by simp);cases this
 | x :: a,y :: b,ha,hb,h => by
  rw [List.pairwise_cons] at ha hb
  have hxy : x = y := by
   rcases List.mem_cons.1 ((h x).1 (by simp)) with e | h1
   ·exact e
   ·rcases List.mem_cons.1 ((h y).2 (by simp)) with e | h2
    ·exact e.symm
    ·have a1 := hb.1 x h1
     have a2 := bef_asym _ _ (ha.1 y h2)
     rw [a1] at a2;cases a2
  subst hxy
  have ne : ∀ {l : List (List Int)},(∀ z ∈ l,bef x z = true) → x ∉ l := fun hl hx => by
   have := hl x hx
   rw [bef_irr] at this;cases this
  rw [sorted_ext ha.2 hb.2 fun z => ?_]
  constructor
  ·intro hz
   rcases List.mem_cons.1 ((h z).1 (by simp [hz])) with e | h1
   ·rw [e] at hz;exact absurd hz (ne ha.1)
   ·exact h1
  ·intro hz
   rcases List.mem_cons.1 ((h z).2 (by simp [hz])) with e | h1
   ·rw [e] at hz;exact absurd hz (ne hb.1)
   ·exact h1
theorem bef_both : ∀ {a b s t : List Int},a.length = b.length → bef a b = true → bef (a ++ s) (b ++ t) = true
 | [],[],_,_,_,h => by cases h
 | x :: a,y :: b,s,t,hl,h => by
  simp only [List.cons_append,bef] at h ⊢
  split at h
  ·rename_i e;rw [if_pos e];exact bef_both (by simpa using hl) h
  ·rename_i e;rw [if_neg e];exact h
def lastP (c : CL) (p : List Int) (r i : Nat) : Bool := brk c p r i (p.length - 1) || brk c p r (p.length - 1) i
def lastB (c : CL) (p : List Int) : Bool := (List.range (p.length - 1)).all fun i => (List.range 2).all fun r => !lastP c p r i
def growB (c : CL) (q : List Int) (n : Nat) : Bool := decide ((layerL c.figs (q ++ [(n : Int)]) n).sum ≤ c.room) && lastB c (q ++ [(n : Int)])
def stepN (c : CL) (q : List Int) (m : Nat) : List (List Int) := ((List.range m).filter (growB c q)).map fun (n : Nat) => q ++ [(n : Int)]
def allT (c : CL) : Nat → List (List Int)
 | 0 => [[]]
 | i + 1 => (allT c i).flatMap fun q => stepN c q c.depth.toNat
def allL (c : CL) : List (List Int) := (allT c c.figs.length).filter fun p => (fault c p).isNone
theorem mem_step {c : CL} {q p : List Int} {m : Nat} : p ∈ stepN c q m ↔ ∃ n : Nat,n < m ∧ growB c q n = true ∧ p = q ++ [(n : Int)] := by
 unfold stepN
 rw [List.mem_map]
 constructor
 ·rintro ⟨n,hn,rfl⟩
  rw [List.mem_filter,List.mem_range] at hn
  exact ⟨n,hn.1,hn.2,rfl⟩
 ·rintro ⟨n,h1,h2,rfl⟩
  exact ⟨n,by rw [List.mem_filter,List.mem_range];exact ⟨h1,h2⟩,rfl⟩
theorem allT_mem {c : CL} : ∀ {i : Nat} {p : List Int},p ∈ allT c i → p.length = i ∧ ∀ x ∈ p,0 ≤ x ∧ x < c.depth
 | 0,p,h => by
  rw [allT,List.mem_singleton] at h
  subst h
  exact ⟨rfl,fun _ h => by cases h⟩
 | i + 1,p,h => by
  rw [allT,List.mem_flatMap] at h
  obtain ⟨q,hq,h⟩ := h
  obtain ⟨n,h1,_,rfl⟩ := mem_step.1 h
  obtain ⟨h3,h4⟩ := allT_mem hq
  refine ⟨by simp [h3],fun x hx => ?_⟩
  rcases List.mem_append.1 hx with hx | hx
  ·exact h4 x hx
  ·rw [List.mem_singleton.1 hx];omega
theorem step_sorted (c : CL) (q : List Int) (m : Nat) : (stepN c q m).Pairwise (fun a b => bef a b = true) := by
 unfold stepN
 rw [List.pairwise_map]
 exact ((List.pairwise_lt_range (n := m)).filter _).imp fun h => bef_lt (m := []) (n := []) (by omega)
theorem allT_sorted (c : CL) : ∀ i,(allT c i).Pairwise (fun a b => bef a b = true)
 | 0 => List.pairwise_singleton _ _
 | i + 1 => by
  rw [allT]
  refine List.pairwise_flatMap.2 ⟨fun q _ => step_sorted c q _,?_⟩
  refine List.Pairwise.imp_of_mem ?_ (allT_sorted c i)
  intro a b ha hb hab x hx y hy
  obtain ⟨n,_,_,rfl⟩ := mem_step.1 hx
  obtain ⟨m,_,_,rfl⟩ := mem_step.1 hy
  exact bef_both ((allT_mem ha).1.trans (allT_mem hb).1.symm) hab
theorem layerL_cut : ∀ (fs : List Fig) (p : List Int) (n : Int),layerL (fs.take p.length) p n = layerL fs p n
 | [],p,n => by simp [layerL]
 | f :: fs,[],n => by simp [layerL]
 | f :: fs,x :: p,n => by
  simp only [List.length_cons,List.take_succ_cons,layerL]
  rw [layerL_cut fs p n]
theorem layerL_pre {n : Int} : ∀ (fs : List Fig) (p : List Int) (i : Nat),(∀ f ∈ fs,0 ≤ f.size) → (layerL fs (p.take i) n).sum ≤ (layerL fs p n).sum ∧ 0 ≤ (layerL fs p n).sum
 | [],p,i,_ => by simp [layerL]
 | f :: fs,[],i,_ => by simp [layerL]
 | f :: fs,x :: p,0,h => by
  have h1 := h f (by simp)
  have h2 := (layerL_pre (n := n) fs p 0 (fun g hg => h g (by simp [hg]))).2
  simp only [List.take_zero,layerL]
  split
  ·rw [List.sum_cons];simp only [List.sum_nil];omega
  ·simp only [List.sum_nil];omega
 | f :: fs,x :: p,i + 1,h => by
  have h1 := h f (by simp)
  have h2 := layerL_pre (n := n) fs p i (fun g hg => h g (by simp [hg]))
  simp only [List.take_succ_cons,layerL]
  split
  ·rw [List.sum_cons,List.sum_cons];omega
  ·omega
theorem brk_take {c : CL} {p : List Int} {r a b m : Nat} (h : brk c (p.take m) r a b = true) : brk c p r a b = true := by
 unfold brk at h
 split at h
 ·rename_i x y f g e1 e2 e3 e4
  have t : ∀ {k : Nat} {z : Int},(p.take m)[k]? = some z → p[k]? = some z := fun {k z} e => by
   rw [List.getElem?_take] at e
   split at e
   ·exact e
   ·cases e
  unfold brk
  rw [t e1,t e2,e3,e4]
  exact h
 ·cases h
theorem right_all {c : CL} (hc : OkL c) {p : List Int} (hp : OkP c p) (hf : fault c p = none) : ∀ i,i ≤ p.length → p.take i ∈ allT c i
 | 0,_ => by simp [allT]
 | i + 1,hi => by
  obtain ⟨a1,_,a3,a4⟩ := fault_none hc hf
  have ih := right_all hc hp hf i (by omega)
  have hr := hp.rng _ (List.getElem_mem (show i < p.length by omega))
  have e : p.take (i + 1) = p.take i ++ [p[i]] := List.take_succ_eq_append_getElem (by omega)
  have en : ((p[i].toNat : Nat) : Int) = p[i] := Int.toNat_of_nonneg hr.1
  rw [allT,List.mem_flatMap]
  refine ⟨_,ih,mem_step.2 ⟨p[i].toNat,by omega,?_,by rw [en];exact e⟩⟩
  unfold growB
  rw [en,← e,Bool.and_eq_true,decide_eq_true_eq]
  constructor
  ·have h1 := (layerL_pre (n := p[i]) c.figs p (i + 1) (fun f hf => by have := hc.size hf;omega)).1
   have h2 := a1 p[i] hr.1 hr.2
   unfold sumL at h2
   omega
  ·refine List.all_eq_true.2 fun k hk => List.all_eq_true.2 fun r hr2 => ?_
   rw [List.mem_range] at hr2
   have hno : ∀ a b,brk c p r a b = false := fun a b => by
    have hn : NoDis c p r := by
     have : r = 0 ∨ r = 1 := by omega
     rcases this with rfl | rfl
     ·exact a3
     ·exact a4
    unfold brk
    split
    ·rename_i x y f g e1 e2 e3 e4
     by_cases hxy : x < y
     ·have := hn a b x y f g e1 e2 e3 e4 hxy
      simp [hxy,this]
     ·simp [hxy]
    ·rfl
   have hb : ∀ a b,brk c (p.take (i + 1)) r a b = false := fun a b => by
    cases h : brk c (p.take (i + 1)) r a b with
    | false => rfl
    | true => have := brk_take h;rw [hno] at this;cases this
   simp [lastP,hb]
theorem all_eq {c : CL} (hc : OkL c) : allL c = rightsL c := by
 refine sorted_ext ((allT_sorted c _).filter _) (rights_sorted c) fun p => ?_
 rw [mem_rights,allL,List.mem_filter,Option.isNone_iff_eq_none]
 constructor
 ·rintro ⟨h1,h2⟩
  obtain ⟨h3,h4⟩ := allT_mem h1
  exact ⟨⟨h3,h4⟩,h2⟩
 ·rintro ⟨h1,h2⟩
  have := right_all hc h1 h2 p.length (Nat.le_refl _)
  rw [List.take_length,h1.len] at this
  exact ⟨this,h2⟩
theorem step_len (c : CL) (q : List Int) (m : Nat) : (stepN c q m).length ≤ m := by
 unfold stepN
 rw [List.length_map]
 have := List.length_filter_le (growB c q) (List.range m)
 rwa [List.length_range] at this
theorem flat_len {β γ : Type} {f : β → List γ} {d : Nat} : ∀ l : List β,(∀ q ∈ l,(f q).length ≤ d) → (l.flatMap f).length ≤ l.length * d
 | [],_ => by simp
 | q :: l,h => by
  have := flat_len l (fun x hx => h x (by simp [hx]))
  have := h q (by simp)
  rw [List.flatMap_cons,List.length_append,List.length_cons,Nat.succ_mul];omega
theorem allT_len {c : CL} (hc : OkL c) : ∀ i,i ≤ 6 → (allT c i).length ≤ 5 ^ i
 | 0,_ => by simp [allT]
 | i + 1,hi => by
  rw [allT]
  have h1 := flat_len (f := fun q => stepN c q c.depth.toNat) (d := 5) (allT c i) (fun q _ => by have := step_len c q c.depth.toNat;have := hc.d1;omega)
  have h2 := allT_len hc i (by omega)
  rw [Nat.pow_succ]
  exact Nat.le_trans h1 (Nat.mul_le_mul_right _ h2)
set_option maxHeartbeats 1000000 in
theorem k28 (c : CL) (F P : PV) (p : List Int) (n : Int) (hF : SlOf 3 encF F c.figs) (hP : SlOf 1 encI P p) (hc : OkL c) (hpl : p.length ≤ c.figs.length) (st : St) : Cl EE (.func 28 [] []) [clPV c F,P,iv n] st (.ret (iv (layerL c.figs p n).sum)) st := by
 have hFs := hF.slen
 have hFc := hF.cells
 have hs := hP.slen
 have hlen := hc.len
 refine cl_fn (pr28 · _ _) fn28 3 rfl (by decide) (fun tm hl hg => ?_);have h0 : tg tm 0 = clPV c F := (hg 0 (by decide));have h1 : tg tm 1 = P := (hg 1 (by decide));have h2 : tg tm 2 = iv n := (hg 2 (by decide));clear hg
 refine go (bw hl h0) fnil ?_
 refine wp_for [8,7] (fun i vs st' => vs = [iv i,iv (layerL (c.figs.take i) (p.take i) n).sum] ∧ i ≤ p.length ∧ st' = ({ heap := st.heap,lo := st.heap.length } : St).push (.var [iv c.room,iv c.depth,F])) (fun i => p.length - i) ⟨by simp only [↓reduceIte,go_sem,hl];first | done | rfl,Nat.zero_le _,by first | done | rfl⟩ ?_
 rintro i tm1 st1 ⟨hv,hi,rfl⟩ hS
 simp only [List.map_cons,List.map_nil,List.cons.injEq,and_true] at hv
 obtain ⟨hv8,hv7⟩ := hv
 have hl1 : tm1.length = 30 := (by rw [hS.1];simp only [put_len,hl]);have i1 : tg tm1 1 = P := (by rw [hS.2 1 (by decide)];simp only [↓reduceIte,go_sem,hl,h1,h2]);have i2 : tg tm1 2 = iv n := (by rw [hS.2 2 (by decide)];simp only [↓reduceIte,go_sem,hl,h1,h2]);have i3 : tg tm1 3 = .ptr st.heap.length 0 := (by rw [hS.2 3 (by decide)];simp only [↓reduceIte,go_sem,hl,h1,h2]);clear hS
 refine go (bw4 hl1 hv8 i1 hs) fnil ?_
 refine ⟨decide ((i : Int) < p.length),by simp only [↓reduceIte,go_sem,hl1],fun hb => ?_,fun hb1 => ?_⟩
 ·have hlt := of_decide_eq_false hb
  have hin : i = p.length := by omega
  rw [hin,List.take_length,layerL_cut] at hv7
  refine go (bw hl1 hv7) fnil ?_
  refine fnq_flat (results_one (by rw [rdRes_tmp];simp only [↓reduceIte,go_sem,hl1];first | done | rfl)) (by first | exact Nat.le_refl _ | omega | (simp only [lo_push,lo_setVar];omega)) (by rfl)
 ·have hlt : i < p.length := by have := of_decide_eq_true hb1;omega
  have hlf : i < c.figs.length := by omega
  have hw1 : IntKind.wrap .i64 ((i : Int) + 1) = ((i + 1 : Nat) : Int) := wrap_nat (n := i + 1) (by omega)
  have hb0 := layerL_take_bound hc p n i
  have hb2 := layerL_take_bound hc p n (i + 1)
  have htk := layerL_take (n := n) hlf hlt
  refine ⟨by omega,?_⟩
  by_cases hx : p[i] = n
  ·have hd : (p[i] == n) = true := by simp [hx]
   rw [if_pos hx] at htk
   have es : (layerL (c.figs.take (i + 1)) (p.take (i + 1)) n).sum = (layerL (c.figs.take i) (p.take i) n).sum + c.figs[i].size := by rw [htk];simp
   have hw : IntKind.wrap .i64 ((layerL (c.figs.take i) (p.take i) n).sum + c.figs[i].size) = (layerL (c.figs.take (i + 1)) (p.take (i + 1)) n).sum := by
    rw [← es];exact wrap_in (by unfold inI;omega)
   refine go (bw9 hl1 hv8 hv7 i1 i2 i3 hd hw hw1) fnil ?_
   refine ⟨?_,by omega,rfl⟩
   simp only [↓reduceIte,go_sem,hl1]
  ·have hd : (p[i] == n) = false := by simp [hx]
   rw [if_neg hx,List.append_nil] at htk
   refine go (bw8 hl1 hv8 hv7 i1 i2 i3 hd hw1) fnil ?_
   refine ⟨?_,by omega,rfl⟩
   rw [htk]
   simp only [↓reduceIte,go_sem,hl1,hv7]
theorem brk_el {c : CL} {p : List Int} {r a b : Nat} (ha : a < p.length) (hb : b < p.length) (hpl : p.length ≤ c.figs.length) : brk c p r a b = (decide (p[a] < p[b]) && decide (key r c.figs[a] > key r c.figs[b])) := by
 unfold brk
 rw [List.getElem?_eq_getElem ha,List.getElem?_eq_getElem hb,List.getElem?_eq_getElem (show a < c.figs.length by omega),List.getElem?_eq_getElem (show b < c.figs.length by omega)]
theorem last_yes {c : CL} {p : List Int} (h : ∀ i < p.length - 1,∀ r < 2,lastP c p r i = false) : lastB c p = true := List.all_eq_true.2 fun i hi => List.all_eq_true.2 fun r hr => by
 rw [List.mem_range] at hi hr
 rw [h i hi r hr];rfl
theorem last_no {c : CL} {p : List Int} {i r : Nat} (hi : i < p.length - 1) (hr : r < 2) (h : lastP c p r i = true) : lastB c p = false := List.all_eq_false.2 ⟨i,List.mem_range.2 hi,by
 rw [Bool.not_eq_true]
 exact List.all_eq_false.2 ⟨r,List.mem_range.2 hr,by rw [h];simp⟩⟩
set_option maxHeartbeats 8000000 in
theorem c85 (c : CL) (F P : PV) (p : List Int) (hF : SlOf 3 encF F c.figs) (hP : SlOf 1 encI P p) (hlen : c.figs.length ≤ 6) (h0p : 0 < p.length) (hpl : p.length ≤ c.figs.length) (st : St) : Cl EE (.func 85 [] []) [clPV c F,P] st (.ret (.bool (lastB c p))) st := by
 have hFc := hF.cells
 have hFi := hF.isCell
 have hs := hP.slen
 obtain ⟨k,hk⟩ : ∃ k,p.length = k + 1 := ⟨p.length - 1,by omega⟩
 have hwk : IntKind.wrap .i64 ((p.length : Int) - 1) = (k : Int) := by rw [wrap_in (by unfold inI;omega)];omega
 refine cl_fn (pr85 · _ _) fn85 2 rfl (by decide) (fun tm hl hg => ?_);have h0 : tg tm 0 = clPV c F := (hg 0 (by decide));have h1 : tg tm 1 = P := (hg 1 (by decide));clear hg
 refine go (bw5 hl h0 h1 hs hwk) fnil ?_
 refine wp_for [6] (fun i vs s => vs = [iv i] ∧ i ≤ k ∧ (∀ j < i,∀ r < 2,lastP c p r j = false) ∧ s = ({ heap := st.heap,lo := st.heap.length } : St).push (.var [iv c.room,iv c.depth,F])) (fun i => k - i) ⟨by simp only [↓reduceIte,go_sem,hl];first | done | rfl,Nat.zero_le _,(fun j hj => absurd hj (by omega)),by first | done | rfl⟩ ?_
 rintro i tm1 s1 ⟨hv,hi,hok,rfl⟩ hS
 simp only [List.map_cons,List.map_nil,List.cons.injEq,and_true] at hv
 have hl1 : tm1.length = 54 := (by rw [hS.1];simp only [put_len,hl]);have i1 : tg tm1 1 = P := (by rw [hS.2 1 (by decide)];simp only [↓reduceIte,go_sem,hl,h1]);have i2 : tg tm1 2 = .ptr st.heap.length 0 := (by rw [hS.2 2 (by decide)];simp only [↓reduceIte,go_sem,hl,h1]);have i5 : tg tm1 5 = iv k := (by rw [hS.2 5 (by decide)];simp only [↓reduceIte,go_sem,hl,h1]);clear hS
 refine go (bw3 hl1 hv i5) fnil ?_
 refine ⟨decide ((i : Int) < k),by simp only [↓reduceIte,go_sem,hl1],fun hb => ?_,fun hb1 => ?_⟩
 ·have hlt := of_decide_eq_false hb
  rw [last_yes (fun j hj => hok j (by omega))]
  refine go hl1 fnil ?_
  refine fnq_flat (results_one (by rw [rdRes_tmp];simp only [↓reduceIte,go_sem,hl1];first | done | rfl)) (by first | exact Nat.le_refl _ | omega | (simp only [lo_push,lo_setVar];omega)) (by rfl)
 have hlt : i < k := by have := of_decide_eq_true hb1;omega
 have hw1 : IntKind.wrap .i64 ((i : Int) + 1) = ((i + 1 : Nat) : Int) := wrap_nat (n := i + 1) (by omega)
 refine ⟨by omega,?_⟩
 refine go hl1 fnil ?_
 refine wp_for [7] (fun r vs s => vs = [iv (3 + (r : Int))] ∧ r ≤ 2 ∧ (∀ q < r,lastP c p q i = false) ∧ s = ({ heap := st.heap,lo := st.heap.length } : St).push (.var [iv c.room,iv c.depth,F])) (fun r => 2 - r) ⟨by simp only [↓reduceIte,go_sem,hl1];first | done | rfl,Nat.zero_le _,(fun j hj => absurd hj (by omega)),by first | done | rfl⟩ ?_
 rintro r tm2 s2 ⟨hv2,hr,hok2,rfl⟩ hS
 simp only [List.map_cons,List.map_nil,List.cons.injEq,and_true] at hv2
 have hl2 : tm2.length = 54 := (by rw [hS.1];simp only [put_len,hl1]);have j1 : tg tm2 1 = P := (by rw [hS.2 1 (by decide)];simp only [↓reduceIte,go_sem,hl1,i1,i2,i5,hv]);have j2 : tg tm2 2 = .ptr st.heap.length 0 := (by rw [hS.2 2 (by decide)];simp only [↓reduceIte,go_sem,hl1,i1,i2,i5,hv]);have j5 : tg tm2 5 = iv k := (by rw [hS.2 5 (by decide)];simp only [↓reduceIte,go_sem,hl1,i1,i2,i5,hv]);have j6 : tg tm2 6 = iv i := (by rw [hS.2 6 (by decide)];simp only [↓reduceIte,go_sem,hl1,i1,i2,i5,hv]);clear hS
 refine go (bw hl2 hv2) fnil ?_
 refine ⟨decide (3 + (r : Int) ≤ 4),by simp only [↓reduceIte,go_sem,hl2],fun hb => ?_,fun hb1 => ?_⟩
 ·have hr2 := of_decide_eq_false hb
  refine go (bw3 hl2 j6 hw1) fnil ?_
  refine ⟨by simp only [↓reduceIte,go_sem,hl2],by omega,fun j hj q hq => ?_,rfl⟩
  by_cases hji : j = i
  ·subst hji;exact hok2 q (by omega)
  ·exact hok j (by omega) q hq
 have hr2 : r < 2 := by have := of_decide_eq_true hb1;omega
 have hw2 : IntKind.wrap .i64 (3 + (r : Int) + 1) = 3 + ((r + 1 : Nat) : Int) := by rw [wrap_in (by unfold inI;omega)];omega
 have hip : i < p.length := by omega
 have hkp : k < p.length := by omega
 have hrr : (3 + (r : Int) = 3 ∧ r = 0) ∨ (3 + (r : Int) = 4 ∧ r = 1) := by omega
 have q1 := c114 c F hF (3 + (r : Int)) r i k hrr (by omega) (by omega)
 have q2 := c114 c F hF (3 + (r : Int)) r k i hrr (by omega) (by omega)
 have e1 := brk_el (c := c) (r := r) hip hkp hpl
 have e2 := brk_el (c := c) (r := r) hkp hip hpl
 have eL : lastP c p r i = (brk c p r i k || brk c p r k i) := by unfold lastP;rw [hk,Nat.add_sub_cancel]
 rw [e1,e2] at eL
 have hno : lastP c p r i = false → ∀ q < r + 1,lastP c p q i = false := fun h q hq => by
  by_cases hqr : q = r
  ·rw [hqr];exact h
  ·exact hok2 q (by omega)
 refine ⟨by omega,?_⟩
 cases x1 : decide (p[i] < p[k])
 ·rw [x1,Bool.false_and,Bool.false_or] at eL
  cases x2 : decide (p[k] < p[i])
  ·rw [x2,Bool.false_and] at eL
   refine go (bw11 hl2 hv2 j1 j2 j5 j6 x1 x2 hw2 hFc hFi) fnil ?_
   exact ⟨by simp only [↓reduceIte,go_sem,hl2],by omega,hno eL,rfl⟩
  ·rw [x2,Bool.true_and] at eL
   cases x3 : decide (key r c.figs[k] > key r c.figs[i])
   ·rw [x3] at eL q2
    refine go (bw11 hl2 hv2 j1 j2 j5 j6 x1 x2 hw2 hFc hFi) (bw q2 fnil) ?_
    exact ⟨by simp only [↓reduceIte,go_sem,hl2],by omega,hno eL,rfl⟩
   ·rw [x3] at eL q2
    rw [last_no (by omega) hr2 eL]
    refine go (bw11 hl2 hv2 j1 j2 j5 j6 x1 x2 hw2 hFc hFi) (bw q2 fnil) ?_
    refine fnq_flat (results_one (by rw [rdRes_tmp];simp only [↓reduceIte,go_sem,hl2];first | done | rfl)) (by first | exact Nat.le_refl _ | omega | (simp only [lo_push,lo_setVar];omega)) (by rfl)
 ·have x2 : decide (p[k] < p[i]) = false := by have := of_decide_eq_true x1;rw [decide_eq_false_iff_not];omega
  rw [x1,x2,Bool.true_and,Bool.false_and,Bool.or_false] at eL
  cases x3 : decide (key r c.figs[i] > key r c.figs[k])
  ·rw [x3] at eL q1
   refine go (bw11 hl2 hv2 j1 j2 j5 j6 x1 x2 hw2 hFc hFi) (bw q1 fnil) ?_
   exact ⟨by simp only [↓reduceIte,go_sem,hl2],by omega,hno eL,rfl⟩
  ·rw [x3] at eL q1
   rw [last_no (by omega) hr2 eL]
   refine go (bw11 hl2 hv2 j1 j2 j5 j6 x1 x2 hw2 hFc hFi) (bw q1 fnil) ?_
   refine fnq_flat (results_one (by rw [rdRes_tmp];simp only [↓reduceIte,go_sem,hl2];first | done | rfl)) (by first | exact Nat.le_refl _ | omega | (simp only [lo_push,lo_setVar];omega)) (by rfl)
end Go.Den.Ch
end
section
namespace Go.Den
theorem OwnS.hext {m : Nat} {a b : St} {sz : Nat} {v : PV} {n : Nat} {cs : List PV} (h : OwnS m a sz v n cs) (hx : HExt a.heap b.heap) : OwnS m b sz v n cs := ⟨h.1,h.2.imp id fun ⟨t,h2,h3,h4⟩ => ⟨t,h2,h3,hx.hp h4⟩⟩
end Go.Den
namespace Go.Den.Ch
def elL : List Int → PV
 | [] => .nilslice
 | x :: l => .slice .shared (l.length + 1) ((x :: l).flatMap encI)
abbrev encL (p : List Int) : List PV := [elL p]
attribute [go_sem] encL
theorem el_sl (p : List Int) : SlOf 1 encI (elL p) p := by
 cases p with
 | nil => exact .nil
 | cons x l => exact ⟨rfl,fun _ _ => rfl⟩
theorem encI_cell : ∀ p : List Int,(p.flatMap encI).all PV.isCell = true
 | [] => rfl
 | x :: p => by rw [List.flatMap_cons,List.all_append,encI_cell p];rfl
theorem encI_share : ∀ p : List Int,(p.flatMap encI).map PV.share = p.flatMap encI
 | [] => rfl
 | x :: p => by rw [List.flatMap_cons,List.map_append,encI_share p];rfl
theorem el_share (p : List Int) : (elL p).share = elL p := by cases p <;> rfl
theorem el_cells (p : List Int) : (elL p).cells = [elL p] := (el_sl p).cells
theorem el_isCell (p : List Int) : (elL p).isCell = true := (el_sl p).isCell
theorem share_own {m : Nat} {st : St} {u : PV} {p : List Int} {n : Nat} {cs : List PV} (h : OwnS m st 1 u n cs) (hn : n = p.length) (hc : cs = p.flatMap encI) (hp : p ≠ []) : u.share = elL p := by
 subst hn hc
 cases p with
 | nil => exact absurd rfl hp
 | cons x p =>
  rcases h.2 with ⟨h1,_⟩ | ⟨t,rfl,_⟩
  ·simp at h1
  ·rfl
theorem el_low (p : List Int) (m : Nat) : (elL p).low m = true := by
 cases p with
 | nil => rfl
 | cons x l =>
  simp only [elL,PV.low]
  exact lowL_of fun c hc => encI_low _ m c hc
theorem encL_low (l : List (List Int)) (m : Nat) (c : PV) (hc : c ∈ l.flatMap encL) : PV.low m c = true := by
 simp only [List.mem_flatMap,List.mem_singleton] at hc
 obtain ⟨a,_,rfl⟩ := hc
 exact el_low a m
theorem slL {st st' : St} {l : List (List Int)} {v : PV} (h : RetS st 1 l.length (l.flatMap encL) v st') : SlOf 1 encL v l := SlOf.of_sl h.sl rfl rfl (fun _ => rfl)
theorem stepN_succ (c : CL) (q : List Int) (n : Nat) : stepN c q (n + 1) = stepN c q n ++ (if growB c q n then [q ++ [(n : Int)]] else []) := by
 unfold stepN
 rw [List.range_succ,List.filter_append,List.map_append]
 cases h : growB c q n <;> simp [h]
def lvT (c : CL) (i k : Nat) : List (List Int) := ((allT c i).take k).flatMap fun q => stepN c q c.depth.toNat
theorem lvT_succ (c : CL) {i k : Nat} (h : k < (allT c i).length) : lvT c i (k + 1) = lvT c i k ++ stepN c (allT c i)[k] c.depth.toNat := by
 unfold lvT
 rw [List.take_succ_eq_append_getElem h,List.flatMap_append];simp
theorem lvT_len {c : CL} (hc : OkL c) {i k : Nat} (hi : i ≤ 6) (hk : k ≤ (allT c i).length) : (lvT c i k).length ≤ 78125 := by
 have h1 := flat_len (f := fun q => stepN c q c.depth.toNat) (d := 5) ((allT c i).take k) (fun q _ => by have := step_len c q c.depth.toNat;have := hc.d1;omega)
 have h2 := allT_len hc i hi
 have h3 : 5 ^ i ≤ 5 ^ 6 := Nat.pow_le_pow_right (by omega) hi
 have h4 : (5 : Nat) ^ 6 = 15625 := by decide
 rw [List.length_take] at h1
 have h5 : min k (allT c i).length * 5 ≤ 15625 * 5 := Nat.mul_le_mul_right _ (by omega)
 unfold lvT
 omega
def outT (c : CL) (k : Nat) : List (List Int) := ((allT c c.figs.length).take k).filter fun p => (fault c p).isNone
theorem outT_succ (c : CL) {k : Nat} (h : k < (allT c c.figs.length).length) : outT c (k + 1) = outT c k ++ (if (fault c (allT c c.figs.length)[k]).isNone then [(allT c c.figs.length)[k]] else []) := by
 unfold outT
 rw [List.take_succ_eq_append_getElem h,List.filter_append]
 cases hf : (fault c (allT c c.figs.length)[k]).isNone <;> simp [hf]
set_option maxHeartbeats 16000000 in
theorem c34 (c : CL) (F : PV) (hF : SlOf 3 encF F c.figs) (hc : OkL c) (st : St) : ClR EE (.func 34 [] []) [clPV c F] st (RetS st 1 (rightsL c).length ((rightsL c).flatMap encL)) := by
 have hFc := hF.cells
 have hFi := hF.isCell
 have hFs := hF.slen
 have hlen := hc.len
 obtain ⟨d,hd⟩ : ∃ d : Nat,c.depth = d := ⟨c.depth.toNat,by have := hc.d0;omega⟩
 have hd5 : d ≤ 5 := by have := hc.d1;omega
 have hdN : c.depth.toNat = d := by omega
 rw [← all_eq hc]
 refine clr_fn (pr34 · _ _) fn34 1 rfl (by decide) (fun tm hl hg => ?_);have h0 : tg tm 0 = clPV c F := (hg 0 (by decide));clear hg
 refine go (bw hl h0) fnil ?_
 refine wp_for [4,3] (fun i vs s => ∃ v,vs = [iv i,v] ∧ i ≤ c.figs.length ∧ SlOf 1 encL v (allT c i) ∧ Fr (st.heap.length + 1) (({ heap := st.heap,lo := st.heap.length } : St).push (.var [iv c.room,iv c.depth,F])) s) (fun i => c.figs.length - i) ⟨_,by simp only [↓reduceIte,go_sem,hl];first | done | rfl,Nat.zero_le _,SlOf.of_sl (l := [[]]) rfl rfl rfl (fun _ => rfl),(Fr.refl _ _).push (by simp only [len_push];omega)⟩ ?_
 rintro i tm1 s1 ⟨v,hv,hi1,hV,hFr⟩ hS
 simp only [List.map_cons,List.map_nil,List.cons.injEq,and_true] at hv
 obtain ⟨hv4,hv3⟩ := hv
 have hl1 : tm1.length = 76 := (by rw [hS.1];simp only [put_len,hl]);have i1 : tg tm1 1 = .ptr st.heap.length 0 := (by rw [hS.2 1 (by decide)];simp only [↓reduceIte,go_sem,hl,h0]);clear hS
 have b1 : hp s1 st.heap.length = some (.var [iv c.room,iv c.depth,F]) := (hFr.old _ (by omega)).trans (by simp only [↓reduceIte,go_sem])
 have m1 := hp_lt b1
 have hVs := hV.slen
 have hal := allT_len hc i (by omega)
 have ha6 : 5 ^ i ≤ 5 ^ 6 := Nat.pow_le_pow_right (by omega) (by omega)
 have e56 : (5 : Nat) ^ 6 = 15625 := by decide
 refine go (bw10 hl1 hv4 i1 b1 (neL m1) (neA m1) (ltL m1) (ltA m1) m1 hFs) fnil ?_
 refine ⟨decide ((i : Int) < c.figs.length),by simp only [↓reduceIte,go_sem,hl1],fun hb => ?_,fun hb1 => ?_⟩
 ·have hlt := of_decide_eq_false hb
  obtain rfl : i = c.figs.length := by omega
  refine go hl1 fnil ?_
  refine wp_for [10,9] (fun k vs s => ∃ w,vs = [iv k,w] ∧ k ≤ (allT c c.figs.length).length ∧ OwnS (st.heap.length + 1) s 1 w (outT c k).length ((outT c k).flatMap encL) ∧ Fr (st.heap.length + 1) (({ heap := st.heap,lo := st.heap.length } : St).push (.var [iv c.room,iv c.depth,F])) s) (fun k => (allT c c.figs.length).length - k) ⟨_,by simp only [↓reduceIte,go_sem,hl1];first | done | rfl,Nat.zero_le _,.nil,hFr⟩ ?_
  clear b1 m1 hFr
  rintro k tm2 s2 ⟨w,hv,hk1,hO,hFr⟩ hS
  simp only [List.map_cons,List.map_nil,List.cons.injEq,and_true] at hv
  obtain ⟨hv10,hv9⟩ := hv
  have hl2 : tm2.length = 76 := (by rw [hS.1];simp only [put_len,hl1]);have j1 : tg tm2 1 = .ptr st.heap.length 0 := (by rw [hS.2 1 (by decide)];simp only [↓reduceIte,go_sem,hl1,i1,hv3]);have j3 : tg tm2 3 = v := (by rw [hS.2 3 (by decide)];simp only [↓reduceIte,go_sem,hl1,i1,hv3]);clear hS
  have b1 : hp s2 st.heap.length = some (.var [iv c.room,iv c.depth,F]) := (hFr.old _ (by omega)).trans (by simp only [↓reduceIte,go_sem])
  have m1 := hp_lt b1
  have w1 := hFr.len
  have w2 := hFr.lo
  have w3 := hFr.up
  simp only [lo_push,len_push] at w1 w2 w3
  refine go (bw4 hl2 hv10 j3 hVs) fnil ?_
  refine ⟨decide ((k : Int) < (allT c c.figs.length).length),by simp only [↓reduceIte,go_sem,hl2],fun hb => ?_,fun hb1 => ?_⟩
  ·have hlt := of_decide_eq_false hb
   obtain rfl : k = (allT c c.figs.length).length := by omega
   have e : outT c (allT c c.figs.length).length = allL c := by unfold outT allL;rw [List.take_length]
   rw [e] at hO
   refine go (bw hl2 hv9) fnil ?_
   exact fnr_ret (results_one (v := w) (by rw [rdRes_tmp];simp only [↓reduceIte,go_sem,hl2])) ((hO.mono (Nat.le_succ _)).finish (by omega) (fun m c hc => encL_low _ m c hc))
  have hlt : k < (allT c c.figs.length).length := by have := of_decide_eq_true hb1;omega
  have hw1 : IntKind.wrap .i64 ((k : Int) + 1) = ((k + 1 : Nat) : Int) := wrap_nat (n := k + 1) (by omega)
  have hap := allT_mem (List.getElem_mem hlt)
  have k46 := c46 c F (elL (allT c c.figs.length)[k]) (allT c c.figs.length)[k] hF (el_sl _) hc ⟨hap.1,hap.2⟩
  have hsu := outT_succ c hlt
  have hol : (outT c k).length ≤ k := by
   have := List.length_filter_le (fun p => (fault c p).isNone) ((allT c c.figs.length).take k)
   rw [List.length_take] at this
   unfold outT;omega
  have ec := el_cells (allT c c.figs.length)[k]
  have ei := el_isCell (allT c c.figs.length)[k]
  have es := el_share (allT c c.figs.length)[k]
  refine ⟨by omega,?_⟩
  cases hf : (fault c (allT c c.figs.length)[k]).isNone
  ·rw [hf] at k46 hsu
   simp only [Bool.false_eq_true,if_false,List.append_nil] at hsu
   refine go (bw14 hl2 hv10 hv9 j1 j3 b1 (neL m1) (neA m1) (ltL m1) (ltA m1) m1 ec ei hw1) (bw k46 fnil) ?_
   exact ⟨w,by simp only [↓reduceIte,go_sem,hl2,hv9],by omega,by rw [hsu];exact hO,hFr⟩
  ·rw [hf] at k46 hsu
   simp only [if_true] at hsu
   refine go (bw13 hl2 hv10 hv9 j1 j3 b1 (neL m1) (neA m1) (ltL m1) (ltA m1) m1 ec ei) (bw k46 fnil) ?_
   refine wops_append (m := st.heap.length + 1) rfl rfl (by simp only [↓reduceIte,go_sem,hl2,hv9];first | done | rfl) (by simp only [↓reduceIte,go_sem,hl2];first | done | rfl) hO.push rfl (by simp only [len_push];omega) (by rfl) (by simp only [List.all_cons,List.all_nil,es,ei,Bool.and_true]) (by simp only [maxList];omega) ?_
   intro w' s3 hO' hFr' hk
   refine go (bw3 hl2 hv10 hw1) fnil ?_
   exact ⟨w',by simp only [↓reduceIte,go_sem,hl2],by omega,by rw [hsu];simpa [es] using hO',(hFr.push (by omega)).trans hFr'⟩
 have hlt : i < c.figs.length := by have := of_decide_eq_true hb1;omega
 have hw1 : IntKind.wrap .i64 ((i : Int) + 1) = ((i + 1 : Nat) : Int) := wrap_nat (n := i + 1) (by omega)
 have hlv : ∀ k,k ≤ (allT c i).length → (lvT c i k).length ≤ 78125 := fun k hk => lvT_len hc (by omega) hk
 refine ⟨by omega,?_⟩
 refine go hl1 fnil ?_
 refine wp_for [6,5] (fun k vs s => ∃ w,vs = [iv k,w] ∧ k ≤ (allT c i).length ∧ OwnS (st.heap.length + 1) s 1 w (lvT c i k).length ((lvT c i k).flatMap encL) ∧ Fr (st.heap.length + 1) (({ heap := st.heap,lo := st.heap.length } : St).push (.var [iv c.room,iv c.depth,F])) s) (fun k => (allT c i).length - k) ⟨_,by simp only [↓reduceIte,go_sem,hl1];first | done | rfl,Nat.zero_le _,.nil,hFr⟩ ?_
 clear b1 m1 hFr
 rintro k tm2 s2 ⟨w,hv,hk1,hO,hFr⟩ hS
 simp only [List.map_cons,List.map_nil,List.cons.injEq,and_true] at hv
 obtain ⟨hv6,hv5⟩ := hv
 have hl2 : tm2.length = 76 := (by rw [hS.1];simp only [put_len,hl1]);have j1 : tg tm2 1 = .ptr st.heap.length 0 := (by rw [hS.2 1 (by decide)];simp only [↓reduceIte,go_sem,hl1,i1,hv3,hv4]);have j3 : tg tm2 3 = v := (by rw [hS.2 3 (by decide)];simp only [↓reduceIte,go_sem,hl1,i1,hv3,hv4]);have j4 : tg tm2 4 = iv i := (by rw [hS.2 4 (by decide)];simp only [↓reduceIte,go_sem,hl1,i1,hv3,hv4]);clear hS
 refine go (bw4 hl2 hv6 j3 hVs) fnil ?_
 refine ⟨decide ((k : Int) < (allT c i).length),by simp only [↓reduceIte,go_sem,hl2],fun hb => ?_,fun hb1 => ?_⟩
 ·have hlt := of_decide_eq_false hb
  obtain rfl : k = (allT c i).length := by omega
  have e : lvT c i (allT c i).length = allT c (i + 1) := by unfold lvT;rw [List.take_length,allT]
  rw [e] at hO
  refine go (bw4 hl2 hv5 j4 hw1) fnil ?_
  exact ⟨w,by simp only [↓reduceIte,go_sem,hl2],by omega,SlOf.of_sl hO.sl rfl rfl (fun _ => rfl),hFr⟩
 have hltk : k < (allT c i).length := by have := of_decide_eq_true hb1;omega
 have hw2 : IntKind.wrap .i64 ((k : Int) + 1) = ((k + 1 : Nat) : Int) := wrap_nat (n := k + 1) (by omega)
 have hap := allT_mem (List.getElem_mem hltk)
 have hlk := hlv k (by omega)
 have hsk := lvT_succ c hltk
 have ec := el_cells (allT c i)[k]
 have ei := el_isCell (allT c i)[k]
 refine ⟨by omega,?_⟩
 refine go hl2 fnil ?_
 refine wp_for [7,5] (fun n vs s => ∃ w,vs = [iv n,w] ∧ n ≤ d ∧ OwnS (st.heap.length + 1) s 1 w (lvT c i k ++ stepN c (allT c i)[k] n).length ((lvT c i k ++ stepN c (allT c i)[k] n).flatMap encL) ∧ Fr (st.heap.length + 1) (({ heap := st.heap,lo := st.heap.length } : St).push (.var [iv c.room,iv c.depth,F])) s) (fun n => d - n) ⟨w,by simp only [↓reduceIte,go_sem,hl2,hv5];first | done | rfl,Nat.zero_le _,by simpa [stepN] using hO,hFr⟩ ?_
 clear hO hFr hv5
 rintro n tm3 s3 ⟨w,hv,hn1,hO,hFr⟩ hS
 simp only [List.map_cons,List.map_nil,List.cons.injEq,and_true] at hv
 obtain ⟨hv7,hv5⟩ := hv
 have hl3 : tm3.length = 76 := (by rw [hS.1];simp only [put_len,hl2]);have k1 : tg tm3 1 = .ptr st.heap.length 0 := (by rw [hS.2 1 (by decide)];simp only [↓reduceIte,go_sem,hl2,j1,j3,hv6]);have k3 : tg tm3 3 = v := (by rw [hS.2 3 (by decide)];simp only [↓reduceIte,go_sem,hl2,j1,j3,hv6]);have k6 : tg tm3 6 = iv k := (by rw [hS.2 6 (by decide)];simp only [↓reduceIte,go_sem,hl2,j1,j3,hv6]);clear hS
 have b1 : hp s3 st.heap.length = some (.var [iv c.room,iv c.depth,F]) := (hFr.old _ (by omega)).trans (by simp only [↓reduceIte,go_sem])
 have m1 := hp_lt b1
 have w1 := hFr.len
 have w2 := hFr.lo
 have w3 := hFr.up
 simp only [lo_push,len_push] at w1 w2 w3
 refine go (bw9 hl3 hv7 k1 b1 (neL m1) (neA m1) (ltL m1) (ltA m1) m1) fnil ?_
 refine ⟨decide ((n : Int) < c.depth),by simp only [↓reduceIte,go_sem,hl3],fun hb => ?_,fun hb1 => ?_⟩
 ·have hlt := of_decide_eq_false hb
  obtain rfl : n = d := by omega
  rw [← hdN,← hsk] at hO
  refine go (bw3 hl3 k6 hw2) fnil ?_
  exact ⟨w,by simp only [↓reduceIte,go_sem,hl3,hv5],by omega,hO,hFr⟩
 have hltn : n < d := by have := of_decide_eq_true hb1;omega
 have hw3 : IntKind.wrap .i64 ((n : Int) + 1) = ((n + 1 : Nat) : Int) := wrap_nat (n := n + 1) (by omega)
 have hsl := step_len c (allT c i)[k] n
 have hsu := stepN_succ c (allT c i)[k] n
 refine ⟨by omega,?_⟩
 refine go (bw7 hl3 hv7 k1 k3 k6 ec ei) fnil ?_
 refine wops_append (m := s3.heap.length) rfl rfl (by simp only [↓reduceIte,go_sem,hl3];first | done | rfl) (by simp only [↓reduceIte,go_sem,hl3];first | done | rfl) .nil (el_sl (allT c i)[k]).sl (Nat.le_refl _) (flatMap_len (fun _ _ => rfl)) (encI_cell _) (by simp only [maxList];omega) ?_
 intro u1 s4 hU1 hF1 hg1
 rw [encI_share,List.nil_append,Nat.zero_add] at hU1
 have x1 := hF1.len
 have x2 := hF1.lo
 have x3 := hF1.up
 refine go (bw hl3 hv7) fnil ?_
 refine wops_append (m := s3.heap.length) rfl rfl (by simp only [↓reduceIte,go_sem,hl3];first | done | rfl) (by simp only [↓reduceIte,go_sem,hl3];first | done | rfl) hU1.push rfl (by simp only [len_push];omega) (by rfl) (by rfl) (by simp only [maxList];omega) ?_
 intro u2 s5 hU2 hF2 hg2
 have y1 := hF2.len
 have y2 := hF2.lo
 have y3 := hF2.up
 simp only [lo_push,len_push] at y1 y2 y3
 have hF5 : Fr s3.heap.length s3 s5 := (hF1.push (by omega)).trans hF2
 have hx5 : HExt s3.heap s5.heap := hF5.hext
 have b5 := hx5.hp b1
 have m5 := hp_lt b5
 have hO5 := hO.hext hx5
 have hFr5 : Fr (st.heap.length + 1) (({ heap := st.heap,lo := st.heap.length } : St).push (.var [iv c.room,iv c.depth,F])) s5 := hFr.trans (hF5.mono (by omega))
 have hql : ((allT c i)[k] ++ [(n : Int)]).length = i + 1 := by simp [hap.1]
 have hU : SlOf 1 encI u2 ((allT c i)[k] ++ [(n : Int)]) := SlOf.of_sl hU2.sl (by simp) (by simp [share_int]) (fun _ => rfl)
 have hsh : u2.share = elL ((allT c i)[k] ++ [(n : Int)]) := share_own hU2 (by simp) (by simp [share_int]) (by simp)
 have uc := hU.cells
 have ui := hU.isCell
 have q28 := k28 c F u2 ((allT c i)[k] ++ [(n : Int)]) n hF hU hc (by omega)
 have q85 := c85 c F u2 ((allT c i)[k] ++ [(n : Int)]) hF hU hlen (by omega) (by omega)
 have eg : growB c (allT c i)[k] n = (decide ((layerL c.figs ((allT c i)[k] ++ [(n : Int)]) n).sum ≤ c.room) && lastB c ((allT c i)[k] ++ [(n : Int)])) := rfl
 cases a1 : decide ((layerL c.figs ((allT c i)[k] ++ [(n : Int)]) n).sum ≤ c.room)
 ·rw [a1,Bool.false_and] at eg
  rw [eg] at hsu
  simp only [Bool.false_eq_true,if_false,List.append_nil] at hsu
  refine go (bw15 hl3 hv7 k1 b5 (neL m5) (neA m5) (ltL m5) (ltA m5) m5 hFc hFi uc ui a1 hw3) (bw q28 fnil) ?_
  exact ⟨w,by simp only [↓reduceIte,go_sem,hl3,hv5],by omega,by rw [hsu];exact hO5,hFr5⟩
 ·rw [a1,Bool.true_and] at eg
  cases a2 : lastB c ((allT c i)[k] ++ [(n : Int)])
  ·rw [a2] at eg q85
   rw [eg] at hsu
   simp only [Bool.false_eq_true,if_false,List.append_nil] at hsu
   refine go (bw15 hl3 hv7 k1 b5 (neL m5) (neA m5) (ltL m5) (ltA m5) m5 hFc hFi uc ui a1 hw3) (bw3 q28 q85 fnil) ?_
   exact ⟨w,by simp only [↓reduceIte,go_sem,hl3,hv5],by omega,by rw [hsu];exact hO5,hFr5⟩
  ·rw [a2] at eg q85
   rw [eg] at hsu
   simp only [if_true] at hsu
   refine go (bw15 hl3 hv7 hv5 k1 b5 (neL m5) (neA m5) (ltL m5) (ltA m5) m5 hFc hFi uc ui a1) (bw3 q28 q85 fnil) ?_
   refine wops_append (m := st.heap.length + 1) rfl rfl (by simp only [↓reduceIte,go_sem,hl3,hv5];first | done | rfl) (by simp only [↓reduceIte,go_sem,hl3];first | done | rfl) hO5.push rfl (by simp only [len_push];omega) (by rfl) (by simp only [List.all_cons,List.all_nil,hsh,el_isCell,Bool.and_true]) (by simp only [maxList,List.length_append];omega) ?_
   intro w' s6 hO' hFr' hk
   refine go (bw3 hl3 hv7 hw3) fnil ?_
   exact ⟨w',by simp only [↓reduceIte,go_sem,hl3],by omega,by rw [hsu];simpa [hsh,el_share,Nat.add_assoc] using hO',(hFr5.push (by omega)).trans hFr'⟩
theorem r34 (c : CL) (F : PV) (hF : SlOf 3 encF F c.figs) (hc : OkL c) (st : St) : ClR EE (.func 34 [] []) [clPV c F] st (fun v st' => SlOf 1 encL v (rightsL c) ∧ Keep st st') := by
 obtain ⟨v,st',h1,h⟩ := c34 c F hF hc st
 exact ⟨v,st',h1,slL h,keepW h.w⟩
end Go.Den.Ch
end
section
namespace Go.Proofs
open Go.Shelf
def Tryz.lays156_ren : Go.Shelf.Ren := ⟨fun | 156 => 138 | 165 => 151 | 166 => 152 | 169 => 153 | 240 => 156 | 241 => 157 | 276 => 165 | 277 => 166 | n => n,fun | 31 => 125 | 9 => 9 | 3 => 3 | 4 => 4 | 0 => 0 | 20 => 20 | 72 => 164 | 76 => 168 | 70 => 162 | 37 => 89 | 75 => 167 | 127 => 173 | 164 => 182 | 5 => 5 | 80 => 170 | n => n,fun | n => n⟩
theorem Tryz.lays156 : Go.Proofs.Lays.n156 Tryz.prog Tryz.lays156_ren := {
 mixed := by kernel_rfl
 f156 := Tryz.func138.trans (congrArg some (by kernel_rfl))
 f165 := Tryz.func151.trans (congrArg some (by kernel_rfl))
 f166 := Tryz.func152.trans (congrArg some (by kernel_rfl))
 f169 := Tryz.func153.trans (congrArg some (by kernel_rfl))
 f240 := Tryz.func156.trans (congrArg some (by kernel_rfl))
 f241 := Tryz.func157.trans (congrArg some (by kernel_rfl))
 f276 := Tryz.func165.trans (congrArg some (by kernel_rfl))
 f277 := Tryz.func166.trans (congrArg some (by kernel_rfl))
 t0 := Tryz.underlying0
 a0 := Tryz.isAgg0
 z0 := Tryz.sizeOf0
 v0 := Tryz.zeroValue0
 t3 := Tryz.underlying3
 a3 := Tryz.isAgg3
 z3 := Tryz.sizeOf3
 v3 := Tryz.zeroValue3
 t4 := Tryz.underlying4
 a4 := Tryz.isAgg4
 z4 := Tryz.sizeOf4
 v4 := Tryz.zeroValue4
 t9 := Tryz.underlying9
 a9 := Tryz.isAgg9
 z9 := Tryz.sizeOf9
 v9 := Tryz.zeroValue9
 t20 := Tryz.underlying20
 a20 := Tryz.isAgg20
 z20 := Tryz.sizeOf20
 v20 := Tryz.zeroValue20
 t31 := Tryz.underlying125
 a31 := Tryz.isAgg125
 z31 := Tryz.sizeOf125
 v31 := Tryz.zeroValue125
 t37 := Tryz.underlying89
 a37 := Tryz.isAgg89
 z37 := Tryz.sizeOf89
 v37 := Tryz.zeroValue89
 t70 := Tryz.underlying162
 a70 := Tryz.isAgg162
 z70 := Tryz.sizeOf162
 v70 := Tryz.zeroValue162
 t72 := Tryz.underlying164
 a72 := Tryz.isAgg164
 z72 := Tryz.sizeOf164
 v72 := Tryz.zeroValue164
 t75 := Tryz.underlying167
 a75 := Tryz.isAgg167
 z75 := Tryz.sizeOf167
 v75 := Tryz.zeroValue167
 t76 := Tryz.underlying168
 a76 := Tryz.isAgg168
 z76 := Tryz.sizeOf168
 v76 := Tryz.zeroValue168
 t127 := Tryz.underlying173
 a127 := Tryz.isAgg173
 z127 := Tryz.sizeOf173
 v127 := Tryz.zeroValue173
 t164 := Tryz.underlying182
 a164 := Tryz.isAgg182
 z164 := Tryz.sizeOf182
 v164 := Tryz.zeroValue182 }
theorem Tryz.Builder_Extra_156 : Builder.Extra Tryz.prog Tryz.lays156_ren := {
 sizeBuilder := by kernel_rfl
 liesBuilder := by kernel_rfl
 t5 := Tryz.underlying5
 a5 := Tryz.isAgg5
 z5 := Tryz.sizeOf5
 v5 := Tryz.zeroValue5
 infoByte := by kernel_rfl
 cellsByte := by kernel_rfl
 sizeByte := by kernel_rfl
 neB5 := by decide }
open Go.RowKit in
theorem Tryz.strings_Join_none (a : Option Addr) (c : Nat) (sep : ByteArray) (w : World) :
  Calls Tryz.prog 138 #[.slice a 0 c,.string sep] w fun e w' => e = .returned (.string ⟨#[]⟩) ∧ w' = w := Any.strings_Join_none Tryz.lays156 Tryz.Builder_Extra_156 a c sep w
open Go.RowKit in
theorem Tryz.strings_Join (bk o c : Nat) (xs : List ByteArray) (sep : ByteArray) (w : World) (hcells : ∀ (j : Nat) x,xs[j]? = some x → w.cell? ⟨bk,o + j,none⟩ = some (.string x)) (hbk : bk < w.heap.size) (hN : xs.length ≤ 140737488355328) (hcap : xs.length ≤ c) (hlen : (Lib.join (xs.map (·.data.toList)) sep.data.toList).length ≤ 140737488355328) :
  Calls Tryz.prog 138 #[.slice (some ⟨bk,o,none⟩) xs.length c,.string sep] w fun e w' => e = .returned (.string ⟨(Lib.join (xs.map (·.data.toList)) sep.data.toList).toArray⟩) ∧ Below w.heap.size w w' := Any.strings_Join Tryz.lays156 Tryz.Builder_Extra_156 bk o c xs sep w hcells hbk hN hcap hlen
def Tryz.lays171_ren : Go.Shelf.Ren := ⟨fun | 171 => 137 | 243 => 150 | 246 => 155 | 283 => 161 | 284 => 162 | 285 => 163 | 286 => 164 | 129 => 172 | 317 => 171 | 318 => 173 | 319 => 174 | 320 => 175 | 337 => 181 | 338 => 182 | n => n,fun | 3 => 3 | 9 => 9 | 2 => 2 | 4 => 4 | 171 => 176 | 0 => 0 | 53 => 177 | 37 => 89 | 5 => 5 | 173 => 180 | 212 => 191 | 51 => 192 | 20 => 20 | 213 => 193 | 46 => 194 | 232 => 203 | 233 => 204 | n => n,fun | 17 => 0 | 18 => 4 | 19 => 5 | n => n⟩
theorem Tryz.lays171 : Go.Proofs.Lays.n171 Tryz.prog Tryz.lays171_ren := {
 mixed := by kernel_rfl
 f129 := Tryz.func172.trans (congrArg some (by kernel_rfl))
 f171 := Tryz.func137.trans (congrArg some (by kernel_rfl))
 f243 := Tryz.func150.trans (congrArg some (by kernel_rfl))
 f246 := Tryz.func155.trans (congrArg some (by kernel_rfl))
 f283 := Tryz.func161.trans (congrArg some (by kernel_rfl))
 f284 := Tryz.func162.trans (congrArg some (by kernel_rfl))
 f285 := Tryz.func163.trans (congrArg some (by kernel_rfl))
 f286 := Tryz.func164.trans (congrArg some (by kernel_rfl))
 f317 := Tryz.func171.trans (congrArg some (by kernel_rfl))
 f318 := Tryz.func173.trans (congrArg some (by kernel_rfl))
 f319 := Tryz.func174.trans (congrArg some (by kernel_rfl))
 f320 := Tryz.func175.trans (congrArg some (by kernel_rfl))
 f337 := Tryz.func181.trans (congrArg some (by kernel_rfl))
 f338 := Tryz.func182.trans (congrArg some (by kernel_rfl))
 t0 := Tryz.underlying0
 a0 := Tryz.isAgg0
 z0 := Tryz.sizeOf0
 v0 := Tryz.zeroValue0
 t2 := Tryz.underlying2
 a2 := Tryz.isAgg2
 z2 := Tryz.sizeOf2
 v2 := Tryz.zeroValue2
 t3 := Tryz.underlying3
 a3 := Tryz.isAgg3
 z3 := Tryz.sizeOf3
 v3 := Tryz.zeroValue3
 t4 := Tryz.underlying4
 a4 := Tryz.isAgg4
 z4 := Tryz.sizeOf4
 v4 := Tryz.zeroValue4
 t5 := Tryz.underlying5
 a5 := Tryz.isAgg5
 z5 := Tryz.sizeOf5
 v5 := Tryz.zeroValue5
 t9 := Tryz.underlying9
 a9 := Tryz.isAgg9
 z9 := Tryz.sizeOf9
 v9 := Tryz.zeroValue9
 t20 := Tryz.underlying20
 a20 := Tryz.isAgg20
 z20 := Tryz.sizeOf20
 v20 := Tryz.zeroValue20
 t37 := Tryz.underlying89
 a37 := Tryz.isAgg89
 z37 := Tryz.sizeOf89
 v37 := Tryz.zeroValue89
 t46 := Tryz.underlying194
 a46 := Tryz.isAgg194
 z46 := Tryz.sizeOf194
 v46 := Tryz.zeroValue194
 t51 := Tryz.underlying192
 a51 := Tryz.isAgg192
 z51 := Tryz.sizeOf192
 v51 := Tryz.zeroValue192
 t53 := Tryz.underlying177
 a53 := Tryz.isAgg177
 z53 := Tryz.sizeOf177
 v53 := Tryz.zeroValue177
 t171 := Tryz.underlying176
 a171 := Tryz.isAgg176
 z171 := Tryz.sizeOf176
 v171 := Tryz.zeroValue176
 t173 := Tryz.underlying180
 a173 := Tryz.isAgg180
 z173 := Tryz.sizeOf180
 v173 := Tryz.zeroValue180
 t212 := Tryz.underlying191
 a212 := Tryz.isAgg191
 z212 := Tryz.sizeOf191
 v212 := Tryz.zeroValue191
 t213 := Tryz.underlying193
 a213 := Tryz.isAgg193
 z213 := Tryz.sizeOf193
 t232 := Tryz.underlying203
 a232 := Tryz.isAgg203
 z232 := Tryz.sizeOf203
 v232 := Tryz.zeroValue203
 t233 := Tryz.underlying204
 a233 := Tryz.isAgg204
 z233 := Tryz.sizeOf204
 v233 := Tryz.zeroValue204
 g17 := by kernel_rfl
 g18 := by kernel_rfl
 g19 := by kernel_rfl }
open Go.RowKit Go.Sort Go.Lib in
theorem Tryz.strconv_Itoa_small (i : Nat) (hi : i < 100) (w : World) :
  Calls Tryz.prog 137 #[.int .i64 i] w fun e w' => e = .returned (.string ⟨(Lib.decDigits i).toArray⟩) ∧ w' = w := Any.strconv_Itoa_small Tryz.lays171 i hi w
def Tryz.lays146_ren : Go.Shelf.Ren := ⟨fun | 146 => 139 | 221 => 154 | 268 => 158 | 138 => 159 | 143 => 160 | 195 => 167 | 197 => 168 | 218 => 169 | 219 => 170 | 260 => 176 | 217 => 177 | 225 => 178 | 224 => 179 | 267 => 180 | 266 => 183 | 314 => 184 | n => n,fun | 9 => 9 | 31 => 125 | 3 => 3 | 4 => 4 | 0 => 0 | 105 => 186 | 21 => 21 | 5 => 5 | 46 => 194 | 119 => 197 | 139 => 200 | 138 => 199 | 146 => 201 | 51 => 192 | n => n,fun | 1 => 1 | 3 => 2 | 4 => 3 | n => n⟩
theorem Tryz.lays146 : Go.Proofs.Lays.n146 Tryz.prog Tryz.lays146_ren := {
 mixed := by kernel_rfl
 f138 := Tryz.func159.trans (congrArg some (by kernel_rfl))
 f143 := Tryz.func160.trans (congrArg some (by kernel_rfl))
 f146 := Tryz.func139.trans (congrArg some (by kernel_rfl))
 f195 := Tryz.func167.trans (congrArg some (by kernel_rfl))
 f197 := Tryz.func168.trans (congrArg some (by kernel_rfl))
 f217 := Tryz.func177.trans (congrArg some (by kernel_rfl))
 f218 := Tryz.func169.trans (congrArg some (by kernel_rfl))
 f219 := Tryz.func170.trans (congrArg some (by kernel_rfl))
 f221 := Tryz.func154.trans (congrArg some (by kernel_rfl))
 f224 := Tryz.func179.trans (congrArg some (by kernel_rfl))
 f225 := Tryz.func178.trans (congrArg some (by kernel_rfl))
 f260 := Tryz.func176.trans (congrArg some (by kernel_rfl))
 f266 := Tryz.func183.trans (congrArg some (by kernel_rfl))
 f267 := Tryz.func180.trans (congrArg some (by kernel_rfl))
 f268 := Tryz.func158.trans (congrArg some (by kernel_rfl))
 f314 := Tryz.func184.trans (congrArg some (by kernel_rfl))
 t0 := Tryz.underlying0
 a0 := Tryz.isAgg0
 z0 := Tryz.sizeOf0
 v0 := Tryz.zeroValue0
 t3 := Tryz.underlying3
 a3 := Tryz.isAgg3
 z3 := Tryz.sizeOf3
 v3 := Tryz.zeroValue3
 t4 := Tryz.underlying4
 a4 := Tryz.isAgg4
 z4 := Tryz.sizeOf4
 v4 := Tryz.zeroValue4
 t5 := Tryz.underlying5
 a5 := Tryz.isAgg5
 z5 := Tryz.sizeOf5
 v5 := Tryz.zeroValue5
 t9 := Tryz.underlying9
 a9 := Tryz.isAgg9
 z9 := Tryz.sizeOf9
 v9 := Tryz.zeroValue9
 t21 := Tryz.underlying21
 a21 := Tryz.isAgg21
 z21 := Tryz.sizeOf21
 v21 := Tryz.zeroValue21
 t31 := Tryz.underlying125
 a31 := Tryz.isAgg125
 z31 := Tryz.sizeOf125
 v31 := Tryz.zeroValue125
 t46 := Tryz.underlying194
 a46 := Tryz.isAgg194
 z46 := Tryz.sizeOf194
 v46 := Tryz.zeroValue194
 t51 := Tryz.underlying192
 a51 := Tryz.isAgg192
 z51 := Tryz.sizeOf192
 v51 := Tryz.zeroValue192
 t105 := Tryz.underlying186
 a105 := Tryz.isAgg186
 z105 := Tryz.sizeOf186
 v105 := Tryz.zeroValue186
 t119 := Tryz.underlying197
 a119 := Tryz.isAgg197
 z119 := Tryz.sizeOf197
 t138 := Tryz.underlying199
 a138 := Tryz.isAgg199
 z138 := Tryz.sizeOf199
 v138 := Tryz.zeroValue199
 t139 := Tryz.underlying200
 a139 := Tryz.isAgg200
 z139 := Tryz.sizeOf200
 v139 := Tryz.zeroValue200
 t146 := Tryz.underlying201
 a146 := Tryz.isAgg201
 z146 := Tryz.sizeOf201
 v146 := Tryz.zeroValue201
 g1 := by kernel_rfl
 g3 := by kernel_rfl
 g4 := by kernel_rfl }
open Go.RowKit Go.Lib in
theorem Tryz.strings_Split (s sep : ByteArray) (m : Int) (w : World) (hs : s.size < 4294967281) (hm : w.cell? ⟨1,0,none⟩ = some (.int .i64 m)) (h1 : 1 ≤ sep.size) :
  Calls Tryz.prog 139 #[.string s,.string sep] w fun e w' =>
   e = .returned (.slice (some ⟨w.heap.size,0,none⟩) (Lib.countB s sep + 1) (Lib.countB s sep + 1)) ∧ w' = w.alloc (.cells ((Lib.splitB sep 0 (Lib.countB s sep) s).map Value.string).toArray 9) := Any.strings_Split Tryz.lays146 (by kernel_rfl) s sep m w hs hm h1
end Go.Proofs
end
section
namespace Go.Den.Ch
open Go.Proofs
def cutS (b : UInt8) : List UInt8 → List (List UInt8)
 | [] => [[]]
 | x :: xs => if x = b then [] :: cutS b xs else match cutS b xs with
  | h :: t => (x :: h) :: t
  | [] => [[x]]
theorem cutS_cons (b : UInt8) (s : List UInt8) : ∃ h t,cutS b s = h :: t := by
 cases s with
 | nil => exact ⟨_,_,rfl⟩
 | cons x xs =>
  simp only [cutS]
  split
  ·exact ⟨_,_,rfl⟩
  ·split <;> exact ⟨_,_,rfl⟩
theorem splitL_cut (b : UInt8) : ∀ (s acc h : List UInt8) (t : List (List UInt8)),cutS b s = h :: t → splitL b acc s = (acc ++ h) :: t
 | [],acc,h,t,e => by simp only [cutS,List.cons.injEq] at e;obtain ⟨rfl,rfl⟩ := e;simp [splitL]
 | x :: xs,acc,h,t,e => by
  obtain ⟨h',t',e'⟩ := cutS_cons b xs
  simp only [cutS,e'] at e
  simp only [splitL]
  split at e
  ·rename_i hx
   rw [if_pos hx]
   simp only [List.cons.injEq] at e
   obtain ⟨rfl,rfl⟩ := e
   rw [splitL_cut b xs [] h' t' e']
   simp
  ·rename_i hx
   rw [if_neg hx]
   simp only [List.cons.injEq] at e
   obtain ⟨rfl,rfl⟩ := e
   rw [splitL_cut b xs (acc ++ [x]) h' t' e']
   simp
theorem splitL_cutS (b : UInt8) (s : List UInt8) : splitL b [] s = cutS b s := by
 obtain ⟨h,t,e⟩ := cutS_cons b s
 rw [splitL_cut b s [] h t e,e];rfl
theorem index_cons (b x : UInt8) (l : List UInt8) : Lib.index (x :: l) [b] = if x = b then 0 else if Lib.index l [b] == -1 then -1 else Lib.index l [b] + 1 := by
 rw [Lib.index]
 by_cases h : x = b
 ·subst h;simp
 ·have : (b == x) = false := by rw [beq_eq_false_iff_ne];exact fun e => h e.symm
  have h2 : ¬ b = x := fun e => h e.symm
  simp [h2,h]
theorem cutS_miss (b : UInt8) : ∀ s : List UInt8,Lib.index s [b] = -1 → cutS b s = [s]
 | [],_ => rfl
 | x :: l,h => by
  rw [index_cons] at h
  split at h
  ·omega
  ·rename_i hx
   have := Lib.index_ge l [b]
   split at h
   ·rename_i h1
    simp only [cutS,if_neg hx,cutS_miss b l (eq_of_beq h1)]
   ·omega
theorem cutS_hit (b : UInt8) : ∀ (s : List UInt8) (i : Nat),Lib.index s [b] = i → cutS b s = s.take i :: cutS b (s.drop (i + 1))
 | [],i,h => by simp [Lib.index] at h
 | x :: l,i,h => by
  rw [index_cons] at h
  split at h
  ·rename_i hx
   have : i = 0 := by omega
   subst this
   simp only [cutS,if_pos hx];rfl
  ·rename_i hx
   split at h
   ·omega
   ·have hg := Lib.index_ge l [b]
    rename_i hn
    have hn' : Lib.index l [b] ≠ -1 := fun e => hn (by rw [e];rfl)
    obtain ⟨j,rfl⟩ : ∃ j,i = j + 1 := ⟨i - 1,by omega⟩
    have ih := cutS_hit b l j (by omega)
    simp only [cutS,if_neg hx,ih]
    rfl
theorem splitK_cut (b : UInt8) : ∀ (n : Nat) (s : List UInt8),s.length < n → Lib.splitK [b] 0 (Lib.countFrom [b] n s) s = cutS b s ∧ (cutS b s).length = Lib.countFrom [b] n s + 1
 | 0,s,h => by omega
 | n + 1,s,h => by
  have hg := Lib.index_ge s [b]
  by_cases hi : Lib.index s [b] = -1
  ·have h1 : (Lib.index s [b] == -1) = true := by rw [hi];rfl
   simp only [Lib.countFrom,h1,if_true,Lib.splitK]
   rw [cutS_miss b s hi]
   exact ⟨rfl,rfl⟩
  ·have h1 : (Lib.index s [b] == -1) = false := by rw [beq_eq_false_iff_ne];exact hi
   obtain ⟨i,e⟩ : ∃ i : Nat,Lib.index s [b] = i := ⟨(Lib.index s [b]).toNat,by omega⟩
   have hc := cutS_hit b s i e
   have hi2 : i < s.length := by
    have := Lib.index_room s [b] (by omega)
    simp at this;omega
   obtain ⟨k1,k2⟩ := splitK_cut b n (s.drop (i + 1)) (by simp;omega)
   have e2 : (Lib.index s [b]).toNat = i := by omega
   simp only [Lib.countFrom,h1,Bool.false_eq_true,if_false,e2,List.length_cons,List.length_nil,Nat.zero_add]
   rw [Nat.add_comm 1]
   simp only [Lib.splitK,h1,Bool.false_eq_true,if_false,e2,List.length_cons,List.length_nil,Nat.zero_add,Nat.add_zero]
   rw [k1,hc]
   exact ⟨rfl,by simp only [List.length_cons];omega⟩
theorem split_data (s sep : ByteArray) (b : UInt8) (hb : unB sep = [b]) : (Lib.splitB sep 0 (Lib.countB s sep) s).map unB = splitL b [] (unB s) ∧ (splitL b [] (unB s)).length = Lib.countB s sep + 1 := by
 have h1 := Lib.splitB_data sep 0 (Lib.countB s sep) s
 have hb' : sep.data.toList = [b] := hb
 have hc : Lib.countB s sep = Lib.countFrom [b] ((unB s).length + 1) (unB s) := by
  show Lib.count s.data.toList sep.data.toList = _
  rw [hb'];rfl
 rw [hc] at h1 ⊢
 rw [hb'] at h1
 obtain ⟨k1,k2⟩ := splitK_cut b ((unB s).length + 1) (unB s) (by omega)
 rw [splitL_cutS]
 exact ⟨h1.trans k1,k2⟩
theorem strs_row {G : Gh} {w : World} {b : Nat} {T : TypeId} : ∀ (l pre : List ByteArray),w.heap[b]? = some (Obj.cells ((pre ++ l).map Value.string).toArray T (0,0)) → VRC G w (l.map PV.str) b pre.length
 | [],pre,h => by simp only [List.map_nil,VRC]
 | s :: l,pre,h => by
  simp only [List.map_cons,VRC]
  refine ⟨⟨.string s,?_,by simp only [VR]⟩,?_⟩
  ·rw [cell_row h];simp
  ·have := strs_row (G := G) l (pre ++ [s]) (by simpa using h)
   simpa using this
theorem encS_map (l : List ByteArray) : (l.map unB).flatMap encS = l.map PV.str := by
 induction l with
 | nil => rfl
 | cons s l ih => rw [List.map_cons,List.flatMap_cons,ih];rfl
theorem strs_low (m : Nat) : ∀ l : List ByteArray,lowL m (l.map PV.str) = true
 | [] => rfl
 | s :: l => by simp only [List.map_cons,lowL,PV.low,strs_low m l,Bool.and_self]
theorem enter137 : Enterable Tryz.prog 137 := ⟨_,Tryz.func137,by kernel_rfl,by kernel_rfl⟩
theorem enter138 : Enterable Tryz.prog 138 := ⟨_,Tryz.func138,by kernel_rfl,by kernel_rfl⟩
theorem enter139 : Enterable Tryz.prog 139 := ⟨_,Tryz.func139,by kernel_rfl,by kernel_rfl⟩
theorem digits_itoa : ∀ i,i < 100 → Lib.decDigits i = itoaL i := by decide +kernel
section
variable {B0 : Nat} {w0 w : World} {G : Gh} {st st' : St} {args : List PV} {avs : List Value} {r : CR}
theorem callR_same (hw : WR Tryz.prog B0 w0 G st.heap w) {v : PV} {u : Value} (hv : VR G w v u) : CallR Tryz.prog B0 w0 G st w (.ret v) st (.returned u) w :=
 ⟨G,hw,Ext.refl _ _ _ _,u,rfl,hv⟩
theorem itoa_ok (h : itoaR st args = some (some (r,st'))) (hw : WR Tryz.prog B0 w0 G st.heap w) (ha : VRL G w args avs) : ∀ n,CallsIn Fence.wide n Tryz.prog 137 avs.toArray w (CallR Tryz.prog B0 w0 G st w r st') := by
 intro n
 unfold itoaR at h
 split at h
 ·rename_i k
  split at h
  ·rename_i hk
   simp only [Option.some.injEq,Prod.mk.injEq] at h
   obtain ⟨rfl,rfl⟩ := h
   obtain ⟨v,vs',rfl,h1,h2⟩ := VRL.cons_iff.1 ha
   rw [VRL.nil_iff.1 h2]
   simp only [VR] at h1
   subst h1
   obtain ⟨i,rfl⟩ : ∃ i : Nat,k = i := ⟨k.toNat,by omega⟩
   refine callsIn_wide.2 ((Tryz.strconv_Itoa_small i (by omega) w).mono ?_)
   rintro e w' ⟨rfl,rfl⟩
   refine callR_same hw ?_
   rw [digits_itoa i (by omega),Int.toNat_natCast]
   simp only [VR]
   rfl
  ·cases h
 ·cases h
theorem strs_eq : ∀ {cs : List PV} {l : List ByteArray},strs cs = some l → cs = l.map PV.str
 | [],l,h => by simp only [strs,Option.some.injEq] at h;subst h;rfl
 | c :: cs,l,h => by
  cases c with
  | str s =>
   simp only [strs,Option.map_eq_some_iff] at h
   obtain ⟨l',h1,rfl⟩ := h
   rw [strs_eq h1];rfl
  | _ => simp [strs] at h
theorem VRC_get {G : Gh} {w : World} : ∀ {cs : List PV} {b off j : Nat} {p : PV},VRC G w cs b off → cs[j]? = some p → ∃ v,w.cell? ⟨b,off + j,none⟩ = some v ∧ VR G w p v
 | [],b,off,j,p,h,hj => by simp at hj
 | c :: cs,b,off,0,p,h,hj => by
  simp only [VRC] at h
  simp only [List.getElem?_cons_zero,Option.some.injEq] at hj
  subst hj
  exact h.1
 | c :: cs,b,off,j + 1,p,h,hj => by
  simp only [VRC] at h
  simp only [List.getElem?_cons_succ] at hj
  obtain ⟨v,h1,h2⟩ := VRC_get h.2 hj
  exact ⟨v,by rw [← h1];congr 2;omega,h2⟩
theorem join_ok (h : joinR st args = some (some (r,st'))) (hw : WR Tryz.prog B0 w0 G st.heap w) (ha : VRL G w args avs) : ∀ n,CallsIn Fence.wide n Tryz.prog 138 avs.toArray w (CallR Tryz.prog B0 w0 G st w r st') := by
 intro n
 unfold joinR at h
 split at h
 ·rename_i o k cs sep
  split at h
  ·rename_i l hl
   split at h
   ·rename_i hk
    simp only [Option.some.injEq,Prod.mk.injEq] at h
    obtain ⟨rfl,rfl⟩ := h
    obtain ⟨v,vs',rfl,h1,h2⟩ := VRL.cons_iff.1 ha
    obtain ⟨v2,vs2,rfl,h3,h4⟩ := VRL.cons_iff.1 h2
    rw [VRL.nil_iff.1 h4]
    simp only [VR] at h1 h3
    subst h3
    obtain ⟨b,off,cap,rfl,hcap,hcm,_,hrow⟩ := h1
    have hcs := strs_eq hl
    have hlen : l.length = k := by rw [hk.1,hcs,List.length_map]
    by_cases h0 : l = []
    ·subst h0
     have hk0 : k = 0 := by rw [← hlen];rfl
     subst hk0
     refine callsIn_wide.2 ((Tryz.strings_Join_none _ cap sep w).mono ?_)
     rintro e w' ⟨rfl,rfl⟩
     refine callR_same hw ?_
     simp only [VR]
     simp [List.intercalate,toB]
    ·have hne : cs ≠ [] := by rw [hcs];simpa using h0
     obtain ⟨m,hm1,hm2⟩ := hcm hne
     have hb := hw.cmLt hm1
     have hj : (Lib.join (l.map (·.data.toList)) sep.data.toList).length ≤ 140737488355328 := by
      have hl2 : ∀ (xs : List ByteArray),(∀ s ∈ xs,s.size ≤ 1000) → (Lib.join (xs.map (·.data.toList)) sep.data.toList).length ≤ xs.length * 2000 := by
       intro xs hxs
       cases xs with
       | nil => simp [Lib.join,List.intercalate]
       | cons x xs =>
        rw [List.map_cons,Lib.join_cons]
        have hx : x.data.toList.length ≤ 1000 := hxs x (by simp)
        have ht : ∀ ys : List ByteArray,(∀ s ∈ ys,s.size ≤ 1000) → (Lib.joinTail sep.data.toList (ys.map (·.data.toList))).length ≤ ys.length * 2000 := by
         intro ys hys
         induction ys with
         | nil => simp [Lib.joinTail]
         | cons y ys ih =>
          have h5 := ih (fun s hs => hys s (by simp [hs]))
          have h6 : y.data.toList.length ≤ 1000 := hys y (by simp)
          have h7 : sep.data.toList.length ≤ 1000 := hk.2.2.1
          simp only [Lib.joinTail,List.map_cons,List.flatten_cons,List.length_append,List.length_cons] at h5 ⊢
          omega
        have h8 := ht xs (fun s hs => hxs s (by simp [hs]))
        simp only [List.length_append,List.length_cons]
        omega
      have h9 := hl2 l (fun s hs => by
       have := List.all_eq_true.1 hk.2.2.2 s hs
       exact of_decide_eq_true this)
      have h10 : l.length * 2000 ≤ 1000 * 2000 := Nat.mul_le_mul_right _ (by omega)
      omega
     have hv := Tryz.strings_Join b off cap l sep w (fun j x hx => by
      obtain ⟨v,h5,h6⟩ := VRC_get (j := j) (p := .str x) hrow (by rw [hcs,List.getElem?_map,hx];rfl)
      simp only [VR] at h6
      rw [h5,h6]) hb (by omega) (by omega) hj
     rw [hlen] at hv
     refine callsIn_wide.2 (hv.mono ?_)
     rintro e w' ⟨rfl,hbl⟩
     have hf : Foreign B0 G w w' (fun _ => False) := .grow hbl.size (fun b hb => hbl.block b hb) ⟨hbl.os,hbl.output⟩
     refine ⟨G,hf.wr hw,Ext.grow hw hf,_,rfl,?_⟩
     simp only [VR]
     rfl
   ·cases h
  ·cases h
 ·cases h
theorem split_ok {m : Int} (hB : 1 < B0) (hm : w0.cell? ⟨1,0,none⟩ = some (.int .i64 m)) (h : splitR st args = some (some (r,st'))) (hw : WR Tryz.prog B0 w0 G st.heap w) (ha : VRL G w args avs) : ∀ n,CallsIn Fence.wide n Tryz.prog 139 avs.toArray w (CallR Tryz.prog B0 w0 G st w r st') := by
 intro n
 unfold splitR at h
 split at h
 ·rename_i s sep
  split at h
  ·rename_i b hb
   split at h
   ·rename_i hk
    simp only [Option.some.injEq,Prod.mk.injEq] at h
    obtain ⟨rfl,rfl⟩ := h
    obtain ⟨v,vs',rfl,h1,h2⟩ := VRL.cons_iff.1 ha
    obtain ⟨v2,vs2,rfl,h3,h4⟩ := VRL.cons_iff.1 h2
    rw [VRL.nil_iff.1 h4]
    simp only [VR] at h1 h3
    subst h1 h3
    have hm' : w.cell? ⟨1,0,none⟩ = some (.int .i64 m) := by
     rw [cell_of_heap (hw.low.2 1 hB)];exact hm
    have hsep : 1 ≤ sep.size := by
     have : (unB sep).length = 1 := by rw [hb];rfl
     have h5 : sep.size = (unB sep).length := rfl
     omega
    refine callsIn_wide.2 ((Tryz.strings_Split s sep m w (by omega) hm' hsep).mono ?_)
    rintro e w' ⟨rfl,rfl⟩
    obtain ⟨d1,d2⟩ := split_data s sep b hb
    rw [d2,← d1,encS_map]
    have hlen : (Lib.splitB sep 0 (Lib.countB s sep) s).length = Lib.countB s sep + 1 := by rw [← d2,← d1,List.length_map]
    obtain ⟨G',k1,k2,k3⟩ := shared_row hw ((Lib.splitB sep 0 (Lib.countB s sep) s).map PV.str) ((Lib.splitB sep 0 (Lib.countB s sep) s).map Value.string).toArray 9 (by simp) (fun m => strs_low m _) (fun G' w' hh => strs_row _ [] (by simpa using hh)) (Lib.countB s sep + 1) (Lib.countB s sep + 1) (Nat.le_refl _)
    exact ⟨G',k1,k2 _,_,rfl,k3⟩
   ·cases h
  ·cases h
 ·cases h
end
end Go.Den.Ch
end

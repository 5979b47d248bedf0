/- Part of the proofs of laws of the package chest. Texts: ChPs, ChPt, ChPu, ChSa, ChSb, ChSc. -/
import Derived.Test.YtoeigapilcgelaaGreatDoorK4Aw
set_option linter.unusedSimpArgs false
set_option linter.unusedVariables false
section
namespace Go.Den.Ch
theorem layersL_app (p : List Int) (x : Int) : layersL (p ++ [x]) = max (layersL p) (x + 1) := by simp only [layersL,List.foldl_append,List.foldl_cons,List.foldl_nil]
theorem layersL_ge {p : List Int} {x : Int} (h : x ∈ p) : x < layersL p := by
 have mono : ∀ (p : List Int) (a : Int),a ≤ p.foldl (fun n x => max n (x + 1)) a := by
  intro p
  induction p with
  | nil => intro a;exact Int.le_refl _
  | cons y p ih => intro a;exact Int.le_trans (Int.le_max_left a (y + 1)) (ih _)
 have : ∀ (p : List Int) (a : Int),x ∈ p → x < p.foldl (fun n x => max n (x + 1)) a := by
  intro p
  induction p with
  | nil => intro a h;cases h
  | cons y p ih =>
   intro a h
   rcases List.mem_cons.1 h with rfl | h
   ·have := mono p (max a (x + 1))
    simp only [List.foldl_cons];omega
   ·exact ih _ h
 exact this p 0 h
def StepOk (c : CL) (l : List Int) (i : Nat) : Prop := 0 ≤ l.getD i 0 ∧ l.getD i 0 ≤ layersL (l.take i) ∧ canB c (ownL (l.take (i + 1)) (l.getD i 0)) = true
theorem take_at {l : List Int} {i : Nat} (h : i < l.length) : l.take (i + 1) = l.take i ++ [l.getD i 0] := by
 rw [List.take_succ_eq_append_getElem h,getD_in h]
theorem mem_chestL {c : CL} {l : List Int} : ∀ (k : Nat) (now : List Int) (many : Nat),layersL now = many → (l ∈ chestL c k now many ↔ l.take now.length = now ∧ l.length = now.length + k ∧ ∀ i,now.length ≤ i → i < l.length → StepOk c l i)
 | 0,now,many,_ => by
  simp only [chestL,List.mem_singleton]
  constructor
  ·rintro rfl
   exact ⟨List.take_length,by omega,fun i h1 h2 => by omega⟩
  ·rintro ⟨h1,h2,_⟩
   rw [← h1,List.take_of_length_le (by omega)]
 | k + 1,now,many,hm => by
  simp only [chestL,List.mem_flatMap,List.mem_range]
  have hlen : ∀ n : Int,(now ++ [n]).length = now.length + 1 := fun n => by simp
  have hmx : ∀ n : Nat,layersL (now ++ [(n : Int)]) = ((max many (n + 1) : Nat) : Int) := fun n => by rw [layersL_app,hm];omega
  constructor
  ·rintro ⟨n,hn,h⟩
   split at h
   ·rename_i hc
    obtain ⟨h1,h2,h3⟩ := (mem_chestL k _ _ (hmx n)).1 h
    rw [hlen] at h1 h2 h3
    have h4 : l.take now.length = now := by
     have := congrArg (List.take now.length) h1
     rw [List.take_take,List.take_append_of_le_length (Nat.le_refl _),List.take_length] at this
     rwa [show min now.length (now.length + 1) = now.length by omega] at this
    have h5 : l.getD now.length 0 = n := by
     have e := take_at (l := l) (i := now.length) (by omega)
     rw [h1,h4] at e
     have := List.append_cancel_left e
     simpa using this.symm
    refine ⟨h4,by omega,fun i hi1 hi2 => ?_⟩
    by_cases hi : i = now.length
    ·subst hi
     refine ⟨by rw [h5];omega,by rw [h5,h4,hm];omega,?_⟩
     rw [h5,h1];exact hc
    ·exact h3 i (by omega) hi2
   ·cases h
  ·rintro ⟨h1,h2,h3⟩
   obtain ⟨a1,a2,a3⟩ := h3 now.length (Nat.le_refl _) (by omega)
   have e := take_at (l := l) (i := now.length) (by omega)
   rw [h1] at e a2
   rw [hm] at a2
   rw [e] at a3
   have en : (((l.getD now.length 0).toNat : Nat) : Int) = l.getD now.length 0 := Int.toNat_of_nonneg a1
   refine ⟨(l.getD now.length 0).toNat,by omega,?_⟩
   rw [en,if_pos a3]
   have hmm := hmx (l.getD now.length 0).toNat
   rw [en] at hmm
   exact (mem_chestL k _ _ hmm).2 ⟨by rw [hlen];exact e,by rw [hlen];omega,fun i hi1 hi2 => h3 i (by rw [hlen] at hi1;omega) hi2⟩
theorem chestL_sorted {c : CL} : ∀ (k : Nat) (now : List Int) (many : Nat),layersL now = many → (chestL c k now many).Pairwise (fun a b => bef a b = true)
 | 0,now,many,_ => List.pairwise_singleton _ _
 | k + 1,now,many,hm => by
  have hmx : ∀ n : Nat,layersL (now ++ [(n : Int)]) = ((max many (n + 1) : Nat) : Int) := fun n => by rw [layersL_app,hm];omega
  refine List.pairwise_flatMap.2 ⟨fun n _ => ?_,List.Pairwise.imp ?_ (List.pairwise_lt_range (n := many + 1))⟩
  ·split
   ·exact chestL_sorted k _ _ (hmx n)
   ·exact List.Pairwise.nil
  ·intro a b hab x hx y hy
   split at hx
   ·split at hy
    ·have h1 := ((mem_chestL k _ _ (hmx a)).1 hx).1
     have h2 := ((mem_chestL k _ _ (hmx b)).1 hy).1
     rw [← List.take_append_drop (now ++ [(a : Int)]).length x,h1,← List.take_append_drop (now ++ [(b : Int)]).length y,h2]
     simp only [List.append_assoc,List.singleton_append]
     exact bef_lt (by omega)
    ·cases hy
   ·cases hx
structure Valid (c : CL) (l : List Int) : Prop where
 len : l.length = c.figs.length
 rgs : ∀ i < l.length,0 ≤ l.getD i 0 ∧ l.getD i 0 ≤ layersL (l.take i)
 can : ∀ x,0 ≤ x → x < layersL l → canB c (ownL l x) = true
theorem ownL_snoc (l : List Int) (y x : Int) : ownL (l ++ [y]) x = ownL l x ++ (if y = x then [(l.length : Int)] else []) := by
 unfold ownL
 rw [List.length_append,List.length_singleton,castL_succ]
 have e1 : ((List.range l.length).filter fun i => (l ++ [y]).getD i 0 == x) = (List.range l.length).filter fun i => l.getD i 0 == x := by
  refine List.filter_congr fun i hi => ?_
  rw [List.mem_range] at hi
  rw [List.getD_eq_getElem?_getD,List.getElem?_append_left hi,← List.getD_eq_getElem?_getD]
 have e2 : (l ++ [y]).getD l.length 0 = y := by rw [List.getD_eq_getElem?_getD,List.getElem?_append_right (Nat.le_refl _)];simp
 rw [e1,e2]
 by_cases h : y = x
 ·simp [h]
 ·simp [h]
theorem steps_can {c : CL} {l : List Int} (h : ∀ i < l.length,StepOk c l i) : ∀ i,i ≤ l.length → ∀ x,0 ≤ x → x < layersL (l.take i) → canB c (ownL (l.take i) x) = true
 | 0,_,x,h0,hx => by
  have : layersL (l.take 0) = 0 := rfl
  omega
 | i + 1,hi,x,h0,hx => by
  obtain ⟨a1,a2,a3⟩ := h i (by omega)
  by_cases hy : l.getD i 0 = x
  ·rw [hy] at a3;exact a3
  ·rw [take_at (show i < l.length by omega)] at hx ⊢
   rw [layersL_app] at hx
   rw [ownL_snoc,if_neg hy,List.append_nil]
   exact steps_can h i (by omega) x h0 (by omega)
theorem valid_iff {c : CL} (hA : listB c = true) {l : List Int} : l ∈ chestsX c ↔ Valid c l := by
 rw [chestsX,mem_chestL _ [] 0 rfl]
 simp only [List.length_nil,List.take_zero,true_and,Nat.zero_add,Nat.zero_le,true_implies]
 constructor
 ·rintro ⟨h1,h2⟩
  refine ⟨h1,fun i hi => ⟨(h2 i hi).1,(h2 i hi).2.1⟩,fun x h0 hx => ?_⟩
  have := steps_can h2 l.length (Nat.le_refl _) x h0 (by rw [List.take_length];exact hx)
  rwa [List.take_length] at this
 ·intro h
  refine ⟨h.len,fun i hi => ?_⟩
  obtain ⟨a1,a2⟩ := h.rgs i hi
  have hx : l.getD i 0 < layersL l := layersL_ge (by rw [getD_in hi];exact List.getElem_mem _)
  refine ⟨a1,a2,sub_law (OkL.of hA) (room_pos hA) (ownL_ok _ _ (by rw [List.length_take];have := h.len;omega)) (ownL_ok l (l.getD i 0) (by have := h.len;omega)) (fun y hy => ?_) (h.can _ a1 hx)⟩
  obtain ⟨k,hk,rfl⟩ := mem_castL hy
  rw [List.mem_filter,List.mem_range,List.length_take] at hk
  refine mem_cast.2 ⟨by omega,?_⟩
  have e : (l.take (i + 1)).getD k 0 = l.getD k 0 := by rw [List.getD_eq_getElem?_getD,List.getD_eq_getElem?_getD,List.getElem?_take,if_pos (by omega)]
  rw [e] at hk
  exact hk.2
theorem chests_sorted (c : CL) : (chestsX c).Pairwise (fun a b => bef a b = true) := chestL_sorted _ _ _ rfl
def rgsP (l : List Int) (i : Nat) : Bool := decide (0 ≤ l.getD i 0) && decide (l.getD i 0 ≤ layersL (l.take i))
def ownsB (c : CL) (l : List Int) (n : Nat) : Bool := (List.range n).all fun (k : Nat) => canB c (ownL l k)
def splitB (c : CL) (l : List Int) : Bool := decide (l.length = c.figs.length) && ((List.range l.length).all (rgsP l) && ownsB c l (layersL l).toNat)
theorem split_iff {c : CL} {l : List Int} : splitB c l = true ↔ Valid c l := by
 simp only [splitB,ownsB,Bool.and_eq_true,decide_eq_true_eq,List.all_eq_true,List.mem_range,rgsP]
 constructor
 ·rintro ⟨h1,h2,h3⟩
  refine ⟨h1,h2,fun x h0 hx => ?_⟩
  have := h3 x.toNat (by omega)
  rwa [Int.toNat_of_nonneg h0] at this
 ·intro h
  exact ⟨h.len,h.rgs,fun k hk => h.can k (by omega) (by omega)⟩
theorem rgs_bound {l : List Int} (h : ∀ i < l.length,rgsP l i = true) : ∀ i,i ≤ l.length → layersL (l.take i) ≤ i
 | 0,_ => Int.le_refl _
 | i + 1,hi => by
  have h1 := h i (by omega)
  simp only [rgsP,Bool.and_eq_true,decide_eq_true_eq] at h1
  have := rgs_bound h i (by omega)
  rw [take_at (show i < l.length by omega),layersL_app]
  omega
theorem rgs_in {l : List Int} {n : Nat} (hn : n ≤ l.length) (h : ∀ i < n,rgsP l i = true) : ∀ x ∈ l.take n,0 ≤ x ∧ x ≤ n := fun x hx => by
 obtain ⟨i,hi,rfl⟩ := List.getElem_of_mem hx
 rw [List.length_take] at hi
 have h1 := h i (by omega)
 have h2 := rgs_bound (l := l.take n) (fun j hj => by
  rw [List.length_take] at hj
  have := h j (by omega)
  have e : (l.take n).getD j 0 = l.getD j 0 := by rw [List.getD_eq_getElem?_getD,List.getD_eq_getElem?_getD,List.getElem?_take,if_pos (by omega)]
  simp only [rgsP,e,List.take_take,show min j n = j by omega] at this ⊢
  exact this) i (by rw [List.length_take];omega)
 rw [List.take_take,show min i n = i by omega] at h2
 simp only [rgsP,Bool.and_eq_true,decide_eq_true_eq] at h1
 rw [List.getElem_take]
 rw [getD_in (show i < l.length by omega)] at h1
 omega
set_option maxHeartbeats 4000000 in
theorem r105 (F : PV) (l : List Int) (n : Int) (hF : SlOf 1 encI F l) (hN : l.length < 1000) (st : St) : ClR EE (.func 105 [] []) [F,iv n] st (RetS st 1 (ownL l n).length ((ownL l n).flatMap encI)) := by
 have hFs := hF.slen
 refine clr_fn (pr105 · _ _) fn105 2 rfl (by decide) (fun tm hl hg => ?_);have h0 : tg tm 0 = F := (hg 0 (by decide));have h1 : tg tm 1 = iv n := (hg 1 (by decide));clear hg
 refine go (bw3 hl h0 h1) fnil ?_
 refine wp_for [6,5] (fun i vs s => ∃ v,vs = [iv i,v] ∧ i ≤ l.length ∧ OwnS st.heap.length s 1 v (castL ((List.range i).filter fun k => l.getD k 0 == n)).length ((castL ((List.range i).filter fun k => l.getD k 0 == n)).flatMap encI) ∧ Fr st.heap.length ({ heap := st.heap,lo := st.heap.length } : St) s) (fun i => l.length - i) ⟨_,by simp only [↓reduceIte,go_sem,hl];first | done | rfl,Nat.zero_le _,.nil,.refl _ _⟩ ?_
 rintro i tm2 st2 ⟨v,hv2,hi,hO,hFr⟩ hS
 simp only [List.map_cons,List.map_nil,List.cons.injEq,and_true] at hv2
 obtain ⟨hv6,hv5⟩ := hv2
 have hl2 : tm2.length = 24 := (by rw [hS.1];simp only [put_len,hl]);have j0 : tg tm2 0 = F := (by rw [hS.2 0 (by decide)];simp only [↓reduceIte,go_sem,hl,h0,h1]);have j1 : tg tm2 1 = iv n := (by rw [hS.2 1 (by decide)];simp only [↓reduceIte,go_sem,hl,h0,h1]);clear hS
 have w1 := hFr.len
 have w2 := hFr.lo
 simp only at w1 w2
 refine go (bw4 hl2 hv6 j0 hFs) fnil ?_
 refine ⟨decide ((i : Int) < l.length),by simp only [↓reduceIte,go_sem,hl2],fun hb => ?_,fun hb1 => ?_⟩
 ·have hlt := of_decide_eq_false hb
  obtain rfl : i = l.length := by omega
  refine go (bw hl2 hv5) fnil ?_
  exact fnr_ret (results_one (v := v) (by rw [rdRes_tmp];simp only [↓reduceIte,go_sem,hl2])) (hO.finish (by omega) (fun m c hc => encI_low _ m c hc))
 have hlt : i < l.length := by have := of_decide_eq_true hb1;omega
 have hw1 : IntKind.wrap .i64 ((i : Int) + 1) = ((i + 1 : Nat) : Int) := wrap_nat (n := i + 1) (by omega)
 refine ⟨by omega,?_⟩
 rw [castL_succ]
 have hll := castL_len (fun k => l.getD k 0 == n) i
 rw [getD_in hlt]
 cases hx : (l[i] == n)
 ·refine go (bw7 hl2 j0 j1 hv6 hv5 hx hw1) fnil ?_
  exact ⟨v,by simp only [↓reduceIte,go_sem,hl2,hv5],by omega,by simpa using hO,hFr⟩
 ·refine go (bw6 hl2 j0 j1 hv6 hv5 hx) fnil ?_
  refine wops_append rfl rfl (by simp only [↓reduceIte,go_sem,hl2,hv5];first | done | rfl) (by simp only [↓reduceIte,go_sem,hl2,hv5];first | done | rfl) (hO.push) rfl (by first | omega | (simp only [len_push,len_setVar];omega)) (by rfl) (by rfl) (by simp only [maxList];omega) ?_
  intro v' st3 hO' hFr' hk
  refine go (bw3 hl2 hv6 hw1) fnil ?_
  exact ⟨v',by simp only [↓reduceIte,go_sem,hl2],by omega,by simpa [share_int] using hO',(hFr.push (by omega)).trans hFr'⟩
def layersW (p : List Int) : Int := p.foldl (fun n x => max n (IntKind.wrap .i64 (x + 1))) 0
end Go.Den.Ch
end
section
namespace Go.Den.Ch
end Go.Den.Ch
end
section
namespace Go.Den.Ch
theorem castR_lay : ∀ n : Nat,layersL (castL (List.range n)) = n
 | 0 => rfl
 | n + 1 => by
  have : castL (List.range (n + 1)) = castL (List.range n) ++ [(n : Int)] := by rw [List.range_succ];simp [castL]
  rw [this,layersL_app,castR_lay n];omega
def aloneB (c : CL) (n : Nat) : Bool := (List.range n).any fun (k : Nat) => !canB c [(k : Int)]
theorem valid_in {c : CL} {l : List Int} (h : Valid c l) : ∀ x ∈ l,0 ≤ x ∧ x ≤ l.length := fun x hx => by
 have := rgs_in (l := l) (n := l.length) (Nat.le_refl _) (fun i hi => by
  have := h.rgs i hi
  simp only [rgsP,Bool.and_eq_true,decide_eq_true_eq];exact this) x (by rw [List.take_length];exact hx)
 exact this
end Go.Den.Ch
end
section
namespace Go.Den.Ch
theorem sorted_ext : ∀ {a b : List (List Int)},a.Pairwise (fun x y => bef x y = true) → b.Pairwise (fun x y => bef x y = true) → (∀ x,x ∈ a ↔ x ∈ b) → a = b
 | [],[],_,_,_ => rfl
 | [],y :: b,_,_,h => by have := (h y).2 (by simp);cases this
 | x :: a,[],_,_,h => by have := (h x).1 (by simp);cases this
 | x :: a,y :: b,ha,hb,h => by
  rw [List.pairwise_cons] at ha hb
  have hxy : x = y := by
   rcases List.mem_cons.1 ((h x).1 (by simp)) with e | h1
   ·exact e
   ·rcases List.mem_cons.1 ((h y).2 (by simp)) with e | h2
    ·exact e.symm
    ·have a1 := hb.1 x h1
     have a2 := bef_asym _ _ (ha.1 y h2)
     rw [a1] at a2;cases a2
  subst hxy
  have ne : ∀ {l : List (List Int)},(∀ z ∈ l,bef x z = true) → x ∉ l := fun hl hx => by
   have := hl x hx
   rw [bef_irr] at this;cases this
  rw [sorted_ext ha.2 hb.2 fun z => ?_]
  constructor
  ·intro hz
   rcases List.mem_cons.1 ((h z).1 (by simp [hz])) with e | h1
   ·rw [e] at hz;exact absurd hz (ne ha.1)
   ·exact h1
  ·intro hz
   rcases List.mem_cons.1 ((h z).2 (by simp [hz])) with e | h1
   ·rw [e] at hz;exact absurd hz (ne hb.1)
   ·exact h1
theorem bef_both : ∀ {a b s t : List Int},a.length = b.length → bef a b = true → bef (a ++ s) (b ++ t) = true
 | [],[],_,_,_,h => by cases h
 | x :: a,y :: b,s,t,hl,h => by
  simp only [List.cons_append,bef] at h ⊢
  split at h
  ·rename_i e;rw [if_pos e];exact bef_both (by simpa using hl) h
  ·rename_i e;rw [if_neg e];exact h
def lastP (c : CL) (p : List Int) (r i : Nat) : Bool := brk c p r i (p.length - 1) || brk c p r (p.length - 1) i
def lastB (c : CL) (p : List Int) : Bool := (List.range (p.length - 1)).all fun i => (List.range 2).all fun r => !lastP c p r i
def growB (c : CL) (q : List Int) (n : Nat) : Bool := decide ((layerL c.figs (q ++ [(n : Int)]) n).sum ≤ c.room) && lastB c (q ++ [(n : Int)])
def stepN (c : CL) (q : List Int) (m : Nat) : List (List Int) := ((List.range m).filter (growB c q)).map fun (n : Nat) => q ++ [(n : Int)]
def allT (c : CL) : Nat → List (List Int)
 | 0 => [[]]
 | i + 1 => (allT c i).flatMap fun q => stepN c q c.depth.toNat
def allL (c : CL) : List (List Int) := (allT c c.figs.length).filter fun p => (fault c p).isNone
theorem mem_step {c : CL} {q p : List Int} {m : Nat} : p ∈ stepN c q m ↔ ∃ n : Nat,n < m ∧ growB c q n = true ∧ p = q ++ [(n : Int)] := by
 unfold stepN
 rw [List.mem_map]
 constructor
 ·rintro ⟨n,hn,rfl⟩
  rw [List.mem_filter,List.mem_range] at hn
  exact ⟨n,hn.1,hn.2,rfl⟩
 ·rintro ⟨n,h1,h2,rfl⟩
  exact ⟨n,by rw [List.mem_filter,List.mem_range];exact ⟨h1,h2⟩,rfl⟩
theorem allT_mem {c : CL} : ∀ {i : Nat} {p : List Int},p ∈ allT c i → p.length = i ∧ ∀ x ∈ p,0 ≤ x ∧ x < c.depth
 | 0,p,h => by
  rw [allT,List.mem_singleton] at h
  subst h
  exact ⟨rfl,fun _ h => by cases h⟩
 | i + 1,p,h => by
  rw [allT,List.mem_flatMap] at h
  obtain ⟨q,hq,h⟩ := h
  obtain ⟨n,h1,_,rfl⟩ := mem_step.1 h
  obtain ⟨h3,h4⟩ := allT_mem hq
  refine ⟨by simp [h3],fun x hx => ?_⟩
  rcases List.mem_append.1 hx with hx | hx
  ·exact h4 x hx
  ·rw [List.mem_singleton.1 hx];omega
theorem step_sorted (c : CL) (q : List Int) (m : Nat) : (stepN c q m).Pairwise (fun a b => bef a b = true) := by
 unfold stepN
 rw [List.pairwise_map]
 exact ((List.pairwise_lt_range (n := m)).filter _).imp fun h => bef_lt (m := []) (n := []) (by omega)
theorem allT_sorted (c : CL) : ∀ i,(allT c i).Pairwise (fun a b => bef a b = true)
 | 0 => List.pairwise_singleton _ _
 | i + 1 => by
  rw [allT]
  refine List.pairwise_flatMap.2 ⟨fun q _ => step_sorted c q _,?_⟩
  refine List.Pairwise.imp_of_mem ?_ (allT_sorted c i)
  intro a b ha hb hab x hx y hy
  obtain ⟨n,_,_,rfl⟩ := mem_step.1 hx
  obtain ⟨m,_,_,rfl⟩ := mem_step.1 hy
  exact bef_both ((allT_mem ha).1.trans (allT_mem hb).1.symm) hab
theorem layerL_cut : ∀ (fs : List Fig) (p : List Int) (n : Int),layerL (fs.take p.length) p n = layerL fs p n
 | [],p,n => by simp [layerL]
 | f :: fs,[],n => by simp [layerL]
 | f :: fs,x :: p,n => by
  simp only [List.length_cons,List.take_succ_cons,layerL]
  rw [layerL_cut fs p n]
theorem layerL_pre {n : Int} : ∀ (fs : List Fig) (p : List Int) (i : Nat),(∀ f ∈ fs,0 ≤ f.size) → (layerL fs (p.take i) n).sum ≤ (layerL fs p n).sum ∧ 0 ≤ (layerL fs p n).sum
 | [],p,i,_ => by simp [layerL]
 | f :: fs,[],i,_ => by simp [layerL]
 | f :: fs,x :: p,0,h => by
  have h1 := h f (by simp)
  have h2 := (layerL_pre (n := n) fs p 0 (fun g hg => h g (by simp [hg]))).2
  simp only [List.take_zero,layerL]
  split
  ·rw [List.sum_cons];simp only [List.sum_nil];omega
  ·simp only [List.sum_nil];omega
 | f :: fs,x :: p,i + 1,h => by
  have h1 := h f (by simp)
  have h2 := layerL_pre (n := n) fs p i (fun g hg => h g (by simp [hg]))
  simp only [List.take_succ_cons,layerL]
  split
  ·rw [List.sum_cons,List.sum_cons];omega
  ·omega
theorem brk_take {c : CL} {p : List Int} {r a b m : Nat} (h : brk c (p.take m) r a b = true) : brk c p r a b = true := by
 unfold brk at h
 split at h
 ·rename_i x y f g e1 e2 e3 e4
  have t : ∀ {k : Nat} {z : Int},(p.take m)[k]? = some z → p[k]? = some z := fun {k z} e => by
   rw [List.getElem?_take] at e
   split at e
   ·exact e
   ·cases e
  unfold brk
  rw [t e1,t e2,e3,e4]
  exact h
 ·cases h
theorem right_all {c : CL} (hc : OkL c) {p : List Int} (hp : OkP c p) (hf : fault c p = none) : ∀ i,i ≤ p.length → p.take i ∈ allT c i
 | 0,_ => by simp [allT]
 | i + 1,hi => by
  obtain ⟨a1,_,a3,a4⟩ := fault_none hc hf
  have ih := right_all hc hp hf i (by omega)
  have hr := hp.rng _ (List.getElem_mem (show i < p.length by omega))
  have e : p.take (i + 1) = p.take i ++ [p[i]] := List.take_succ_eq_append_getElem (by omega)
  have en : ((p[i].toNat : Nat) : Int) = p[i] := Int.toNat_of_nonneg hr.1
  rw [allT,List.mem_flatMap]
  refine ⟨_,ih,mem_step.2 ⟨p[i].toNat,by omega,?_,by rw [en];exact e⟩⟩
  unfold growB
  rw [en,← e,Bool.and_eq_true,decide_eq_true_eq]
  constructor
  ·have h1 := (layerL_pre (n := p[i]) c.figs p (i + 1) (fun f hf => by have := hc.size hf;omega)).1
   have h2 := a1 p[i] hr.1 hr.2
   unfold sumL at h2
   omega
  ·refine List.all_eq_true.2 fun k hk => List.all_eq_true.2 fun r hr2 => ?_
   rw [List.mem_range] at hr2
   have hno : ∀ a b,brk c p r a b = false := fun a b => by
    have hn : NoDis c p r := by
     have : r = 0 ∨ r = 1 := by omega
     rcases this with rfl | rfl
     ·exact a3
     ·exact a4
    unfold brk
    split
    ·rename_i x y f g e1 e2 e3 e4
     by_cases hxy : x < y
     ·have := hn a b x y f g e1 e2 e3 e4 hxy
      simp [hxy,this]
     ·simp [hxy]
    ·rfl
   have hb : ∀ a b,brk c (p.take (i + 1)) r a b = false := fun a b => by
    cases h : brk c (p.take (i + 1)) r a b with
    | false => rfl
    | true => have := brk_take h;rw [hno] at this;cases this
   simp [lastP,hb]
theorem all_eq {c : CL} (hc : OkL c) : allL c = rightsL c := by
 refine sorted_ext ((allT_sorted c _).filter _) (rights_sorted c) fun p => ?_
 rw [mem_rights,allL,List.mem_filter,Option.isNone_iff_eq_none]
 constructor
 ·rintro ⟨h1,h2⟩
  obtain ⟨h3,h4⟩ := allT_mem h1
  exact ⟨⟨h3,h4⟩,h2⟩
 ·rintro ⟨h1,h2⟩
  have := right_all hc h1 h2 p.length (Nat.le_refl _)
  rw [List.take_length,h1.len] at this
  exact ⟨this,h2⟩
theorem step_len (c : CL) (q : List Int) (m : Nat) : (stepN c q m).length ≤ m := by
 unfold stepN
 rw [List.length_map]
 have := List.length_filter_le (growB c q) (List.range m)
 rwa [List.length_range] at this
theorem flat_len {β γ : Type} {f : β → List γ} {d : Nat} : ∀ l : List β,(∀ q ∈ l,(f q).length ≤ d) → (l.flatMap f).length ≤ l.length * d
 | [],_ => by simp
 | q :: l,h => by
  have := flat_len l (fun x hx => h x (by simp [hx]))
  have := h q (by simp)
  rw [List.flatMap_cons,List.length_append,List.length_cons,Nat.succ_mul];omega
theorem allT_len {c : CL} (hc : OkL c) : ∀ i,i ≤ 6 → (allT c i).length ≤ 5 ^ i
 | 0,_ => by simp [allT]
 | i + 1,hi => by
  rw [allT]
  have h1 := flat_len (f := fun q => stepN c q c.depth.toNat) (d := 5) (allT c i) (fun q _ => by have := step_len c q c.depth.toNat;have := hc.d1;omega)
  have h2 := allT_len hc i (by omega)
  rw [Nat.pow_succ]
  exact Nat.le_trans h1 (Nat.mul_le_mul_right _ h2)
set_option maxHeartbeats 1000000 in
theorem k28 (c : CL) (F P : PV) (p : List Int) (n : Int) (hF : SlOf 3 encF F c.figs) (hP : SlOf 1 encI P p) (hc : OkL c) (hpl : p.length ≤ c.figs.length) (st : St) : Cl EE (.func 28 [] []) [clPV c F,P,iv n] st (.ret (iv (layerL c.figs p n).sum)) st := by
 have hFs := hF.slen
 have hFc := hF.cells
 have hs := hP.slen
 have hlen := hc.len
 refine cl_fn (pr28 · _ _) fn28 3 rfl (by decide) (fun tm hl hg => ?_);have h0 : tg tm 0 = clPV c F := (hg 0 (by decide));have h1 : tg tm 1 = P := (hg 1 (by decide));have h2 : tg tm 2 = iv n := (hg 2 (by decide));clear hg
 refine go (bw hl h0) fnil ?_
 refine wp_for [8,7] (fun i vs st' => vs = [iv i,iv (layerL (c.figs.take i) (p.take i) n).sum] ∧ i ≤ p.length ∧ st' = ({ heap := st.heap,lo := st.heap.length } : St).push (.var [iv c.room,iv c.depth,F])) (fun i => p.length - i) ⟨by simp only [↓reduceIte,go_sem,hl];first | done | rfl,Nat.zero_le _,by first | done | rfl⟩ ?_
 rintro i tm1 st1 ⟨hv,hi,rfl⟩ hS
 simp only [List.map_cons,List.map_nil,List.cons.injEq,and_true] at hv
 obtain ⟨hv8,hv7⟩ := hv
 have hl1 : tm1.length = 30 := (by rw [hS.1];simp only [put_len,hl]);have i1 : tg tm1 1 = P := (by rw [hS.2 1 (by decide)];simp only [↓reduceIte,go_sem,hl,h1,h2]);have i2 : tg tm1 2 = iv n := (by rw [hS.2 2 (by decide)];simp only [↓reduceIte,go_sem,hl,h1,h2]);have i3 : tg tm1 3 = .ptr st.heap.length 0 := (by rw [hS.2 3 (by decide)];simp only [↓reduceIte,go_sem,hl,h1,h2]);clear hS
 refine go (bw4 hl1 hv8 i1 hs) fnil ?_
 refine ⟨decide ((i : Int) < p.length),by simp only [↓reduceIte,go_sem,hl1],fun hb => ?_,fun hb1 => ?_⟩
 ·have hlt := of_decide_eq_false hb
  have hin : i = p.length := by omega
  rw [hin,List.take_length,layerL_cut] at hv7
  refine go (bw hl1 hv7) fnil ?_
  refine fnq_flat (results_one (by rw [rdRes_tmp];simp only [↓reduceIte,go_sem,hl1];first | done | rfl)) (by first | exact Nat.le_refl _ | omega | (simp only [lo_push,lo_setVar];omega)) (by rfl)
 ·have hlt : i < p.length := by have := of_decide_eq_true hb1;omega
  have hlf : i < c.figs.length := by omega
  have hw1 : IntKind.wrap .i64 ((i : Int) + 1) = ((i + 1 : Nat) : Int) := wrap_nat (n := i + 1) (by omega)
  have hb0 := layerL_take_bound hc p n i
  have hb2 := layerL_take_bound hc p n (i + 1)
  have htk := layerL_take (n := n) hlf hlt
  refine ⟨by omega,?_⟩
  by_cases hx : p[i] = n
  ·have hd : (p[i] == n) = true := by simp [hx]
   rw [if_pos hx] at htk
   have es : (layerL (c.figs.take (i + 1)) (p.take (i + 1)) n).sum = (layerL (c.figs.take i) (p.take i) n).sum + c.figs[i].size := by rw [htk];simp
   have hw : IntKind.wrap .i64 ((layerL (c.figs.take i) (p.take i) n).sum + c.figs[i].size) = (layerL (c.figs.take (i + 1)) (p.take (i + 1)) n).sum := by
    rw [← es];exact wrap_in (by unfold inI;omega)
   refine go (bw9 hl1 hv8 hv7 i1 i2 i3 hd hw hw1) fnil ?_
   refine ⟨?_,by omega,rfl⟩
   simp only [↓reduceIte,go_sem,hl1]
  ·have hd : (p[i] == n) = false := by simp [hx]
   rw [if_neg hx,List.append_nil] at htk
   refine go (bw8 hl1 hv8 hv7 i1 i2 i3 hd hw1) fnil ?_
   refine ⟨?_,by omega,rfl⟩
   rw [htk]
   simp only [↓reduceIte,go_sem,hl1,hv7]
theorem brk_el {c : CL} {p : List Int} {r a b : Nat} (ha : a < p.length) (hb : b < p.length) (hpl : p.length ≤ c.figs.length) : brk c p r a b = (decide (p[a] < p[b]) && decide (key r c.figs[a] > key r c.figs[b])) := by
 unfold brk
 rw [List.getElem?_eq_getElem ha,List.getElem?_eq_getElem hb,List.getElem?_eq_getElem (show a < c.figs.length by omega),List.getElem?_eq_getElem (show b < c.figs.length by omega)]
theorem last_yes {c : CL} {p : List Int} (h : ∀ i < p.length - 1,∀ r < 2,lastP c p r i = false) : lastB c p = true := List.all_eq_true.2 fun i hi => List.all_eq_true.2 fun r hr => by
 rw [List.mem_range] at hi hr
 rw [h i hi r hr];rfl
theorem last_no {c : CL} {p : List Int} {i r : Nat} (hi : i < p.length - 1) (hr : r < 2) (h : lastP c p r i = true) : lastB c p = false := List.all_eq_false.2 ⟨i,List.mem_range.2 hi,by
 rw [Bool.not_eq_true]
 exact List.all_eq_false.2 ⟨r,List.mem_range.2 hr,by rw [h];simp⟩⟩
set_option maxHeartbeats 8000000 in
theorem c85 (c : CL) (F P : PV) (p : List Int) (hF : SlOf 3 encF F c.figs) (hP : SlOf 1 encI P p) (hlen : c.figs.length ≤ 6) (h0p : 0 < p.length) (hpl : p.length ≤ c.figs.length) (st : St) : Cl EE (.func 85 [] []) [clPV c F,P] st (.ret (.bool (lastB c p))) st := by
 have hFc := hF.cells
 have hFi := hF.isCell
 have hs := hP.slen
 obtain ⟨k,hk⟩ : ∃ k,p.length = k + 1 := ⟨p.length - 1,by omega⟩
 have hwk : IntKind.wrap .i64 ((p.length : Int) - 1) = (k : Int) := by rw [wrap_in (by unfold inI;omega)];omega
 refine cl_fn (pr85 · _ _) fn85 2 rfl (by decide) (fun tm hl hg => ?_);have h0 : tg tm 0 = clPV c F := (hg 0 (by decide));have h1 : tg tm 1 = P := (hg 1 (by decide));clear hg
 refine go (bw5 hl h0 h1 hs hwk) fnil ?_
 refine wp_for [6] (fun i vs s => vs = [iv i] ∧ i ≤ k ∧ (∀ j < i,∀ r < 2,lastP c p r j = false) ∧ s = ({ heap := st.heap,lo := st.heap.length } : St).push (.var [iv c.room,iv c.depth,F])) (fun i => k - i) ⟨by simp only [↓reduceIte,go_sem,hl];first | done | rfl,Nat.zero_le _,(fun j hj => absurd hj (by omega)),by first | done | rfl⟩ ?_
 rintro i tm1 s1 ⟨hv,hi,hok,rfl⟩ hS
 simp only [List.map_cons,List.map_nil,List.cons.injEq,and_true] at hv
 have hl1 : tm1.length = 54 := (by rw [hS.1];simp only [put_len,hl]);have i1 : tg tm1 1 = P := (by rw [hS.2 1 (by decide)];simp only [↓reduceIte,go_sem,hl,h1]);have i2 : tg tm1 2 = .ptr st.heap.length 0 := (by rw [hS.2 2 (by decide)];simp only [↓reduceIte,go_sem,hl,h1]);have i5 : tg tm1 5 = iv k := (by rw [hS.2 5 (by decide)];simp only [↓reduceIte,go_sem,hl,h1]);clear hS
 refine go (bw3 hl1 hv i5) fnil ?_
 refine ⟨decide ((i : Int) < k),by simp only [↓reduceIte,go_sem,hl1],fun hb => ?_,fun hb1 => ?_⟩
 ·have hlt := of_decide_eq_false hb
  rw [last_yes (fun j hj => hok j (by omega))]
  refine go hl1 fnil ?_
  refine fnq_flat (results_one (by rw [rdRes_tmp];simp only [↓reduceIte,go_sem,hl1];first | done | rfl)) (by first | exact Nat.le_refl _ | omega | (simp only [lo_push,lo_setVar];omega)) (by rfl)
 have hlt : i < k := by have := of_decide_eq_true hb1;omega
 have hw1 : IntKind.wrap .i64 ((i : Int) + 1) = ((i + 1 : Nat) : Int) := wrap_nat (n := i + 1) (by omega)
 refine ⟨by omega,?_⟩
 refine go hl1 fnil ?_
 refine wp_for [7] (fun r vs s => vs = [iv (3 + (r : Int))] ∧ r ≤ 2 ∧ (∀ q < r,lastP c p q i = false) ∧ s = ({ heap := st.heap,lo := st.heap.length } : St).push (.var [iv c.room,iv c.depth,F])) (fun r => 2 - r) ⟨by simp only [↓reduceIte,go_sem,hl1];first | done | rfl,Nat.zero_le _,(fun j hj => absurd hj (by omega)),by first | done | rfl⟩ ?_
 rintro r tm2 s2 ⟨hv2,hr,hok2,rfl⟩ hS
 simp only [List.map_cons,List.map_nil,List.cons.injEq,and_true] at hv2
 have hl2 : tm2.length = 54 := (by rw [hS.1];simp only [put_len,hl1]);have j1 : tg tm2 1 = P := (by rw [hS.2 1 (by decide)];simp only [↓reduceIte,go_sem,hl1,i1,i2,i5,hv]);have j2 : tg tm2 2 = .ptr st.heap.length 0 := (by rw [hS.2 2 (by decide)];simp only [↓reduceIte,go_sem,hl1,i1,i2,i5,hv]);have j5 : tg tm2 5 = iv k := (by rw [hS.2 5 (by decide)];simp only [↓reduceIte,go_sem,hl1,i1,i2,i5,hv]);have j6 : tg tm2 6 = iv i := (by rw [hS.2 6 (by decide)];simp only [↓reduceIte,go_sem,hl1,i1,i2,i5,hv]);clear hS
 refine go (bw hl2 hv2) fnil ?_
 refine ⟨decide (3 + (r : Int) ≤ 4),by simp only [↓reduceIte,go_sem,hl2],fun hb => ?_,fun hb1 => ?_⟩
 ·have hr2 := of_decide_eq_false hb
  refine go (bw3 hl2 j6 hw1) fnil ?_
  refine ⟨by simp only [↓reduceIte,go_sem,hl2],by omega,fun j hj q hq => ?_,rfl⟩
  by_cases hji : j = i
  ·subst hji;exact hok2 q (by omega)
  ·exact hok j (by omega) q hq
 have hr2 : r < 2 := by have := of_decide_eq_true hb1;omega
 have hw2 : IntKind.wrap .i64 (3 + (r : Int) + 1) = 3 + ((r + 1 : Nat) : Int) := by rw [wrap_in (by unfold inI;omega)];omega
 have hip : i < p.length := by omega
 have hkp : k < p.length := by omega
 have hrr : (3 + (r : Int) = 3 ∧ r = 0) ∨ (3 + (r : Int) = 4 ∧ r = 1) := by omega
 have q1 := c114 c F hF (3 + (r : Int)) r i k hrr (by omega) (by omega)
 have q2 := c114 c F hF (3 + (r : Int)) r k i hrr (by omega) (by omega)
 have e1 := brk_el (c := c) (r := r) hip hkp hpl
 have e2 := brk_el (c := c) (r := r) hkp hip hpl
 have eL : lastP c p r i = (brk c p r i k || brk c p r k i) := by unfold lastP;rw [hk,Nat.add_sub_cancel]
 rw [e1,e2] at eL
 have hno : lastP c p r i = false → ∀ q < r + 1,lastP c p q i = false := fun h q hq => by
  by_cases hqr : q = r
  ·rw [hqr];exact h
  ·exact hok2 q (by omega)
 refine ⟨by omega,?_⟩
 cases x1 : decide (p[i] < p[k])
 ·rw [x1,Bool.false_and,Bool.false_or] at eL
  cases x2 : decide (p[k] < p[i])
  ·rw [x2,Bool.false_and] at eL
   refine go (bw11 hl2 hv2 j1 j2 j5 j6 x1 x2 hw2 hFc hFi) fnil ?_
   exact ⟨by simp only [↓reduceIte,go_sem,hl2],by omega,hno eL,rfl⟩
  ·rw [x2,Bool.true_and] at eL
   cases x3 : decide (key r c.figs[k] > key r c.figs[i])
   ·rw [x3] at eL q2
    refine go (bw11 hl2 hv2 j1 j2 j5 j6 x1 x2 hw2 hFc hFi) (bw q2 fnil) ?_
    exact ⟨by simp only [↓reduceIte,go_sem,hl2],by omega,hno eL,rfl⟩
   ·rw [x3] at eL q2
    rw [last_no (by omega) hr2 eL]
    refine go (bw11 hl2 hv2 j1 j2 j5 j6 x1 x2 hw2 hFc hFi) (bw q2 fnil) ?_
    refine fnq_flat (results_one (by rw [rdRes_tmp];simp only [↓reduceIte,go_sem,hl2];first | done | rfl)) (by first | exact Nat.le_refl _ | omega | (simp only [lo_push,lo_setVar];omega)) (by rfl)
 ·have x2 : decide (p[k] < p[i]) = false := by have := of_decide_eq_true x1;rw [decide_eq_false_iff_not];omega
  rw [x1,x2,Bool.true_and,Bool.false_and,Bool.or_false] at eL
  cases x3 : decide (key r c.figs[i] > key r c.figs[k])
  ·rw [x3] at eL q1
   refine go (bw11 hl2 hv2 j1 j2 j5 j6 x1 x2 hw2 hFc hFi) (bw q1 fnil) ?_
   exact ⟨by simp only [↓reduceIte,go_sem,hl2],by omega,hno eL,rfl⟩
  ·rw [x3] at eL q1
   rw [last_no (by omega) hr2 eL]
   refine go (bw11 hl2 hv2 j1 j2 j5 j6 x1 x2 hw2 hFc hFi) (bw q1 fnil) ?_
   refine fnq_flat (results_one (by rw [rdRes_tmp];simp only [↓reduceIte,go_sem,hl2];first | done | rfl)) (by first | exact Nat.le_refl _ | omega | (simp only [lo_push,lo_setVar];omega)) (by rfl)
end Go.Den.Ch
end
section
namespace Go.Den
theorem OwnS.hext {m : Nat} {a b : St} {sz : Nat} {v : PV} {n : Nat} {cs : List PV} (h : OwnS m a sz v n cs) (hx : HExt a.heap b.heap) : OwnS m b sz v n cs := ⟨h.1,h.2.imp id fun ⟨t,h2,h3,h4⟩ => ⟨t,h2,h3,hx.hp h4⟩⟩
end Go.Den
namespace Go.Den.Ch
def elL : List Int → PV
 | [] => .nilslice
 | x :: l => .slice .shared (l.length + 1) ((x :: l).flatMap encI)
abbrev encL (p : List Int) : List PV := [elL p]
attribute [go_sem] encL
theorem el_sl (p : List Int) : SlOf 1 encI (elL p) p := by
 cases p with
 | nil => exact .nil
 | cons x l => exact ⟨rfl,fun _ _ => rfl⟩
theorem encI_cell : ∀ p : List Int,(p.flatMap encI).all PV.isCell = true
 | [] => rfl
 | x :: p => by rw [List.flatMap_cons,List.all_append,encI_cell p];rfl
theorem encI_share : ∀ p : List Int,(p.flatMap encI).map PV.share = p.flatMap encI
 | [] => rfl
 | x :: p => by rw [List.flatMap_cons,List.map_append,encI_share p];rfl
theorem el_share (p : List Int) : (elL p).share = elL p := by cases p <;> rfl
theorem el_cells (p : List Int) : (elL p).cells = [elL p] := (el_sl p).cells
theorem el_isCell (p : List Int) : (elL p).isCell = true := (el_sl p).isCell
theorem share_own {m : Nat} {st : St} {u : PV} {p : List Int} {n : Nat} {cs : List PV} (h : OwnS m st 1 u n cs) (hn : n = p.length) (hc : cs = p.flatMap encI) (hp : p ≠ []) : u.share = elL p := by
 subst hn hc
 cases p with
 | nil => exact absurd rfl hp
 | cons x p =>
  rcases h.2 with ⟨h1,_⟩ | ⟨t,rfl,_⟩
  ·simp at h1
  ·rfl
theorem el_low (p : List Int) (m : Nat) : (elL p).low m = true := by
 cases p with
 | nil => rfl
 | cons x l =>
  simp only [elL,PV.low]
  exact lowL_of fun c hc => encI_low _ m c hc
theorem encL_low (l : List (List Int)) (m : Nat) (c : PV) (hc : c ∈ l.flatMap encL) : PV.low m c = true := by
 simp only [List.mem_flatMap,List.mem_singleton] at hc
 obtain ⟨a,_,rfl⟩ := hc
 exact el_low a m
theorem slL {st st' : St} {l : List (List Int)} {v : PV} (h : RetS st 1 l.length (l.flatMap encL) v st') : SlOf 1 encL v l := SlOf.of_sl h.sl rfl rfl (fun _ => rfl)
theorem stepN_succ (c : CL) (q : List Int) (n : Nat) : stepN c q (n + 1) = stepN c q n ++ (if growB c q n then [q ++ [(n : Int)]] else []) := by
 unfold stepN
 rw [List.range_succ,List.filter_append,List.map_append]
 cases h : growB c q n <;> simp [h]
def lvT (c : CL) (i k : Nat) : List (List Int) := ((allT c i).take k).flatMap fun q => stepN c q c.depth.toNat
theorem lvT_succ (c : CL) {i k : Nat} (h : k < (allT c i).length) : lvT c i (k + 1) = lvT c i k ++ stepN c (allT c i)[k] c.depth.toNat := by
 unfold lvT
 rw [List.take_succ_eq_append_getElem h,List.flatMap_append];simp
theorem lvT_len {c : CL} (hc : OkL c) {i k : Nat} (hi : i ≤ 6) (hk : k ≤ (allT c i).length) : (lvT c i k).length ≤ 78125 := by
 have h1 := flat_len (f := fun q => stepN c q c.depth.toNat) (d := 5) ((allT c i).take k) (fun q _ => by have := step_len c q c.depth.toNat;have := hc.d1;omega)
 have h2 := allT_len hc i hi
 have h3 : 5 ^ i ≤ 5 ^ 6 := Nat.pow_le_pow_right (by omega) hi
 have h4 : (5 : Nat) ^ 6 = 15625 := by decide
 rw [List.length_take] at h1
 have h5 : min k (allT c i).length * 5 ≤ 15625 * 5 := Nat.mul_le_mul_right _ (by omega)
 unfold lvT
 omega
def outT (c : CL) (k : Nat) : List (List Int) := ((allT c c.figs.length).take k).filter fun p => (fault c p).isNone
theorem outT_succ (c : CL) {k : Nat} (h : k < (allT c c.figs.length).length) : outT c (k + 1) = outT c k ++ (if (fault c (allT c c.figs.length)[k]).isNone then [(allT c c.figs.length)[k]] else []) := by
 unfold outT
 rw [List.take_succ_eq_append_getElem h,List.filter_append]
 cases hf : (fault c (allT c c.figs.length)[k]).isNone <;> simp [hf]
set_option maxHeartbeats 16000000 in
theorem c34 (c : CL) (F : PV) (hF : SlOf 3 encF F c.figs) (hc : OkL c) (st : St) : ClR EE (.func 34 [] []) [clPV c F] st (RetS st 1 (rightsL c).length ((rightsL c).flatMap encL)) := by
 have hFc := hF.cells
 have hFi := hF.isCell
 have hFs := hF.slen
 have hlen := hc.len
 obtain ⟨d,hd⟩ : ∃ d : Nat,c.depth = d := ⟨c.depth.toNat,by have := hc.d0;omega⟩
 have hd5 : d ≤ 5 := by have := hc.d1;omega
 have hdN : c.depth.toNat = d := by omega
 rw [← all_eq hc]
 refine clr_fn (pr34 · _ _) fn34 1 rfl (by decide) (fun tm hl hg => ?_);have h0 : tg tm 0 = clPV c F := (hg 0 (by decide));clear hg
 refine go (bw hl h0) fnil ?_
 refine wp_for [4,3] (fun i vs s => ∃ v,vs = [iv i,v] ∧ i ≤ c.figs.length ∧ SlOf 1 encL v (allT c i) ∧ Fr (st.heap.length + 1) (({ heap := st.heap,lo := st.heap.length } : St).push (.var [iv c.room,iv c.depth,F])) s) (fun i => c.figs.length - i) ⟨_,by simp only [↓reduceIte,go_sem,hl];first | done | rfl,Nat.zero_le _,SlOf.of_sl (l := [[]]) rfl rfl rfl (fun _ => rfl),(Fr.refl _ _).push (by simp only [len_push];omega)⟩ ?_
 rintro i tm1 s1 ⟨v,hv,hi1,hV,hFr⟩ hS
 simp only [List.map_cons,List.map_nil,List.cons.injEq,and_true] at hv
 obtain ⟨hv4,hv3⟩ := hv
 have hl1 : tm1.length = 76 := (by rw [hS.1];simp only [put_len,hl]);have i1 : tg tm1 1 = .ptr st.heap.length 0 := (by rw [hS.2 1 (by decide)];simp only [↓reduceIte,go_sem,hl,h0]);clear hS
 have b1 : hp s1 st.heap.length = some (.var [iv c.room,iv c.depth,F]) := (hFr.old _ (by omega)).trans (by simp only [↓reduceIte,go_sem])
 have m1 := hp_lt b1
 have hVs := hV.slen
 have hal := allT_len hc i (by omega)
 have ha6 : 5 ^ i ≤ 5 ^ 6 := Nat.pow_le_pow_right (by omega) (by omega)
 have e56 : (5 : Nat) ^ 6 = 15625 := by decide
 refine go (bw10 hl1 hv4 i1 b1 (neL m1) (neA m1) (ltL m1) (ltA m1) m1 hFs) fnil ?_
 refine ⟨decide ((i : Int) < c.figs.length),by simp only [↓reduceIte,go_sem,hl1],fun hb => ?_,fun hb1 => ?_⟩
 ·have hlt := of_decide_eq_false hb
  obtain rfl : i = c.figs.length := by omega
  refine go hl1 fnil ?_
  refine wp_for [10,9] (fun k vs s => ∃ w,vs = [iv k,w] ∧ k ≤ (allT c c.figs.length).length ∧ OwnS (st.heap.length + 1) s 1 w (outT c k).length ((outT c k).flatMap encL) ∧ Fr (st.heap.length + 1) (({ heap := st.heap,lo := st.heap.length } : St).push (.var [iv c.room,iv c.depth,F])) s) (fun k => (allT c c.figs.length).length - k) ⟨_,by simp only [↓reduceIte,go_sem,hl1];first | done | rfl,Nat.zero_le _,.nil,hFr⟩ ?_
  clear b1 m1 hFr
  rintro k tm2 s2 ⟨w,hv,hk1,hO,hFr⟩ hS
  simp only [List.map_cons,List.map_nil,List.cons.injEq,and_true] at hv
  obtain ⟨hv10,hv9⟩ := hv
  have hl2 : tm2.length = 76 := (by rw [hS.1];simp only [put_len,hl1]);have j1 : tg tm2 1 = .ptr st.heap.length 0 := (by rw [hS.2 1 (by decide)];simp only [↓reduceIte,go_sem,hl1,i1,hv3]);have j3 : tg tm2 3 = v := (by rw [hS.2 3 (by decide)];simp only [↓reduceIte,go_sem,hl1,i1,hv3]);clear hS
  have b1 : hp s2 st.heap.length = some (.var [iv c.room,iv c.depth,F]) := (hFr.old _ (by omega)).trans (by simp only [↓reduceIte,go_sem])
  have m1 := hp_lt b1
  have w1 := hFr.len
  have w2 := hFr.lo
  have w3 := hFr.up
  simp only [lo_push,len_push] at w1 w2 w3
  refine go (bw4 hl2 hv10 j3 hVs) fnil ?_
  refine ⟨decide ((k : Int) < (allT c c.figs.length).length),by simp only [↓reduceIte,go_sem,hl2],fun hb => ?_,fun hb1 => ?_⟩
  ·have hlt := of_decide_eq_false hb
   obtain rfl : k = (allT c c.figs.length).length := by omega
   have e : outT c (allT c c.figs.length).length = allL c := by unfold outT allL;rw [List.take_length]
   rw [e] at hO
   refine go (bw hl2 hv9) fnil ?_
   exact fnr_ret (results_one (v := w) (by rw [rdRes_tmp];simp only [↓reduceIte,go_sem,hl2])) ((hO.mono (Nat.le_succ _)).finish (by omega) (fun m c hc => encL_low _ m c hc))
  have hlt : k < (allT c c.figs.length).length := by have := of_decide_eq_true hb1;omega
  have hw1 : IntKind.wrap .i64 ((k : Int) + 1) = ((k + 1 : Nat) : Int) := wrap_nat (n := k + 1) (by omega)
  have hap := allT_mem (List.getElem_mem hlt)
  have k46 := c46 c F (elL (allT c c.figs.length)[k]) (allT c c.figs.length)[k] hF (el_sl _) hc ⟨hap.1,hap.2⟩
  have hsu := outT_succ c hlt
  have hol : (outT c k).length ≤ k := by
   have := List.length_filter_le (fun p => (fault c p).isNone) ((allT c c.figs.length).take k)
   rw [List.length_take] at this
   unfold outT;omega
  have ec := el_cells (allT c c.figs.length)[k]
  have ei := el_isCell (allT c c.figs.length)[k]
  have es := el_share (allT c c.figs.length)[k]
  refine ⟨by omega,?_⟩
  cases hf : (fault c (allT c c.figs.length)[k]).isNone
  ·rw [hf] at k46 hsu
   simp only [Bool.false_eq_true,if_false,List.append_nil] at hsu
   refine go (bw14 hl2 hv10 hv9 j1 j3 b1 (neL m1) (neA m1) (ltL m1) (ltA m1) m1 ec ei hw1) (bw k46 fnil) ?_
   exact ⟨w,by simp only [↓reduceIte,go_sem,hl2,hv9],by omega,by rw [hsu];exact hO,hFr⟩
  ·rw [hf] at k46 hsu
   simp only [if_true] at hsu
   refine go (bw13 hl2 hv10 hv9 j1 j3 b1 (neL m1) (neA m1) (ltL m1) (ltA m1) m1 ec ei) (bw k46 fnil) ?_
   refine wops_append (m := st.heap.length + 1) rfl rfl (by simp only [↓reduceIte,go_sem,hl2,hv9];first | done | rfl) (by simp only [↓reduceIte,go_sem,hl2];first | done | rfl) hO.push rfl (by simp only [len_push];omega) (by rfl) (by simp only [List.all_cons,List.all_nil,es,ei,Bool.and_true]) (by simp only [maxList];omega) ?_
   intro w' s3 hO' hFr' hk
   refine go (bw3 hl2 hv10 hw1) fnil ?_
   exact ⟨w',by simp only [↓reduceIte,go_sem,hl2],by omega,by rw [hsu];simpa [es] using hO',(hFr.push (by omega)).trans hFr'⟩
 have hlt : i < c.figs.length := by have := of_decide_eq_true hb1;omega
 have hw1 : IntKind.wrap .i64 ((i : Int) + 1) = ((i + 1 : Nat) : Int) := wrap_nat (n := i + 1) (by omega)
 have hlv : ∀ k,k ≤ (allT c i).length → (lvT c i k).length ≤ 78125 := fun k hk => lvT_len hc (by omega) hk
 refine ⟨by omega,?_⟩
 refine go hl1 fnil ?_
 refine wp_for [6,5] (fun k vs s => ∃ w,vs = [iv k,w] ∧ k ≤ (allT c i).length ∧ OwnS (st.heap.length + 1) s 1 w (lvT c i k).length ((lvT c i k).flatMap encL) ∧ Fr (st.heap.length + 1) (({ heap := st.heap,lo := st.heap.length } : St).push (.var [iv c.room,iv c.depth,F])) s) (fun k => (allT c i).length - k) ⟨_,by simp only [↓reduceIte,go_sem,hl1];first | done | rfl,Nat.zero_le _,.nil,hFr⟩ ?_
 clear b1 m1 hFr
 rintro k tm2 s2 ⟨w,hv,hk1,hO,hFr⟩ hS
 simp only [List.map_cons,List.map_nil,List.cons.injEq,and_true] at hv
 obtain ⟨hv6,hv5⟩ := hv
 have hl2 : tm2.length = 76 := (by rw [hS.1];simp only [put_len,hl1]);have j1 : tg tm2 1 = .ptr st.heap.length 0 := (by rw [hS.2 1 (by decide)];simp only [↓reduceIte,go_sem,hl1,i1,hv3,hv4]);have j3 : tg tm2 3 = v := (by rw [hS.2 3 (by decide)];simp only [↓reduceIte,go_sem,hl1,i1,hv3,hv4]);have j4 : tg tm2 4 = iv i := (by rw [hS.2 4 (by decide)];simp only [↓reduceIte,go_sem,hl1,i1,hv3,hv4]);clear hS
 refine go (bw4 hl2 hv6 j3 hVs) fnil ?_
 refine ⟨decide ((k : Int) < (allT c i).length),by simp only [↓reduceIte,go_sem,hl2],fun hb => ?_,fun hb1 => ?_⟩
 ·have hlt := of_decide_eq_false hb
  obtain rfl : k = (allT c i).length := by omega
  have e : lvT c i (allT c i).length = allT c (i + 1) := by unfold lvT;rw [List.take_length,allT]
  rw [e] at hO
  refine go (bw4 hl2 hv5 j4 hw1) fnil ?_
  exact ⟨w,by simp only [↓reduceIte,go_sem,hl2],by omega,SlOf.of_sl hO.sl rfl rfl (fun _ => rfl),hFr⟩
 have hltk : k < (allT c i).length := by have := of_decide_eq_true hb1;omega
 have hw2 : IntKind.wrap .i64 ((k : Int) + 1) = ((k + 1 : Nat) : Int) := wrap_nat (n := k + 1) (by omega)
 have hap := allT_mem (List.getElem_mem hltk)
 have hlk := hlv k (by omega)
 have hsk := lvT_succ c hltk
 have ec := el_cells (allT c i)[k]
 have ei := el_isCell (allT c i)[k]
 refine ⟨by omega,?_⟩
 refine go hl2 fnil ?_
 refine wp_for [7,5] (fun n vs s => ∃ w,vs = [iv n,w] ∧ n ≤ d ∧ OwnS (st.heap.length + 1) s 1 w (lvT c i k ++ stepN c (allT c i)[k] n).length ((lvT c i k ++ stepN c (allT c i)[k] n).flatMap encL) ∧ Fr (st.heap.length + 1) (({ heap := st.heap,lo := st.heap.length } : St).push (.var [iv c.room,iv c.depth,F])) s) (fun n => d - n) ⟨w,by simp only [↓reduceIte,go_sem,hl2,hv5];first | done | rfl,Nat.zero_le _,by simpa [stepN] using hO,hFr⟩ ?_
 clear hO hFr hv5
 rintro n tm3 s3 ⟨w,hv,hn1,hO,hFr⟩ hS
 simp only [List.map_cons,List.map_nil,List.cons.injEq,and_true] at hv
 obtain ⟨hv7,hv5⟩ := hv
 have hl3 : tm3.length = 76 := (by rw [hS.1];simp only [put_len,hl2]);have k1 : tg tm3 1 = .ptr st.heap.length 0 := (by rw [hS.2 1 (by decide)];simp only [↓reduceIte,go_sem,hl2,j1,j3,hv6]);have k3 : tg tm3 3 = v := (by rw [hS.2 3 (by decide)];simp only [↓reduceIte,go_sem,hl2,j1,j3,hv6]);have k6 : tg tm3 6 = iv k := (by rw [hS.2 6 (by decide)];simp only [↓reduceIte,go_sem,hl2,j1,j3,hv6]);clear hS
 have b1 : hp s3 st.heap.length = some (.var [iv c.room,iv c.depth,F]) := (hFr.old _ (by omega)).trans (by simp only [↓reduceIte,go_sem])
 have m1 := hp_lt b1
 have w1 := hFr.len
 have w2 := hFr.lo
 have w3 := hFr.up
 simp only [lo_push,len_push] at w1 w2 w3
 refine go (bw9 hl3 hv7 k1 b1 (neL m1) (neA m1) (ltL m1) (ltA m1) m1) fnil ?_
 refine ⟨decide ((n : Int) < c.depth),by simp only [↓reduceIte,go_sem,hl3],fun hb => ?_,fun hb1 => ?_⟩
 ·have hlt := of_decide_eq_false hb
  obtain rfl : n = d := by omega
  rw [← hdN,← hsk] at hO
  refine go (bw3 hl3 k6 hw2) fnil ?_
  exact ⟨w,by simp only [↓reduceIte,go_sem,hl3,hv5],by omega,hO,hFr⟩
 have hltn : n < d := by have := of_decide_eq_true hb1;omega
 have hw3 : IntKind.wrap .i64 ((n : Int) + 1) = ((n + 1 : Nat) : Int) := wrap_nat (n := n + 1) (by omega)
 have hsl := step_len c (allT c i)[k] n
 have hsu := stepN_succ c (allT c i)[k] n
 refine ⟨by omega,?_⟩
 refine go (bw7 hl3 hv7 k1 k3 k6 ec ei) fnil ?_
 refine wops_append (m := s3.heap.length) rfl rfl (by simp only [↓reduceIte,go_sem,hl3];first | done | rfl) (by simp only [↓reduceIte,go_sem,hl3];first | done | rfl) .nil (el_sl (allT c i)[k]).sl (Nat.le_refl _) (flatMap_len (fun _ _ => rfl)) (encI_cell _) (by simp only [maxList];omega) ?_
 intro u1 s4 hU1 hF1 hg1
 rw [encI_share,List.nil_append,Nat.zero_add] at hU1
 have x1 := hF1.len
 have x2 := hF1.lo
 have x3 := hF1.up
 refine go (bw hl3 hv7) fnil ?_
 refine wops_append (m := s3.heap.length) rfl rfl (by simp only [↓reduceIte,go_sem,hl3];first | done | rfl) (by simp only [↓reduceIte,go_sem,hl3];first | done | rfl) hU1.push rfl (by simp only [len_push];omega) (by rfl) (by rfl) (by simp only [maxList];omega) ?_
 intro u2 s5 hU2 hF2 hg2
 have y1 := hF2.len
 have y2 := hF2.lo
 have y3 := hF2.up
 simp only [lo_push,len_push] at y1 y2 y3
 have hF5 : Fr s3.heap.length s3 s5 := (hF1.push (by omega)).trans hF2
 have hx5 : HExt s3.heap s5.heap := hF5.hext
 have b5 := hx5.hp b1
 have m5 := hp_lt b5
 have hO5 := hO.hext hx5
 have hFr5 : Fr (st.heap.length + 1) (({ heap := st.heap,lo := st.heap.length } : St).push (.var [iv c.room,iv c.depth,F])) s5 := hFr.trans (hF5.mono (by omega))
 have hql : ((allT c i)[k] ++ [(n : Int)]).length = i + 1 := by simp [hap.1]
 have hU : SlOf 1 encI u2 ((allT c i)[k] ++ [(n : Int)]) := SlOf.of_sl hU2.sl (by simp) (by simp [share_int]) (fun _ => rfl)
 have hsh : u2.share = elL ((allT c i)[k] ++ [(n : Int)]) := share_own hU2 (by simp) (by simp [share_int]) (by simp)
 have uc := hU.cells
 have ui := hU.isCell
 have q28 := k28 c F u2 ((allT c i)[k] ++ [(n : Int)]) n hF hU hc (by omega)
 have q85 := c85 c F u2 ((allT c i)[k] ++ [(n : Int)]) hF hU hlen (by omega) (by omega)
 have eg : growB c (allT c i)[k] n = (decide ((layerL c.figs ((allT c i)[k] ++ [(n : Int)]) n).sum ≤ c.room) && lastB c ((allT c i)[k] ++ [(n : Int)])) := rfl
 cases a1 : decide ((layerL c.figs ((allT c i)[k] ++ [(n : Int)]) n).sum ≤ c.room)
 ·rw [a1,Bool.false_and] at eg
  rw [eg] at hsu
  simp only [Bool.false_eq_true,if_false,List.append_nil] at hsu
  refine go (bw15 hl3 hv7 k1 b5 (neL m5) (neA m5) (ltL m5) (ltA m5) m5 hFc hFi uc ui a1 hw3) (bw q28 fnil) ?_
  exact ⟨w,by simp only [↓reduceIte,go_sem,hl3,hv5],by omega,by rw [hsu];exact hO5,hFr5⟩
 ·rw [a1,Bool.true_and] at eg
  cases a2 : lastB c ((allT c i)[k] ++ [(n : Int)])
  ·rw [a2] at eg q85
   rw [eg] at hsu
   simp only [Bool.false_eq_true,if_false,List.append_nil] at hsu
   refine go (bw15 hl3 hv7 k1 b5 (neL m5) (neA m5) (ltL m5) (ltA m5) m5 hFc hFi uc ui a1 hw3) (bw3 q28 q85 fnil) ?_
   exact ⟨w,by simp only [↓reduceIte,go_sem,hl3,hv5],by omega,by rw [hsu];exact hO5,hFr5⟩
  ·rw [a2] at eg q85
   rw [eg] at hsu
   simp only [if_true] at hsu
   refine go (bw15 hl3 hv7 hv5 k1 b5 (neL m5) (neA m5) (ltL m5) (ltA m5) m5 hFc hFi uc ui a1) (bw3 q28 q85 fnil) ?_
   refine wops_append (m := st.heap.length + 1) rfl rfl (by simp only [↓reduceIte,go_sem,hl3,hv5];first | done | rfl) (by simp only [↓reduceIte,go_sem,hl3];first | done | rfl) hO5.push rfl (by simp only [len_push];omega) (by rfl) (by simp only [List.all_cons,List.all_nil,hsh,el_isCell,Bool.and_true]) (by simp only [maxList,List.length_append];omega) ?_
   intro w' s6 hO' hFr' hk
   refine go (bw3 hl3 hv7 hw3) fnil ?_
   exact ⟨w',by simp only [↓reduceIte,go_sem,hl3],by omega,by rw [hsu];simpa [hsh,el_share,Nat.add_assoc] using hO',(hFr5.push (by omega)).trans hFr'⟩
theorem r34 (c : CL) (F : PV) (hF : SlOf 3 encF F c.figs) (hc : OkL c) (st : St) : ClR EE (.func 34 [] []) [clPV c F] st (fun v st' => SlOf 1 encL v (rightsL c) ∧ Keep st st') := by
 obtain ⟨v,st',h1,h⟩ := c34 c F hF hc st
 exact ⟨v,st',h1,slL h,keepW h.w⟩
end Go.Den.Ch
end
section
namespace Go.Den
theorem finish_el {st st1 : St} {p : List Int} {b : Bool} (h : st.heap.length ≤ st1.lo) : finishCall st st1 (.tuple [Ch.elL p,.bool b]) = (.tuple [Ch.elL p,.bool b],st) := by
 cases p with
 | nil => exact finish_tuple h (by rfl)
 | cons x l =>
  have hl : lowL st.heap.length ((x :: l).flatMap Ch.encI) = true := lowL_of fun c hc => Ch.encI_low _ _ c hc
  unfold finishCall
  rw [if_pos h]
  simp only [letGo,freezeL,freeze1,retagL,retag1,PV.low,Ch.elL,hl,if_true,Option.map_some,List.length_nil,List.replicate_zero,List.append_nil]
theorem fnq_el {rs : List DRes} {st : St} {tm1 : List PV} {st1 : St} {p : List Int} {b : Bool} (hr : results tm1 st1.heap rs = some (.tuple [Ch.elL p,.bool b])) (h : st.heap.length ≤ st1.lo) : FnQ rs st (.ret (.tuple [Ch.elL p,.bool b])) st .ret tm1 st1 := by
 unfold FnQ
 exact ⟨_,hr,_,finish_el h,rfl⟩
end Go.Den
namespace Go.Den.Ch
end Go.Den.Ch
end

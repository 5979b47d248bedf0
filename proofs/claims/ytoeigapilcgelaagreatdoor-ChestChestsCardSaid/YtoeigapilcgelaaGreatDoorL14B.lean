/- Part of the proof that for every input the function ChestChests returns true and each argument reads as it did. Texts: ChSj. -/
import Derived.Test.YtoeigapilcgelaaGreatDoorK4Ay
set_option linter.unusedSimpArgs false
set_option linter.unusedVariables false
section
namespace Go.Den.Ch
theorem ownsB_no {c : CL} {l : List Int} {k m : Nat} (hk : k < m) (h : canB c (ownL l k) = false) : ownsB c l m = false := List.all_eq_false.2 ⟨k,List.mem_range.2 hk,by simp [h]⟩
theorem ownsB_yes {c : CL} {l : List Int} {m : Nat} (h : ∀ k < m,canB c (ownL l k) = true) : ownsB c l m = true := List.all_eq_true.2 fun k hk => h k (List.mem_range.1 hk)
set_option maxHeartbeats 16000000 in
theorem c104 (c : CL) (F G : PV) (l : List Int) (hF : SlOf 3 encF F c.figs) (hG : SlOf 1 encI G l) (hA : listB c = true) (hll : l.length = c.figs.length) (hok : ∀ k < l.length,rgsP l k = true) (st : St) : Cl EE (.func 104 [] []) [clPV c F,G] st (.ret (.bool (splitB c l))) st := by
 have hFc := hF.cells
 have hFi := hF.isCell
 have hFs := hF.slen
 have hGs := hG.slen
 have hlen := (OkL.of hA).len
 have d0 : ((l.length : Int) != c.figs.length) = false := by rw [hll];simp
 have hrb := rgs_bound hok l.length (Nat.le_refl _)
 have hrn := rgs_in (l := l) (n := l.length) (Nat.le_refl _) hok
 rw [List.take_length] at hrb hrn
 have hn0 := layersL_nonneg l
 have k29 := c29 G l hG (by omega) (fun x hx => by have := hrn x hx;unfold inI;omega)
 have esp : splitB c l = ownsB c l (layersL l).toNat := by
  have e1 : (List.range l.length).all (rgsP l) = true := List.all_eq_true.2 fun k hk => hok k (List.mem_range.1 hk)
  rw [splitB,e1,decide_eq_true hll,Bool.true_and,Bool.true_and]
 obtain ⟨m,em⟩ : ∃ m : Nat,layersL l = m := ⟨(layersL l).toNat,by omega⟩
 rw [em] at k29 hrb
 rw [esp,em,Int.toNat_natCast]
 refine cl_fn (pr104 · _ _) fn104 2 rfl (by decide) (fun tm hl hg => ?_);have h0 : tg tm 0 = clPV c F := (hg 0 (by decide));have h1 : tg tm 1 = G := (hg 1 (by decide));clear hg
 refine go (bw6 hl h0 h1 hFs hGs d0) fnil ?_
 refine wp_for [5] (fun i vs s => vs = [iv i] ∧ i ≤ l.length ∧ s = ({ heap := st.heap,lo := st.heap.length } : St).push (.var [iv c.room,iv c.depth,F])) (fun i => l.length - i) ⟨by simp only [↓reduceIte,go_sem,hl];first | done | rfl,Nat.zero_le _,by first | done | rfl⟩ ?_
 rintro i tm1 s1 ⟨hv,hi,rfl⟩ hS
 simp only [List.map_cons,List.map_nil,List.cons.injEq,and_true] at hv
 have hl1 : tm1.length = 41 := (by rw [hS.1];simp only [put_len,hl]);have i1 : tg tm1 1 = G := (by rw [hS.2 1 (by decide)];simp only [↓reduceIte,go_sem,hl,h1]);have i2 : tg tm1 2 = .ptr st.heap.length 0 := (by rw [hS.2 2 (by decide)];simp only [↓reduceIte,go_sem,hl,h1]);clear hS
 refine go (bw4 hl1 hv i1 hGs) fnil ?_
 refine ⟨decide ((i : Int) < l.length),by simp only [↓reduceIte,go_sem,hl1],fun hb => ?_,fun hb1 => ?_⟩
 rotate_left
 ·have hlt : i < l.length := by have := of_decide_eq_true hb1;omega
  have hw1 : IntKind.wrap .i64 ((i : Int) + 1) = ((i + 1 : Nat) : Int) := wrap_nat (n := i + 1) (by omega)
  refine ⟨by omega,?_⟩
  refine go (bw3 hl1 hv i1) fnil ?_
  refine wopsD_slice (n := 0) (m := i) (by first | omega | (simp only [lo_push,lo_setVar,len_push,len_setVar];omega)) (by simp only [↓reduceIte,go_sem,hl1,hv,i1];first | done | rfl) (by with_reducible rfl) (by simp only [↓reduceIte,go_sem,hl1,i1];first | done | rfl) hG (by simp only [bound];simp only [↓reduceIte,go_sem,hl1,hv];simp) (by rfl) (Nat.zero_le _) (by omega) (fun G' hG' => ?_)
  simp only [Nat.sub_zero,List.drop_zero] at hG'
  have hin := rgs_in (l := l) (n := i) (by omega) (fun k hk => hok k (by omega))
  have q29 := c29 G' (l.take i) hG' (by rw [List.length_take];omega) (fun x hx => by
   have := hin x hx
   unfold inI;omega)
  have hri := hok i hlt
  rw [rgsP,getD_in hlt] at hri
  have x1 : inB l[i] 0 (layersL (l.take i)) = true := hri
  refine go (bw5 hl1 hv i1 x1 hw1) (bw3 q29 c74 fnil) ?_
  exact ⟨by simp only [↓reduceIte,go_sem,hl1],by omega,rfl⟩
 clear hv hb
 refine go hl1 fnil ?_
 refine wp_for [6] (fun k vs s => vs = [iv k] ∧ k ≤ m ∧ (∀ j < k,canB c (ownL l j) = true) ∧ Fr (st.heap.length + 1) (({ heap := st.heap,lo := st.heap.length } : St).push (.var [iv c.room,iv c.depth,F])) s) (fun k => m - k) ⟨by simp only [↓reduceIte,go_sem,hl1];first | done | rfl,Nat.zero_le _,(fun j hj => absurd hj (by omega)),.refl _ _⟩ ?_
 rintro k tm2 s2 ⟨hv,hk,hall,hFr⟩ hS
 simp only [List.map_cons,List.map_nil,List.cons.injEq,and_true] at hv
 have hl2 : tm2.length = 41 := (by rw [hS.1];simp only [put_len,hl1]);have j1 : tg tm2 1 = G := (by rw [hS.2 1 (by decide)];simp only [↓reduceIte,go_sem,hl1,i1,i2]);have j2 : tg tm2 2 = .ptr st.heap.length 0 := (by rw [hS.2 2 (by decide)];simp only [↓reduceIte,go_sem,hl1,i1,i2]);clear hS
 have b2 : hp s2 st.heap.length = some (.var [iv c.room,iv c.depth,F]) := (hFr.old _ (by omega)).trans (by simp only [↓reduceIte,go_sem])
 have m2 := hp_lt b2
 have w1 := hFr.len
 have w2 := hFr.lo
 have w3 := hFr.up
 simp only [lo_push,len_push] at w1 w2 w3
 refine go (bw3 hl2 hv j1) (bw k29 fnil) ?_
 refine ⟨decide ((k : Int) < m),by simp only [↓reduceIte,go_sem,hl2],fun hb => ?_,fun hb1 => ?_⟩
 ·have hlt := of_decide_eq_false hb
  rw [ownsB_yes (fun j hj => hall j (by omega))]
  refine go hl2 fnil ?_
  refine fnq_flat (results_one (by rw [rdRes_tmp];simp only [↓reduceIte,go_sem,hl2];first | done | rfl)) (by first | exact Nat.le_refl _ | omega | (simp only [lo_push,lo_setVar];omega)) (by rfl)
 have hlt : k < m := by have := of_decide_eq_true hb1;omega
 have hw1 : IntKind.wrap .i64 ((k : Int) + 1) = ((k + 1 : Nat) : Int) := wrap_nat (n := k + 1) (by omega)
 have hoo := ownL_ok (n := c.figs.length) l k (by omega)
 have hol := ris_len hoo
 refine ⟨by omega,?_⟩
 refine go (bw10 hl2 hv j1 j2 b2 (neL m2) (neA m2) (ltL m2) (ltA m2) m2) fnil ?_
 refine wopsD_callS (by first | omega | (simp only [lo_push,lo_setVar,len_push,len_setVar];omega)) rfl rfl (by simp only [↓reduceIte,go_sem,hl2];first | done | rfl) (fun st1 he => by simp only [↓reduceIte,go_sem,hl2];exact r105 G l k hG (by omega) _) ?_
 intro v s3 hR
 have x1 := hR.lo
 have x2 := hR.len
 have k113 := c113 c F v (ownL l k) hF (slI hR) hA hoo.rng (by omega)
 have hFr3 : Fr (st.heap.length + 1) (({ heap := st.heap,lo := st.heap.length } : St).push (.var [iv c.room,iv c.depth,F])) s3 := by
  refine ⟨by simp only [len_push];omega,by simp only [lo_push];omega,fun q hq => ?_,by simp only [lo_push];omega⟩
  have hy : hp s3 q = hp s2 q := hR.w.hext.2 q (by omega)
  rw [hy]
  exact hFr.old q hq
 cases hc1 : canB c (ownL l k)
 ·rw [hc1] at k113
  rw [ownsB_no hlt hc1]
  refine go (bw4 hl2 hv hFc hFi) (bw k113 fnil) ?_
  refine fnq_flat (results_one (by rw [rdRes_tmp];simp only [↓reduceIte,go_sem,hl2];first | done | rfl)) (by first | exact Nat.le_refl _ | omega | (simp only [lo_push,lo_setVar];omega)) (by rfl)
 ·rw [hc1] at k113
  refine go (bw5 hl2 hv hw1 hFc hFi) (bw k113 fnil) ?_
  refine ⟨by simp only [↓reduceIte,go_sem,hl2],by omega,fun j hj => ?_,hFr3⟩
  by_cases hjk : j = k
  ·rw [hjk];exact hc1
  ·exact hall j (by omega)
theorem chests_split {c : CL} (hA : listB c = true) {l : List Int} : l ∈ chestsX c ↔ l ∈ splitT c.figs.length ∧ splitB c l = true := by
 rw [valid_iff hA,split_iff,mem_splitT]
 constructor
 ·intro h
  refine ⟨⟨h.len,fun k hk => ?_⟩,h⟩
  have := h.rgs k (by have := h.len;omega)
  simp only [rgsP,Bool.and_eq_true,decide_eq_true_eq];exact this
 ·exact fun h => h.2
theorem chest_found {c : CL} (hA : listB c = true) {i : Nat} (hi : i < (splitT c.figs.length).length) (hs : splitB c (splitT c.figs.length)[i] = true) (h1 : ∀ q ∈ splitT c.figs.length,layersL q < layersL (splitT c.figs.length)[i] → splitB c q = false) (h2 : ∀ j,∀ hj : j < i,layersL (splitT c.figs.length)[j] = layersL (splitT c.figs.length)[i] → splitB c (splitT c.figs.length)[j] = false) : bestF ltLay (chestsX c) = some (splitT c.figs.length)[i] := by
 have hm := (chests_split hA).2 ⟨List.getElem_mem hi,hs⟩
 cases hb : bestF ltLay (chestsX c) with
 | none => rw [best_none hb] at hm;cases hm
 | some b =>
  obtain ⟨b1,b2⟩ := best_law (m := layersL) (chests_sorted c) hb
  obtain ⟨b3,b4⟩ := (chests_split hA).1 b1
  have b5 := b2 _ hm
  obtain ⟨j,hj,rfl⟩ := List.getElem_of_mem b3
  have heq : layersL (splitT c.figs.length)[j] = layersL (splitT c.figs.length)[i] := by
   by_cases hlt : layersL (splitT c.figs.length)[j] < layersL (splitT c.figs.length)[i]
   ·rw [h1 _ b3 hlt] at b4;cases b4
   ·omega
  rcases Nat.lt_trichotomy j i with h | h | h
  ·rw [h2 j h heq] at b4;cases b4
  ·subst h;rfl
  ·have := List.pairwise_iff_getElem.1 (splitT_sorted c.figs.length) i j hi hj h
   rw [b5.2 heq.symm] at this;cases this
theorem chest_none {c : CL} (hA : listB c = true) (h : ∀ q ∈ splitT c.figs.length,splitB c q = false) : bestF ltLay (chestsX c) = none := by
 have : chestsX c = [] := by
  refine List.eq_nil_iff_forall_not_mem.2 fun q hq => ?_
  obtain ⟨h1,h2⟩ := (chests_split hA).1 hq
  rw [h q h1] at h2;cases h2
 rw [this];rfl
set_option maxHeartbeats 16000000 in
theorem c59 (c : CL) (F : PV) (hF : SlOf 3 encF F c.figs) (hA : listB c = true) (st : St) : Cl EE (.func 59 [] []) [clPV c F] st (.ret (.tuple [elL ((bestF ltLay (chestsX c)).getD []),.bool (bestF ltLay (chestsX c)).isSome])) st := by
 have hFc := hF.cells
 have hFi := hF.isCell
 have hFs := hF.slen
 have hc := OkL.of hA
 have hlen := hc.len
 have ec := fun p => el_cells p
 have ei := fun p => el_isCell p
 refine cl_fn (pr59 · _ _) fn59 1 rfl (by decide) (fun tm hl hg => ?_);have h0 : tg tm 0 = clPV c F := (hg 0 (by decide));clear hg
 refine go (bw3 hl h0 hFs) fnil ?_
 refine wops_callR rfl rfl (by simp only [↓reduceIte,go_sem,hl];first | done | rfl) (by simp only [↓reduceIte,go_sem,hl];exact c103 c.figs.length hlen _) ?_
 intro V S1 hR
 have q1 := hR.lo
 have q2 := hR.len
 try simp only [lo_push,len_push] at q1 q2
 have b1 := hR.hp (l := st.heap.length) (o := .var [iv c.room,iv c.depth,F]) (by simp only [↓reduceIte,go_sem])
 have m1 := hp_lt b1
 have hV := slL hR
 have hVs := hV.slen
 have hsl := splitT_len c.figs.length hlen
 have h7 : 7 ^ c.figs.length ≤ 7 ^ 6 := Nat.pow_le_pow_right (by omega) (by omega)
 have e7 : (7 : Nat) ^ 6 = 117649 := by decide
 refine go hl fnil ?_
 refine wp_for [5] (fun m vs s => vs = [iv m] ∧ m ≤ c.figs.length + 1 ∧ (∀ q ∈ splitT c.figs.length,layersL q < m → splitB c q = false) ∧ s = S1) (fun m => c.figs.length + 1 - m) ⟨by simp only [↓reduceIte,go_sem,hl];first | done | rfl,Nat.zero_le _,(fun q _ hq => by have := layersL_nonneg q;omega),rfl⟩ ?_
 rintro m tm1 s1 ⟨hv,hm,hno,rfl⟩ hS
 simp only [List.map_cons,List.map_nil,List.cons.injEq,and_true] at hv
 have hl1 : tm1.length = 43 := (by rw [hS.1];simp only [put_len,hl]);have i1 : tg tm1 1 = .ptr st.heap.length 0 := (by rw [hS.2 1 (by decide)];simp only [↓reduceIte,go_sem,hl,h0]);have i4 : tg tm1 4 = V := (by rw [hS.2 4 (by decide)];simp only [↓reduceIte,go_sem,hl,h0]);clear hS
 refine go (bw10 hl1 hv i1 b1 (neL m1) (neA m1) (ltL m1) (ltA m1) m1 hFs) fnil ?_
 refine ⟨decide ((m : Int) ≤ c.figs.length),by simp only [↓reduceIte,go_sem,hl1],fun hb => ?_,fun hb1 => ?_⟩
 ·have hlt := of_decide_eq_false hb
  rw [chest_none hA (fun q hq => hno q hq (by have := splitT_lay hq;omega))]
  refine go hl1 fnil ?_
  refine fnq_el (p := []) (results_two (v := .nilslice) (u := .bool false) ?_ ?_) (by first | omega | (simp only [lo_push,lo_setVar];omega))
  ·rw [rdRes_tmp];simp only [↓reduceIte,go_sem,hl1]
  ·rw [rdRes_tmp];simp only [↓reduceIte,go_sem,hl1]
 have hlt : m ≤ c.figs.length := by have := of_decide_eq_true hb1;omega
 have hw1 : IntKind.wrap .i64 ((m : Int) + 1) = ((m + 1 : Nat) : Int) := wrap_nat (n := m + 1) (by omega)
 refine ⟨by omega,?_⟩
 refine go hl1 fnil ?_
 refine wp_for [6] (fun i vs s => vs = [iv i] ∧ i ≤ (splitT c.figs.length).length ∧ (∀ j,∀ hj : j < (splitT c.figs.length).length,j < i → layersL (splitT c.figs.length)[j] = m → splitB c (splitT c.figs.length)[j] = false) ∧ s = s1) (fun i => (splitT c.figs.length).length - i) ⟨by simp only [↓reduceIte,go_sem,hl1];first | done | rfl,Nat.zero_le _,(fun j _ hj => absurd hj (by omega)),rfl⟩ ?_
 rintro i tm2 s2 ⟨hv2,hi,hno2,rfl⟩ hS
 simp only [List.map_cons,List.map_nil,List.cons.injEq,and_true] at hv2
 have hl2 : tm2.length = 43 := (by rw [hS.1];simp only [put_len,hl1]);have j1 : tg tm2 1 = .ptr st.heap.length 0 := (by rw [hS.2 1 (by decide)];simp only [↓reduceIte,go_sem,hl1,i1,i4,hv]);have j4 : tg tm2 4 = V := (by rw [hS.2 4 (by decide)];simp only [↓reduceIte,go_sem,hl1,i1,i4,hv]);have j5 : tg tm2 5 = iv m := (by rw [hS.2 5 (by decide)];simp only [↓reduceIte,go_sem,hl1,i1,i4,hv]);clear hS
 refine go (bw4 hl2 hv2 j4 hVs) fnil ?_
 refine ⟨decide ((i : Int) < (splitT c.figs.length).length),by simp only [↓reduceIte,go_sem,hl2],fun hb => ?_,fun hb2 => ?_⟩
 ·have hlt2 := of_decide_eq_false hb
  refine go (bw3 hl2 j5 hw1) fnil ?_
  refine ⟨by simp only [↓reduceIte,go_sem,hl2],by omega,fun q hq hql => ?_,rfl⟩
  by_cases hqm : layersL q < m
  ·exact hno q hq hqm
  ·obtain ⟨j,hj,rfl⟩ := List.getElem_of_mem hq
   exact hno2 j hj (by omega) (by omega)
 have hlt2 : i < (splitT c.figs.length).length := by have := of_decide_eq_true hb2;omega
 have hw2 : IntKind.wrap .i64 ((i : Int) + 1) = ((i + 1 : Nat) : Int) := wrap_nat (n := i + 1) (by omega)
 have hqm := mem_splitT.1 (List.getElem_mem hlt2)
 have hin := rgs_in (l := (splitT c.figs.length)[i]) (n := (splitT c.figs.length)[i].length) (Nat.le_refl _) (fun j hj => hqm.2 j (by omega))
 rw [List.take_length] at hin
 have k29 := c29 (elL (splitT c.figs.length)[i]) (splitT c.figs.length)[i] (el_sl _) (by omega) (fun x hx => by have := hin x hx;unfold inI;omega)
 have k104 := c104 c F (elL (splitT c.figs.length)[i]) (splitT c.figs.length)[i] hF (el_sl _) hA hqm.1 (fun k hk => hqm.2 k (by omega))
 refine ⟨by omega,?_⟩
 cases x1 : (layersL (splitT c.figs.length)[i] == (m : Int))
 ·refine go (bw15 hl2 hv2 j1 j4 j5 b1 (neL m1) (neA m1) (ltL m1) (ltA m1) m1 ec ei x1 hw2) (bw k29 fnil) ?_
  refine ⟨by simp only [↓reduceIte,go_sem,hl2],by omega,fun j hj hji hjl => ?_,rfl⟩
  by_cases hji2 : j = i
  ·subst hji2
   rw [beq_eq_false_iff_ne] at x1
   exact absurd hjl x1
  ·exact hno2 j hj (by omega) hjl
 ·have hxm := beq_iff_eq.1 x1
  cases x2 : splitB c (splitT c.figs.length)[i]
  ·rw [x2] at k104
   refine go (bw17 hl2 hv2 j1 j4 j5 b1 (neL m1) (neA m1) (ltL m1) (ltA m1) m1 ec ei x1 hw2 hFc hFi) (bw3 k29 k104 fnil) ?_
   refine ⟨by simp only [↓reduceIte,go_sem,hl2],by omega,fun j hj hji hjl => ?_,rfl⟩
   by_cases hji2 : j = i
   ·subst hji2;exact x2
   ·exact hno2 j hj (by omega) hjl
  ·rw [x2] at k104
   rw [chest_found hA hlt2 x2 (fun q hq hql => hno q hq (by omega)) (fun j hj hjl => hno2 j (by omega) hj (by omega))]
   refine go (bw16 hl2 hv2 j1 j4 j5 b1 (neL m1) (neA m1) (ltL m1) (ltA m1) m1 ec ei x1 hFc hFi) (bw3 k29 k104 fnil) ?_
   refine fnq_el (p := (splitT c.figs.length)[i]) (results_two (v := elL (splitT c.figs.length)[i]) (u := .bool true) ?_ ?_) (by first | omega | (simp only [lo_push,lo_setVar];omega))
   ·rw [rdRes_tmp];simp only [↓reduceIte,go_sem,hl2]
   ·rw [rdRes_tmp];simp only [↓reduceIte,go_sem,hl2]
set_option maxHeartbeats 16000000 in
theorem c14 (c : CL) (F : PV) (hF : SlOf 3 encF F c.figs) (st : St) : Cl EE (.func 14 [] []) [clPV c F] st (.ret (.bool true)) st := by
 have hFc := hF.cells
 have hFi := hF.isCell
 have hFs := hF.slen
 refine cl_fn (pr14 · _ _) fn14 1 rfl (by decide) (fun tm hl hg => ?_);have h0 : tg tm 0 = clPV c F := (hg 0 (by decide));clear hg
 have k30 := c30 c F hF
 cases d0 : decide (c.figs.length ≤ 8)
 ·refine go (bw3 hl h0 d0) (bw3 k30 c26 fnil) ?_
  refine fnq_flat (results_one (by rw [rdRes_tmp];simp only [↓reduceIte,go_sem,hl];first | done | rfl)) (by first | exact Nat.le_refl _ | omega | (simp only [lo_push,lo_setVar];omega)) (by rfl)
 have hn8 := of_decide_eq_true d0
 have k33 := c33 c F hF (by omega)
 refine go (bw3 hl h0 d0) (bw k30 fnil) ?_
 refine wops_callR rfl rfl (by simp only [↓reduceIte,go_sem,hl];first | done | rfl) (by simp only [↓reduceIte,go_sem,hl];exact r58 c F hF _) ?_
 rintro v S1 ⟨P,rfl,hP,hK⟩
 have q1 := hK.2
 have q2 := hK.len
 try simp only [lo_push,len_push] at q1 q2
 have b1 := hK.hp (l := st.heap.length) (o := .var [iv c.room,iv c.depth,F]) (by simp only [↓reduceIte,go_sem])
 have m1 := hp_lt b1
 have hPs := hP.slen
 have e22 : ((2 : Int) == 2) = true := rfl
 have n0 : ((0 : Nat) : Int) = 0 := rfl
 cases hA : listB c
 ·have e : chestsR c = ([],0,2) := by simp [chestsR,hA]
  rw [e] at hPs ⊢
  have hPs' : P.slen = some 0 := hPs
  refine go (bw12 hl b1 (neL m1) (neA m1) (ltL m1) (ltA m1) m1 hA hPs' zs e22 n0) (bw3 k33 c26 fnil) ?_
  refine fnq_flat (results_one (by rw [rdRes_tmp];simp only [↓reduceIte,go_sem,hl];first | done | rfl)) (by first | exact Nat.le_refl _ | omega | (simp only [lo_push,lo_setVar];omega)) (by rfl)
 have hc := OkL.of hA
 have k59 := c59 c F hF hA
 cases hb : bestF ltLay (chestsX c) with
 | none =>
  have e : chestsR c = ([],0,5) := by simp [chestsR,hA,hb]
  rw [hb] at k59
  rw [e] at hPs ⊢
  have hPs' : P.slen = some 0 := hPs
  refine go (bw11 hl b1 (neL m1) (neA m1) (ltL m1) (ltA m1) m1 hA hPs' zs n0) (bw4 k33 k59 c26 fnil) ?_
  refine fnq_flat (results_one (by rw [rdRes_tmp];simp only [↓reduceIte,go_sem,hl];first | done | rfl)) (by first | exact Nat.le_refl _ | omega | (simp only [lo_push,lo_setVar];omega)) (by rfl)
 | some o =>
  have e : chestsR c = (o,layersL o,0) := by simp [chestsR,hA,hb]
  rw [hb] at k59
  rw [e] at hP ⊢
  have hv := (valid_iff hA).1 (best_law (m := layersL) (chests_sorted c) hb).1
  have hin := valid_in hv
  have hol := hv.len
  have k36 := c36 P (elL o) o o hP (el_sl o) (by have := hc.len;omega)
  have k29 := c29 (elL o) o (el_sl o) (by have := hc.len;omega) (fun x hx => by have := hin x hx;have := hc.len;unfold inI;omega)
  have eo : (o == o) = true := by simp
  rw [eo] at k36
  refine go (bw12 hl b1 (neL m1) (neA m1) (ltL m1) (ltA m1) m1 hA zs nee hFc hFi) (bw6 k33 k59 k36 k29 c26 fnil) ?_
  refine fnq_flat (results_one (by rw [rdRes_tmp];simp only [↓reduceIte,go_sem,hl];first | done | rfl)) (by first | exact Nat.le_refl _ | omega | (simp only [lo_push,lo_setVar];omega)) (by rfl)
end Go.Den.Ch
end

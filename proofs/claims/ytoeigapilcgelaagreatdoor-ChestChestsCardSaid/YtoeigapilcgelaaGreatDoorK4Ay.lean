/- Part of the proofs of laws of the package chest. Texts: ChSi, ChShelf, ChPrimA, ChPrimB. -/
import Derived.Test.YtoeigapilcgelaaGreatDoorK4Ax
import Derived.Shelf.Strconv.Itoa3
import Derived.Shelf.Strings.OnBuilder
import Derived.Shelf.Strings.Split
import Derived.Test.YtoeigapilcgelaaGreatDoorProg
import Derived.Test.YtoeigapilcgelaaGreatDoorK4Al
import Derived.Test.YtoeigapilcgelaaGreatDoorK4Aj
import Derived.Test.YtoeigapilcgelaaGreatDoorChecked
import Derived.WalkKit
import Derived.Defers
import Derived.Recover
set_option linter.unusedSimpArgs false
set_option linter.unusedVariables false
section
namespace Go.Den.Ch
theorem bef_total : ∀ {a b : List Int},bef a b = false → bef b a = false → a = b
 | [],[],_,_ => rfl
 | [],_ :: _,h,_ => by cases h
 | _ :: _,[],_,h => by cases h
 | x :: a,y :: b,h1,h2 => by
  simp only [bef] at h1 h2
  by_cases e : x = y
  ·subst e
   rw [if_pos rfl] at h1 h2
   rw [bef_total h1 h2]
  ·rw [if_neg e] at h1
   rw [if_neg (Ne.symm e)] at h2
   simp only [decide_eq_false_iff_not] at h1 h2
   omega
set_option maxHeartbeats 4000000 in
theorem c113 (c : CL) (F G : PV) (l : List Int) (hF : SlOf 3 encF F c.figs) (hG : SlOf 1 encI G l) (hA : listB c = true) (hr : ∀ x ∈ l,0 ≤ x ∧ x < c.figs.length) (hl6 : l.length ≤ 6) (st : St) : Cl EE (.func 113 [] []) [clPV c F,G] st (.ret (.bool (canB c l))) st := by
 have hFc := hF.cells
 have hFi := hF.isCell
 refine cl_fn (pr113 · _ _) fn113 2 rfl (by decide) (fun tm hl hg => ?_);have h0 : tg tm 0 = clPV c F := (hg 0 (by decide));have h1 : tg tm 1 = G := (hg 1 (by decide));clear hg
 refine go (bw3 hl h0 h1) fnil ?_
 refine wops_callR rfl rfl (by simp only [↓reduceIte,go_sem,hl,h1];first | done | rfl) (by simp only [↓reduceIte,go_sem,hl,h1];exact r106 c F G l hF hG hr hl6 _) ?_
 rintro v S1 ⟨F',rfl,hF',hK⟩
 have q1 := hK.2
 have q2 := hK.len
 try simp only [lo_push,len_push] at q1 q2
 refine go hl fnil ?_
 refine wops_callR rfl rfl (by simp only [↓reduceIte,go_sem,hl];first | done | rfl) (by simp only [↓reduceIte,go_sem,hl];exact r34 (partL c l) F' hF' (OkL.of (part_list hA hr hl6)) _) ?_
 rintro w S2 ⟨hW,hK2⟩
 have q3 := hK2.2
 have q4 := hK2.len
 have hWs := hW.slen
 have e : decide (((rightsL (partL c l)).length : Int) > 0) = canB c l := by
  unfold canB
  cases rightsL (partL c l) with
  | nil => rfl
  | cons a b => simp
 refine go (bw3 hl hWs e) fnil ?_
 refine fnq_flat (results_one (by rw [rdRes_tmp];simp only [↓reduceIte,go_sem,hl];first | done | rfl)) (by first | exact Nat.le_refl _ | omega | (simp only [lo_push,lo_setVar];omega)) (by rfl)
def growS (q : List Int) (m : Nat) : List (List Int) := (List.range m).map fun (n : Nat) => q ++ [(n : Int)]
def splitT : Nat → List (List Int)
 | 0 => [[]]
 | i + 1 => (splitT i).flatMap fun q => growS q ((layersL q).toNat + 1)
theorem growS_succ (q : List Int) (m : Nat) : growS q (m + 1) = growS q m ++ [q ++ [(m : Int)]] := by
 simp only [growS,List.range_succ,List.map_append,List.map_cons,List.map_nil]
theorem mem_splitT {l : List Int} : ∀ {i : Nat},l ∈ splitT i ↔ l.length = i ∧ ∀ k < i,rgsP l k = true := by
 intro i
 induction i generalizing l with
 | zero =>
  rw [splitT,List.mem_singleton]
  constructor
  ·rintro rfl;exact ⟨rfl,fun k hk => absurd hk (by omega)⟩
  ·rintro ⟨h,_⟩;exact List.eq_nil_of_length_eq_zero h
 | succ i ih =>
  rw [splitT,List.mem_flatMap]
  constructor
  ·rintro ⟨q,hq,h⟩
   rw [growS,List.mem_map] at h
   obtain ⟨n,hn,rfl⟩ := h
   rw [List.mem_range] at hn
   obtain ⟨h1,h2⟩ := ih.1 hq
   have h0 := layersL_nonneg q
   refine ⟨by simp [h1],fun k hk => ?_⟩
   by_cases hki : k < i
   ·have e1 : (q ++ [(n : Int)]).getD k 0 = q.getD k 0 := by rw [List.getD_eq_getElem?_getD,List.getD_eq_getElem?_getD,List.getElem?_append_left (by omega)]
    have e2 : (q ++ [(n : Int)]).take k = q.take k := List.take_append_of_le_length (by omega)
    have := h2 k hki
    unfold rgsP at this ⊢
    rw [e1,e2];exact this
   ·have e1 : (q ++ [(n : Int)]).getD k 0 = n := by rw [List.getD_eq_getElem?_getD,List.getElem?_append_right (by omega),show k - q.length = 0 by omega];rfl
    have e2 : (q ++ [(n : Int)]).take k = q := by rw [List.take_append_of_le_length (by omega),List.take_of_length_le (by omega)]
    unfold rgsP
    rw [e1,e2,Bool.and_eq_true,decide_eq_true_eq,decide_eq_true_eq]
    omega
  ·rintro ⟨h1,h2⟩
   have hl := h2 i (by omega)
   unfold rgsP at hl
   rw [Bool.and_eq_true,decide_eq_true_eq,decide_eq_true_eq] at hl
   refine ⟨l.take i,ih.2 ⟨by rw [List.length_take];omega,fun k hk => ?_⟩,?_⟩
   ·have := h2 k (by omega)
    have e1 : (l.take i).getD k 0 = l.getD k 0 := by rw [List.getD_eq_getElem?_getD,List.getD_eq_getElem?_getD,List.getElem?_take,if_pos hk]
    unfold rgsP at this ⊢
    rw [e1,List.take_take,show min k i = k by omega];exact this
   ·rw [growS,List.mem_map]
    refine ⟨(l.getD i 0).toNat,List.mem_range.2 (by omega),?_⟩
    rw [Int.toNat_of_nonneg hl.1,← take_at (by omega),List.take_of_length_le (by omega)]
theorem splitT_sorted : ∀ i,(splitT i).Pairwise (fun a b => bef a b = true)
 | 0 => List.pairwise_singleton _ _
 | i + 1 => by
  rw [splitT]
  refine List.pairwise_flatMap.2 ⟨fun q _ => ?_,?_⟩
  ·rw [growS,List.pairwise_map]
   exact (List.pairwise_lt_range).imp fun h => bef_lt (m := []) (n := []) (by omega)
  ·refine List.Pairwise.imp_of_mem ?_ (splitT_sorted i)
   intro a b ha hb hab x hx y hy
   rw [growS,List.mem_map] at hx hy
   obtain ⟨n,_,rfl⟩ := hx
   obtain ⟨m,_,rfl⟩ := hy
   exact bef_both ((mem_splitT.1 ha).1.trans (mem_splitT.1 hb).1.symm) hab
theorem splitT_lay {i : Nat} {q : List Int} (h : q ∈ splitT i) : 0 ≤ layersL q ∧ layersL q ≤ i := by
 obtain ⟨h1,h2⟩ := mem_splitT.1 h
 have := rgs_bound (l := q) (fun k hk => h2 k (by omega)) q.length (Nat.le_refl _)
 rw [List.take_length] at this
 have := layersL_nonneg q
 omega
theorem growS_len (q : List Int) (m : Nat) : (growS q m).length = m := by simp [growS]
theorem splitT_len : ∀ i,i ≤ 6 → (splitT i).length ≤ 7 ^ i
 | 0,_ => by simp [splitT]
 | i + 1,hi => by
  rw [splitT]
  have h1 := flat_len (f := fun q => growS q ((layersL q).toNat + 1)) (d := 7) (splitT i) (fun q hq => by have := splitT_lay hq;rw [growS_len];omega)
  rw [Nat.pow_succ]
  exact Nat.le_trans h1 (Nat.mul_le_mul_right _ (splitT_len i (by omega)))
def spT (i k : Nat) : List (List Int) := ((splitT i).take k).flatMap fun q => growS q ((layersL q).toNat + 1)
theorem spT_succ {i k : Nat} (h : k < (splitT i).length) : spT i (k + 1) = spT i k ++ growS (splitT i)[k] ((layersL (splitT i)[k]).toNat + 1) := by
 unfold spT
 rw [List.take_succ_eq_append_getElem h,List.flatMap_append];simp
theorem spT_len {i k : Nat} (hi : i ≤ 6) (hk : k ≤ (splitT i).length) : (spT i k).length ≤ 823543 := by
 have h1 := flat_len (f := fun q => growS q ((layersL q).toNat + 1)) (d := 7) ((splitT i).take k) (fun q hq => by have := splitT_lay (List.mem_of_mem_take hq);rw [growS_len];omega)
 have h2 := splitT_len i hi
 have h3 : 7 ^ i ≤ 7 ^ 6 := Nat.pow_le_pow_right (by omega) hi
 have h4 : (7 : Nat) ^ 6 = 117649 := by decide
 rw [List.length_take] at h1
 have h5 : min k (splitT i).length * 7 ≤ 117649 * 7 := Nat.mul_le_mul_right _ (by omega)
 unfold spT
 omega
set_option maxHeartbeats 16000000 in
theorem c103 (n : Nat) (hn : n ≤ 6) (st : St) : ClR EE (.func 103 [] []) [iv n] st (RetS st 1 (splitT n).length ((splitT n).flatMap encL)) := by
 have ec := fun p => el_cells p
 have ei := fun p => el_isCell p
 have e7 : (7 : Nat) ^ 6 = 117649 := by decide
 refine clr_fn (pr103 · _ _) fn103 1 rfl (by decide) (fun tm hl hg => ?_);have h0 : tg tm 0 = iv n := (hg 0 (by decide));clear hg
 refine go (bw hl h0) fnil ?_
 refine wp_for [4,3] (fun i vs s => ∃ v,vs = [iv i,v] ∧ i ≤ n ∧ OwnS st.heap.length s 1 v (splitT i).length ((splitT i).flatMap encL) ∧ Fr st.heap.length ({ heap := st.heap,lo := st.heap.length } : St) s) (fun i => n - i) ⟨_,by simp only [↓reduceIte,go_sem,hl];first | done | rfl,Nat.zero_le _,⟨by simp [splitT],.inr ⟨st.heap.length,rfl,Nat.le_refl _,by simp only [↓reduceIte,go_sem]⟩⟩,(Fr.refl _ _).push (Nat.le_refl _)⟩ ?_
 rintro i tm1 s1 ⟨v,hv,hi1,hOv,hFr⟩ hS
 simp only [List.map_cons,List.map_nil,List.cons.injEq,and_true] at hv
 obtain ⟨hv4,hv3⟩ := hv
 have hV : SlOf 1 encL v (splitT i) := SlOf.of_sl hOv.sl rfl rfl (fun _ => rfl)
 have hl1 : tm1.length = 42 := (by rw [hS.1];simp only [put_len,hl]);have i0 : tg tm1 0 = iv n := (by rw [hS.2 0 (by decide)];simp only [↓reduceIte,go_sem,hl,h0]);clear hS
 have hVs := hV.slen
 have w1 := hFr.len
 have w2 := hFr.lo
 simp only at w1 w2
 have h7 : 7 ^ i ≤ 7 ^ 6 := Nat.pow_le_pow_right (by omega) (by omega)
 have hspl := splitT_len i (by omega)
 refine go (bw3 hl1 hv4 i0) fnil ?_
 refine ⟨decide ((i : Int) < n),by simp only [↓reduceIte,go_sem,hl1],fun hb => ?_,fun hb1 => ?_⟩
 ·have hlt := of_decide_eq_false hb
  obtain rfl : i = n := by omega
  refine go (bw hl1 hv3) fnil ?_
  exact fnr_ret (results_one (v := v) (by rw [rdRes_tmp];simp only [↓reduceIte,go_sem,hl1])) (hOv.finish (by omega) (fun m c hc => encL_low _ m c hc))
 have hlt : i < n := by have := of_decide_eq_true hb1;omega
 have hw1 : IntKind.wrap .i64 ((i : Int) + 1) = ((i + 1 : Nat) : Int) := wrap_nat (n := i + 1) (by omega)
 refine ⟨by omega,?_⟩
 refine go hl1 fnil ?_
 refine wp_for [6,5] (fun k vs s => ∃ w,vs = [iv k,w] ∧ k ≤ (splitT i).length ∧ OwnS st.heap.length s 1 w (spT i k).length ((spT i k).flatMap encL) ∧ Fr st.heap.length ({ heap := st.heap,lo := st.heap.length } : St) s) (fun k => (splitT i).length - k) ⟨_,by simp only [↓reduceIte,go_sem,hl1];first | done | rfl,Nat.zero_le _,.nil,hFr⟩ ?_
 clear hFr hOv w1 w2
 rintro k tm2 s2 ⟨w,hv,hk1,hO,hFr⟩ hS
 simp only [List.map_cons,List.map_nil,List.cons.injEq,and_true] at hv
 obtain ⟨hv6,hv5⟩ := hv
 have hl2 : tm2.length = 42 := (by rw [hS.1];simp only [put_len,hl1]);have j3 : tg tm2 3 = v := (by rw [hS.2 3 (by decide)];simp only [↓reduceIte,go_sem,hl1,hv3,hv4]);have j4 : tg tm2 4 = iv i := (by rw [hS.2 4 (by decide)];simp only [↓reduceIte,go_sem,hl1,hv3,hv4]);clear hS
 refine go (bw4 hl2 hv6 j3 hVs) fnil ?_
 refine ⟨decide ((k : Int) < (splitT i).length),by simp only [↓reduceIte,go_sem,hl2],fun hb => ?_,fun hb1 => ?_⟩
 ·have hlt := of_decide_eq_false hb
  obtain rfl : k = (splitT i).length := by omega
  have e : spT i (splitT i).length = splitT (i + 1) := by unfold spT;rw [List.take_length,splitT]
  rw [e] at hO
  refine go (bw4 hl2 hv5 j4 hw1) fnil ?_
  exact ⟨w,by simp only [↓reduceIte,go_sem,hl2],by omega,hO,hFr⟩
 have hltk : k < (splitT i).length := by have := of_decide_eq_true hb1;omega
 have hw2 : IntKind.wrap .i64 ((k : Int) + 1) = ((k + 1 : Nat) : Int) := wrap_nat (n := k + 1) (by omega)
 have hsk := spT_succ hltk
 have hqm := mem_splitT.1 (List.getElem_mem hltk)
 have hql := splitT_lay (List.getElem_mem hltk)
 have hin := rgs_in (l := (splitT i)[k]) (n := (splitT i)[k].length) (Nat.le_refl _) (fun j hj => hqm.2 j (by omega))
 rw [List.take_length] at hin
 have hlk := spT_len (i := i) (k := k) (by omega) (by omega)
 obtain ⟨m,em⟩ : ∃ m : Nat,layersL (splitT i)[k] = m := ⟨(layersL (splitT i)[k]).toNat,by omega⟩
 have k29 := c29 (elL (splitT i)[k]) (splitT i)[k] (el_sl _) (by omega) (fun x hx => by have := hin x hx;unfold inI;omega)
 rw [em] at k29 hsk hql
 rw [Int.toNat_natCast] at hsk
 refine ⟨by omega,?_⟩
 refine go hl2 fnil ?_
 refine wp_for [7,5] (fun n vs s => ∃ w,vs = [iv n,w] ∧ n ≤ m + 1 ∧ OwnS st.heap.length s 1 w (spT i k ++ growS (splitT i)[k] n).length ((spT i k ++ growS (splitT i)[k] n).flatMap encL) ∧ Fr st.heap.length ({ heap := st.heap,lo := st.heap.length } : St) s) (fun n => m + 1 - n) ⟨w,by simp only [↓reduceIte,go_sem,hl2,hv5];first | done | rfl,Nat.zero_le _,by simpa [growS] using hO,hFr⟩ ?_
 clear hO hFr hv5
 rintro n tm3 s3 ⟨w,hv,hn1,hO,hFr⟩ hS
 simp only [List.map_cons,List.map_nil,List.cons.injEq,and_true] at hv
 obtain ⟨hv7,hv5⟩ := hv
 have hl3 : tm3.length = 42 := (by rw [hS.1];simp only [put_len,hl2]);have k3 : tg tm3 3 = v := (by rw [hS.2 3 (by decide)];simp only [↓reduceIte,go_sem,hl2,j3,hv6]);have k6 : tg tm3 6 = iv k := (by rw [hS.2 6 (by decide)];simp only [↓reduceIte,go_sem,hl2,j3,hv6]);clear hS
 have w1 := hFr.len
 have w2 := hFr.lo
 have w3 := hFr.up
 simp only at w1 w2 w3
 refine go (bw6 hl3 hv7 k3 k6 ec ei) (bw k29 fnil) ?_
 refine ⟨decide ((n : Int) ≤ m),by simp only [↓reduceIte,go_sem,hl3],fun hb => ?_,fun hb1 => ?_⟩
 ·have hlt := of_decide_eq_false hb
  obtain rfl : n = m + 1 := by omega
  rw [← hsk] at hO
  refine go (bw3 hl3 k6 hw2) fnil ?_
  exact ⟨w,by simp only [↓reduceIte,go_sem,hl3,hv5],by omega,hO,hFr⟩
 have hltn : n ≤ m := by have := of_decide_eq_true hb1;omega
 have hw3 : IntKind.wrap .i64 ((n : Int) + 1) = ((n + 1 : Nat) : Int) := wrap_nat (n := n + 1) (by omega)
 have hgl := growS_len (splitT i)[k] n
 have hsu := growS_succ (splitT i)[k] n
 refine ⟨by omega,?_⟩
 refine go (bw7 hl3 hv7 hv5 k3 k6 ec ei) fnil ?_
 refine wops_append (m := s3.heap.length) rfl rfl (by simp only [↓reduceIte,go_sem,hl3];first | done | rfl) (by simp only [↓reduceIte,go_sem,hl3];first | done | rfl) .nil (el_sl (splitT i)[k]).sl (Nat.le_refl _) (flatMap_len (fun _ _ => rfl)) (encI_cell _) (by simp only [maxList];omega) ?_
 intro u1 s4 hU1 hF1 hg1
 rw [encI_share,List.nil_append,Nat.zero_add] at hU1
 have x1 := hF1.len
 have x2 := hF1.lo
 have x3 := hF1.up
 refine go (bw hl3 hv7) fnil ?_
 refine wops_append (m := s3.heap.length) rfl rfl (by simp only [↓reduceIte,go_sem,hl3];first | done | rfl) (by simp only [↓reduceIte,go_sem,hl3];first | done | rfl) hU1.push rfl (by simp only [len_push];omega) (by rfl) (by rfl) (by simp only [maxList];omega) ?_
 intro u2 s5 hU2 hF2 hg2
 have y1 := hF2.len
 have y2 := hF2.lo
 have y3 := hF2.up
 simp only [lo_push,len_push] at y1 y2 y3
 have hF5 : Fr s3.heap.length s3 s5 := (hF1.push (by omega)).trans hF2
 have hx5 : HExt s3.heap s5.heap := hF5.hext
 have hO5 := hO.hext hx5
 have hFr5 : Fr st.heap.length ({ heap := st.heap,lo := st.heap.length } : St) s5 := hFr.trans (hF5.mono (by omega))
 have hU : SlOf 1 encI u2 ((splitT i)[k] ++ [(n : Int)]) := SlOf.of_sl hU2.sl (by simp) (by simp [share_int]) (fun _ => rfl)
 have hsh : u2.share = elL ((splitT i)[k] ++ [(n : Int)]) := share_own hU2 (by simp) (by simp [share_int]) (by simp)
 have uc := hU.cells
 have ui := hU.isCell
 refine go (bw4 hl3 hv5 uc ui) fnil ?_
 refine wops_append (m := st.heap.length) rfl rfl (by simp only [↓reduceIte,go_sem,hl3,hv5];first | done | rfl) (by simp only [↓reduceIte,go_sem,hl3];first | done | rfl) hO5.push rfl (by simp only [len_push];omega) (by rfl) (by simp only [List.all_cons,List.all_nil,hsh,el_isCell,Bool.and_true]) (by simp only [maxList,List.length_append];omega) ?_
 intro w' s6 hO' hFr' hk
 refine go (bw3 hl3 hv7 hw3) fnil ?_
 exact ⟨w',by simp only [↓reduceIte,go_sem,hl3],by omega,by rw [hsu];simpa [hsh,el_share,Nat.add_assoc] using hO',(hFr5.push (by omega)).trans hFr'⟩
end Go.Den.Ch
end
section
namespace Go.Proofs
open Go.Shelf
def Tryz.lays156_ren : Go.Shelf.Ren := ⟨fun | 156 => 138 | 165 => 151 | 166 => 152 | 169 => 153 | 240 => 156 | 241 => 157 | 276 => 165 | 277 => 166 | n => n,fun | 31 => 125 | 9 => 9 | 3 => 3 | 4 => 4 | 0 => 0 | 20 => 20 | 72 => 164 | 76 => 168 | 70 => 162 | 37 => 89 | 75 => 167 | 127 => 173 | 164 => 182 | 5 => 5 | 80 => 170 | n => n,fun | n => n⟩
theorem Tryz.lays156 : Go.Proofs.Lays.n156 Tryz.prog Tryz.lays156_ren := {
 mixed := by kernel_rfl
 f156 := Tryz.func138.trans (congrArg some (by kernel_rfl))
 f165 := Tryz.func151.trans (congrArg some (by kernel_rfl))
 f166 := Tryz.func152.trans (congrArg some (by kernel_rfl))
 f169 := Tryz.func153.trans (congrArg some (by kernel_rfl))
 f240 := Tryz.func156.trans (congrArg some (by kernel_rfl))
 f241 := Tryz.func157.trans (congrArg some (by kernel_rfl))
 f276 := Tryz.func165.trans (congrArg some (by kernel_rfl))
 f277 := Tryz.func166.trans (congrArg some (by kernel_rfl))
 t0 := Tryz.underlying0
 a0 := Tryz.isAgg0
 z0 := Tryz.sizeOf0
 v0 := Tryz.zeroValue0
 t3 := Tryz.underlying3
 a3 := Tryz.isAgg3
 z3 := Tryz.sizeOf3
 v3 := Tryz.zeroValue3
 t4 := Tryz.underlying4
 a4 := Tryz.isAgg4
 z4 := Tryz.sizeOf4
 v4 := Tryz.zeroValue4
 t9 := Tryz.underlying9
 a9 := Tryz.isAgg9
 z9 := Tryz.sizeOf9
 v9 := Tryz.zeroValue9
 t20 := Tryz.underlying20
 a20 := Tryz.isAgg20
 z20 := Tryz.sizeOf20
 v20 := Tryz.zeroValue20
 t31 := Tryz.underlying125
 a31 := Tryz.isAgg125
 z31 := Tryz.sizeOf125
 v31 := Tryz.zeroValue125
 t37 := Tryz.underlying89
 a37 := Tryz.isAgg89
 z37 := Tryz.sizeOf89
 v37 := Tryz.zeroValue89
 t70 := Tryz.underlying162
 a70 := Tryz.isAgg162
 z70 := Tryz.sizeOf162
 v70 := Tryz.zeroValue162
 t72 := Tryz.underlying164
 a72 := Tryz.isAgg164
 z72 := Tryz.sizeOf164
 v72 := Tryz.zeroValue164
 t75 := Tryz.underlying167
 a75 := Tryz.isAgg167
 z75 := Tryz.sizeOf167
 v75 := Tryz.zeroValue167
 t76 := Tryz.underlying168
 a76 := Tryz.isAgg168
 z76 := Tryz.sizeOf168
 v76 := Tryz.zeroValue168
 t127 := Tryz.underlying173
 a127 := Tryz.isAgg173
 z127 := Tryz.sizeOf173
 v127 := Tryz.zeroValue173
 t164 := Tryz.underlying182
 a164 := Tryz.isAgg182
 z164 := Tryz.sizeOf182
 v164 := Tryz.zeroValue182 }
theorem Tryz.Builder_Extra_156 : Builder.Extra Tryz.prog Tryz.lays156_ren := {
 sizeBuilder := by kernel_rfl
 liesBuilder := by kernel_rfl
 t5 := Tryz.underlying5
 a5 := Tryz.isAgg5
 z5 := Tryz.sizeOf5
 v5 := Tryz.zeroValue5
 infoByte := by kernel_rfl
 cellsByte := by kernel_rfl
 sizeByte := by kernel_rfl
 neB5 := by decide }
open Go.RowKit in
theorem Tryz.strings_Join_none (a : Option Addr) (c : Nat) (sep : ByteArray) (w : World) :
  Calls Tryz.prog 138 #[.slice a 0 c,.string sep] w fun e w' => e = .returned (.string ⟨#[]⟩) ∧ w' = w := Any.strings_Join_none Tryz.lays156 Tryz.Builder_Extra_156 a c sep w
open Go.RowKit in
theorem Tryz.strings_Join (bk o c : Nat) (xs : List ByteArray) (sep : ByteArray) (w : World) (hcells : ∀ (j : Nat) x,xs[j]? = some x → w.cell? ⟨bk,o + j,none⟩ = some (.string x)) (hbk : bk < w.heap.size) (hN : xs.length ≤ 140737488355328) (hcap : xs.length ≤ c) (hlen : (Lib.join (xs.map (·.data.toList)) sep.data.toList).length ≤ 140737488355328) :
  Calls Tryz.prog 138 #[.slice (some ⟨bk,o,none⟩) xs.length c,.string sep] w fun e w' => e = .returned (.string ⟨(Lib.join (xs.map (·.data.toList)) sep.data.toList).toArray⟩) ∧ Below w.heap.size w w' := Any.strings_Join Tryz.lays156 Tryz.Builder_Extra_156 bk o c xs sep w hcells hbk hN hcap hlen
def Tryz.lays171_ren : Go.Shelf.Ren := ⟨fun | 171 => 137 | 243 => 150 | 246 => 155 | 283 => 161 | 284 => 162 | 285 => 163 | 286 => 164 | 129 => 172 | 317 => 171 | 318 => 173 | 319 => 174 | 320 => 175 | 337 => 181 | 338 => 182 | n => n,fun | 3 => 3 | 9 => 9 | 2 => 2 | 4 => 4 | 171 => 176 | 0 => 0 | 53 => 177 | 37 => 89 | 5 => 5 | 173 => 180 | 212 => 191 | 51 => 192 | 20 => 20 | 213 => 193 | 46 => 194 | 232 => 203 | 233 => 204 | n => n,fun | 17 => 0 | 18 => 4 | 19 => 5 | n => n⟩
theorem Tryz.lays171 : Go.Proofs.Lays.n171 Tryz.prog Tryz.lays171_ren := {
 mixed := by kernel_rfl
 f129 := Tryz.func172.trans (congrArg some (by kernel_rfl))
 f171 := Tryz.func137.trans (congrArg some (by kernel_rfl))
 f243 := Tryz.func150.trans (congrArg some (by kernel_rfl))
 f246 := Tryz.func155.trans (congrArg some (by kernel_rfl))
 f283 := Tryz.func161.trans (congrArg some (by kernel_rfl))
 f284 := Tryz.func162.trans (congrArg some (by kernel_rfl))
 f285 := Tryz.func163.trans (congrArg some (by kernel_rfl))
 f286 := Tryz.func164.trans (congrArg some (by kernel_rfl))
 f317 := Tryz.func171.trans (congrArg some (by kernel_rfl))
 f318 := Tryz.func173.trans (congrArg some (by kernel_rfl))
 f319 := Tryz.func174.trans (congrArg some (by kernel_rfl))
 f320 := Tryz.func175.trans (congrArg some (by kernel_rfl))
 f337 := Tryz.func181.trans (congrArg some (by kernel_rfl))
 f338 := Tryz.func182.trans (congrArg some (by kernel_rfl))
 t0 := Tryz.underlying0
 a0 := Tryz.isAgg0
 z0 := Tryz.sizeOf0
 v0 := Tryz.zeroValue0
 t2 := Tryz.underlying2
 a2 := Tryz.isAgg2
 z2 := Tryz.sizeOf2
 v2 := Tryz.zeroValue2
 t3 := Tryz.underlying3
 a3 := Tryz.isAgg3
 z3 := Tryz.sizeOf3
 v3 := Tryz.zeroValue3
 t4 := Tryz.underlying4
 a4 := Tryz.isAgg4
 z4 := Tryz.sizeOf4
 v4 := Tryz.zeroValue4
 t5 := Tryz.underlying5
 a5 := Tryz.isAgg5
 z5 := Tryz.sizeOf5
 v5 := Tryz.zeroValue5
 t9 := Tryz.underlying9
 a9 := Tryz.isAgg9
 z9 := Tryz.sizeOf9
 v9 := Tryz.zeroValue9
 t20 := Tryz.underlying20
 a20 := Tryz.isAgg20
 z20 := Tryz.sizeOf20
 v20 := Tryz.zeroValue20
 t37 := Tryz.underlying89
 a37 := Tryz.isAgg89
 z37 := Tryz.sizeOf89
 v37 := Tryz.zeroValue89
 t46 := Tryz.underlying194
 a46 := Tryz.isAgg194
 z46 := Tryz.sizeOf194
 v46 := Tryz.zeroValue194
 t51 := Tryz.underlying192
 a51 := Tryz.isAgg192
 z51 := Tryz.sizeOf192
 v51 := Tryz.zeroValue192
 t53 := Tryz.underlying177
 a53 := Tryz.isAgg177
 z53 := Tryz.sizeOf177
 v53 := Tryz.zeroValue177
 t171 := Tryz.underlying176
 a171 := Tryz.isAgg176
 z171 := Tryz.sizeOf176
 v171 := Tryz.zeroValue176
 t173 := Tryz.underlying180
 a173 := Tryz.isAgg180
 z173 := Tryz.sizeOf180
 v173 := Tryz.zeroValue180
 t212 := Tryz.underlying191
 a212 := Tryz.isAgg191
 z212 := Tryz.sizeOf191
 v212 := Tryz.zeroValue191
 t213 := Tryz.underlying193
 a213 := Tryz.isAgg193
 z213 := Tryz.sizeOf193
 t232 := Tryz.underlying203
 a232 := Tryz.isAgg203
 z232 := Tryz.sizeOf203
 v232 := Tryz.zeroValue203
 t233 := Tryz.underlying204
 a233 := Tryz.isAgg204
 z233 := Tryz.sizeOf204
 v233 := Tryz.zeroValue204
 g17 := by kernel_rfl
 g18 := by kernel_rfl
 g19 := by kernel_rfl }
open Go.RowKit Go.Sort Go.Lib in
theorem Tryz.strconv_Itoa_small (i : Nat) (hi : i < 100) (w : World) :
  Calls Tryz.prog 137 #[.int .i64 i] w fun e w' => e = .returned (.string ⟨(Lib.decDigits i).toArray⟩) ∧ w' = w := Any.strconv_Itoa_small Tryz.lays171 i hi w
def Tryz.lays146_ren : Go.Shelf.Ren := ⟨fun | 146 => 139 | 221 => 154 | 268 => 158 | 138 => 159 | 143 => 160 | 195 => 167 | 197 => 168 | 218 => 169 | 219 => 170 | 260 => 176 | 217 => 177 | 225 => 178 | 224 => 179 | 267 => 180 | 266 => 183 | 314 => 184 | n => n,fun | 9 => 9 | 31 => 125 | 3 => 3 | 4 => 4 | 0 => 0 | 105 => 186 | 21 => 21 | 5 => 5 | 46 => 194 | 119 => 197 | 139 => 200 | 138 => 199 | 146 => 201 | 51 => 192 | n => n,fun | 1 => 1 | 3 => 2 | 4 => 3 | n => n⟩
theorem Tryz.lays146 : Go.Proofs.Lays.n146 Tryz.prog Tryz.lays146_ren := {
 mixed := by kernel_rfl
 f138 := Tryz.func159.trans (congrArg some (by kernel_rfl))
 f143 := Tryz.func160.trans (congrArg some (by kernel_rfl))
 f146 := Tryz.func139.trans (congrArg some (by kernel_rfl))
 f195 := Tryz.func167.trans (congrArg some (by kernel_rfl))
 f197 := Tryz.func168.trans (congrArg some (by kernel_rfl))
 f217 := Tryz.func177.trans (congrArg some (by kernel_rfl))
 f218 := Tryz.func169.trans (congrArg some (by kernel_rfl))
 f219 := Tryz.func170.trans (congrArg some (by kernel_rfl))
 f221 := Tryz.func154.trans (congrArg some (by kernel_rfl))
 f224 := Tryz.func179.trans (congrArg some (by kernel_rfl))
 f225 := Tryz.func178.trans (congrArg some (by kernel_rfl))
 f260 := Tryz.func176.trans (congrArg some (by kernel_rfl))
 f266 := Tryz.func183.trans (congrArg some (by kernel_rfl))
 f267 := Tryz.func180.trans (congrArg some (by kernel_rfl))
 f268 := Tryz.func158.trans (congrArg some (by kernel_rfl))
 f314 := Tryz.func184.trans (congrArg some (by kernel_rfl))
 t0 := Tryz.underlying0
 a0 := Tryz.isAgg0
 z0 := Tryz.sizeOf0
 v0 := Tryz.zeroValue0
 t3 := Tryz.underlying3
 a3 := Tryz.isAgg3
 z3 := Tryz.sizeOf3
 v3 := Tryz.zeroValue3
 t4 := Tryz.underlying4
 a4 := Tryz.isAgg4
 z4 := Tryz.sizeOf4
 v4 := Tryz.zeroValue4
 t5 := Tryz.underlying5
 a5 := Tryz.isAgg5
 z5 := Tryz.sizeOf5
 v5 := Tryz.zeroValue5
 t9 := Tryz.underlying9
 a9 := Tryz.isAgg9
 z9 := Tryz.sizeOf9
 v9 := Tryz.zeroValue9
 t21 := Tryz.underlying21
 a21 := Tryz.isAgg21
 z21 := Tryz.sizeOf21
 v21 := Tryz.zeroValue21
 t31 := Tryz.underlying125
 a31 := Tryz.isAgg125
 z31 := Tryz.sizeOf125
 v31 := Tryz.zeroValue125
 t46 := Tryz.underlying194
 a46 := Tryz.isAgg194
 z46 := Tryz.sizeOf194
 v46 := Tryz.zeroValue194
 t51 := Tryz.underlying192
 a51 := Tryz.isAgg192
 z51 := Tryz.sizeOf192
 v51 := Tryz.zeroValue192
 t105 := Tryz.underlying186
 a105 := Tryz.isAgg186
 z105 := Tryz.sizeOf186
 v105 := Tryz.zeroValue186
 t119 := Tryz.underlying197
 a119 := Tryz.isAgg197
 z119 := Tryz.sizeOf197
 t138 := Tryz.underlying199
 a138 := Tryz.isAgg199
 z138 := Tryz.sizeOf199
 v138 := Tryz.zeroValue199
 t139 := Tryz.underlying200
 a139 := Tryz.isAgg200
 z139 := Tryz.sizeOf200
 v139 := Tryz.zeroValue200
 t146 := Tryz.underlying201
 a146 := Tryz.isAgg201
 z146 := Tryz.sizeOf201
 v146 := Tryz.zeroValue201
 g1 := by kernel_rfl
 g3 := by kernel_rfl
 g4 := by kernel_rfl }
open Go.RowKit Go.Lib in
theorem Tryz.strings_Split (s sep : ByteArray) (m : Int) (w : World) (hs : s.size < 4294967281) (hm : w.cell? ⟨1,0,none⟩ = some (.int .i64 m)) (h1 : 1 ≤ sep.size) :
  Calls Tryz.prog 139 #[.string s,.string sep] w fun e w' =>
   e = .returned (.slice (some ⟨w.heap.size,0,none⟩) (Lib.countB s sep + 1) (Lib.countB s sep + 1)) ∧ w' = w.alloc (.cells ((Lib.splitB sep 0 (Lib.countB s sep) s).map Value.string).toArray 9) := Any.strings_Split Tryz.lays146 (by kernel_rfl) s sep m w hs hm h1
end Go.Proofs
end
section
namespace Go.Den.Ch
open Go.Proofs
def cutS (b : UInt8) : List UInt8 → List (List UInt8)
 | [] => [[]]
 | x :: xs => if x = b then [] :: cutS b xs else match cutS b xs with
  | h :: t => (x :: h) :: t
  | [] => [[x]]
theorem cutS_cons (b : UInt8) (s : List UInt8) : ∃ h t,cutS b s = h :: t := by
 cases s with
 | nil => exact ⟨_,_,rfl⟩
 | cons x xs =>
  simp only [cutS]
  split
  ·exact ⟨_,_,rfl⟩
  ·split <;> exact ⟨_,_,rfl⟩
theorem splitL_cut (b : UInt8) : ∀ (s acc h : List UInt8) (t : List (List UInt8)),cutS b s = h :: t → splitL b acc s = (acc ++ h) :: t
 | [],acc,h,t,e => by simp only [cutS,List.cons.injEq] at e;obtain ⟨rfl,rfl⟩ := e;simp [splitL]
 | x :: xs,acc,h,t,e => by
  obtain ⟨h',t',e'⟩ := cutS_cons b xs
  simp only [cutS,e'] at e
  simp only [splitL]
  split at e
  ·rename_i hx
   rw [if_pos hx]
   simp only [List.cons.injEq] at e
   obtain ⟨rfl,rfl⟩ := e
   rw [splitL_cut b xs [] h' t' e']
   simp
  ·rename_i hx
   rw [if_neg hx]
   simp only [List.cons.injEq] at e
   obtain ⟨rfl,rfl⟩ := e
   rw [splitL_cut b xs (acc ++ [x]) h' t' e']
   simp
theorem splitL_cutS (b : UInt8) (s : List UInt8) : splitL b [] s = cutS b s := by
 obtain ⟨h,t,e⟩ := cutS_cons b s
 rw [splitL_cut b s [] h t e,e];rfl
theorem index_cons (b x : UInt8) (l : List UInt8) : Lib.index (x :: l) [b] = if x = b then 0 else if Lib.index l [b] == -1 then -1 else Lib.index l [b] + 1 := by
 rw [Lib.index]
 by_cases h : x = b
 ·subst h;simp
 ·have : (b == x) = false := by rw [beq_eq_false_iff_ne];exact fun e => h e.symm
  have h2 : ¬ b = x := fun e => h e.symm
  simp [h2,h]
theorem cutS_miss (b : UInt8) : ∀ s : List UInt8,Lib.index s [b] = -1 → cutS b s = [s]
 | [],_ => rfl
 | x :: l,h => by
  rw [index_cons] at h
  split at h
  ·omega
  ·rename_i hx
   have := Lib.index_ge l [b]
   split at h
   ·rename_i h1
    simp only [cutS,if_neg hx,cutS_miss b l (eq_of_beq h1)]
   ·omega
theorem cutS_hit (b : UInt8) : ∀ (s : List UInt8) (i : Nat),Lib.index s [b] = i → cutS b s = s.take i :: cutS b (s.drop (i + 1))
 | [],i,h => by simp [Lib.index] at h
 | x :: l,i,h => by
  rw [index_cons] at h
  split at h
  ·rename_i hx
   have : i = 0 := by omega
   subst this
   simp only [cutS,if_pos hx];rfl
  ·rename_i hx
   split at h
   ·omega
   ·have hg := Lib.index_ge l [b]
    rename_i hn
    have hn' : Lib.index l [b] ≠ -1 := fun e => hn (by rw [e];rfl)
    obtain ⟨j,rfl⟩ : ∃ j,i = j + 1 := ⟨i - 1,by omega⟩
    have ih := cutS_hit b l j (by omega)
    simp only [cutS,if_neg hx,ih]
    rfl
theorem splitK_cut (b : UInt8) : ∀ (n : Nat) (s : List UInt8),s.length < n → Lib.splitK [b] 0 (Lib.countFrom [b] n s) s = cutS b s ∧ (cutS b s).length = Lib.countFrom [b] n s + 1
 | 0,s,h => by omega
 | n + 1,s,h => by
  have hg := Lib.index_ge s [b]
  by_cases hi : Lib.index s [b] = -1
  ·have h1 : (Lib.index s [b] == -1) = true := by rw [hi];rfl
   simp only [Lib.countFrom,h1,if_true,Lib.splitK]
   rw [cutS_miss b s hi]
   exact ⟨rfl,rfl⟩
  ·have h1 : (Lib.index s [b] == -1) = false := by rw [beq_eq_false_iff_ne];exact hi
   obtain ⟨i,e⟩ : ∃ i : Nat,Lib.index s [b] = i := ⟨(Lib.index s [b]).toNat,by omega⟩
   have hc := cutS_hit b s i e
   have hi2 : i < s.length := by
    have := Lib.index_room s [b] (by omega)
    simp at this;omega
   obtain ⟨k1,k2⟩ := splitK_cut b n (s.drop (i + 1)) (by simp;omega)
   have e2 : (Lib.index s [b]).toNat = i := by omega
   simp only [Lib.countFrom,h1,Bool.false_eq_true,if_false,e2,List.length_cons,List.length_nil,Nat.zero_add]
   rw [Nat.add_comm 1]
   simp only [Lib.splitK,h1,Bool.false_eq_true,if_false,e2,List.length_cons,List.length_nil,Nat.zero_add,Nat.add_zero]
   rw [k1,hc]
   exact ⟨rfl,by simp only [List.length_cons];omega⟩
theorem split_data (s sep : ByteArray) (b : UInt8) (hb : unB sep = [b]) : (Lib.splitB sep 0 (Lib.countB s sep) s).map unB = splitL b [] (unB s) ∧ (splitL b [] (unB s)).length = Lib.countB s sep + 1 := by
 have h1 := Lib.splitB_data sep 0 (Lib.countB s sep) s
 have hb' : sep.data.toList = [b] := hb
 have hc : Lib.countB s sep = Lib.countFrom [b] ((unB s).length + 1) (unB s) := by
  show Lib.count s.data.toList sep.data.toList = _
  rw [hb'];rfl
 rw [hc] at h1 ⊢
 rw [hb'] at h1
 obtain ⟨k1,k2⟩ := splitK_cut b ((unB s).length + 1) (unB s) (by omega)
 rw [splitL_cutS]
 exact ⟨h1.trans k1,k2⟩
theorem strs_row {G : Gh} {w : World} {b : Nat} {T : TypeId} : ∀ (l pre : List ByteArray),w.heap[b]? = some (Obj.cells ((pre ++ l).map Value.string).toArray T (0,0)) → VRC G w (l.map PV.str) b pre.length
 | [],pre,h => by simp only [List.map_nil,VRC]
 | s :: l,pre,h => by
  simp only [List.map_cons,VRC]
  refine ⟨⟨.string s,?_,by simp only [VR]⟩,?_⟩
  ·rw [cell_row h];simp
  ·have := strs_row (G := G) l (pre ++ [s]) (by simpa using h)
   simpa using this
theorem encS_map (l : List ByteArray) : (l.map unB).flatMap encS = l.map PV.str := by
 induction l with
 | nil => rfl
 | cons s l ih => rw [List.map_cons,List.flatMap_cons,ih];rfl
theorem strs_low (m : Nat) : ∀ l : List ByteArray,lowL m (l.map PV.str) = true
 | [] => rfl
 | s :: l => by simp only [List.map_cons,lowL,PV.low,strs_low m l,Bool.and_self]
theorem enter137 : Enterable Tryz.prog 137 := ⟨_,Tryz.func137,by kernel_rfl,by kernel_rfl⟩
theorem enter138 : Enterable Tryz.prog 138 := ⟨_,Tryz.func138,by kernel_rfl,by kernel_rfl⟩
theorem enter139 : Enterable Tryz.prog 139 := ⟨_,Tryz.func139,by kernel_rfl,by kernel_rfl⟩
theorem digits_itoa : ∀ i,i < 100 → Lib.decDigits i = itoaL i := by decide +kernel
section
variable {B0 : Nat} {w0 w : World} {G : Gh} {st st' : St} {args : List PV} {avs : List Value} {r : CR}
theorem callR_same (hw : WR Tryz.prog B0 w0 G st.heap w) {v : PV} {u : Value} (hv : VR G w v u) : CallR Tryz.prog B0 w0 G st w (.ret v) st (.returned u) w :=
 ⟨G,hw,Ext.refl _ _ _ _,u,rfl,hv⟩
theorem itoa_ok (h : itoaR st args = some (some (r,st'))) (hw : WR Tryz.prog B0 w0 G st.heap w) (ha : VRL G w args avs) : ∀ n,CallsIn Fence.wide n Tryz.prog 137 avs.toArray w (CallR Tryz.prog B0 w0 G st w r st') := by
 intro n
 unfold itoaR at h
 split at h
 ·rename_i k
  split at h
  ·rename_i hk
   simp only [Option.some.injEq,Prod.mk.injEq] at h
   obtain ⟨rfl,rfl⟩ := h
   obtain ⟨v,vs',rfl,h1,h2⟩ := VRL.cons_iff.1 ha
   rw [VRL.nil_iff.1 h2]
   simp only [VR] at h1
   subst h1
   obtain ⟨i,rfl⟩ : ∃ i : Nat,k = i := ⟨k.toNat,by omega⟩
   refine callsIn_wide.2 ((Tryz.strconv_Itoa_small i (by omega) w).mono ?_)
   rintro e w' ⟨rfl,rfl⟩
   refine callR_same hw ?_
   rw [digits_itoa i (by omega),Int.toNat_natCast]
   simp only [VR]
   rfl
  ·cases h
 ·cases h
theorem strs_eq : ∀ {cs : List PV} {l : List ByteArray},strs cs = some l → cs = l.map PV.str
 | [],l,h => by simp only [strs,Option.some.injEq] at h;subst h;rfl
 | c :: cs,l,h => by
  cases c with
  | str s =>
   simp only [strs,Option.map_eq_some_iff] at h
   obtain ⟨l',h1,rfl⟩ := h
   rw [strs_eq h1];rfl
  | _ => simp [strs] at h
theorem VRC_get {G : Gh} {w : World} : ∀ {cs : List PV} {b off j : Nat} {p : PV},VRC G w cs b off → cs[j]? = some p → ∃ v,w.cell? ⟨b,off + j,none⟩ = some v ∧ VR G w p v
 | [],b,off,j,p,h,hj => by simp at hj
 | c :: cs,b,off,0,p,h,hj => by
  simp only [VRC] at h
  simp only [List.getElem?_cons_zero,Option.some.injEq] at hj
  subst hj
  exact h.1
 | c :: cs,b,off,j + 1,p,h,hj => by
  simp only [VRC] at h
  simp only [List.getElem?_cons_succ] at hj
  obtain ⟨v,h1,h2⟩ := VRC_get h.2 hj
  exact ⟨v,by rw [← h1];congr 2;omega,h2⟩
theorem join_ok (h : joinR st args = some (some (r,st'))) (hw : WR Tryz.prog B0 w0 G st.heap w) (ha : VRL G w args avs) : ∀ n,CallsIn Fence.wide n Tryz.prog 138 avs.toArray w (CallR Tryz.prog B0 w0 G st w r st') := by
 intro n
 unfold joinR at h
 split at h
 ·rename_i o k cs sep
  split at h
  ·rename_i l hl
   split at h
   ·rename_i hk
    simp only [Option.some.injEq,Prod.mk.injEq] at h
    obtain ⟨rfl,rfl⟩ := h
    obtain ⟨v,vs',rfl,h1,h2⟩ := VRL.cons_iff.1 ha
    obtain ⟨v2,vs2,rfl,h3,h4⟩ := VRL.cons_iff.1 h2
    rw [VRL.nil_iff.1 h4]
    simp only [VR] at h1 h3
    subst h3
    obtain ⟨b,off,cap,rfl,hcap,hcm,_,hrow⟩ := h1
    have hcs := strs_eq hl
    have hlen : l.length = k := by rw [hk.1,hcs,List.length_map]
    by_cases h0 : l = []
    ·subst h0
     have hk0 : k = 0 := by rw [← hlen];rfl
     subst hk0
     refine callsIn_wide.2 ((Tryz.strings_Join_none _ cap sep w).mono ?_)
     rintro e w' ⟨rfl,rfl⟩
     refine callR_same hw ?_
     simp only [VR]
     simp [List.intercalate,toB]
    ·have hne : cs ≠ [] := by rw [hcs];simpa using h0
     obtain ⟨m,hm1,hm2⟩ := hcm hne
     have hb := hw.cmLt hm1
     have hj : (Lib.join (l.map (·.data.toList)) sep.data.toList).length ≤ 140737488355328 := by
      have hl2 : ∀ (xs : List ByteArray),(∀ s ∈ xs,s.size ≤ 1000) → (Lib.join (xs.map (·.data.toList)) sep.data.toList).length ≤ xs.length * 2000 := by
       intro xs hxs
       cases xs with
       | nil => simp [Lib.join,List.intercalate]
       | cons x xs =>
        rw [List.map_cons,Lib.join_cons]
        have hx : x.data.toList.length ≤ 1000 := hxs x (by simp)
        have ht : ∀ ys : List ByteArray,(∀ s ∈ ys,s.size ≤ 1000) → (Lib.joinTail sep.data.toList (ys.map (·.data.toList))).length ≤ ys.length * 2000 := by
         intro ys hys
         induction ys with
         | nil => simp [Lib.joinTail]
         | cons y ys ih =>
          have h5 := ih (fun s hs => hys s (by simp [hs]))
          have h6 : y.data.toList.length ≤ 1000 := hys y (by simp)
          have h7 : sep.data.toList.length ≤ 1000 := hk.2.2.1
          simp only [Lib.joinTail,List.map_cons,List.flatten_cons,List.length_append,List.length_cons] at h5 ⊢
          omega
        have h8 := ht xs (fun s hs => hxs s (by simp [hs]))
        simp only [List.length_append,List.length_cons]
        omega
      have h9 := hl2 l (fun s hs => by
       have := List.all_eq_true.1 hk.2.2.2 s hs
       exact of_decide_eq_true this)
      have h10 : l.length * 2000 ≤ 1000 * 2000 := Nat.mul_le_mul_right _ (by omega)
      omega
     have hv := Tryz.strings_Join b off cap l sep w (fun j x hx => by
      obtain ⟨v,h5,h6⟩ := VRC_get (j := j) (p := .str x) hrow (by rw [hcs,List.getElem?_map,hx];rfl)
      simp only [VR] at h6
      rw [h5,h6]) hb (by omega) (by omega) hj
     rw [hlen] at hv
     refine callsIn_wide.2 (hv.mono ?_)
     rintro e w' ⟨rfl,hbl⟩
     have hf : Foreign B0 G w w' (fun _ => False) := .grow hbl.size (fun b hb => hbl.block b hb) ⟨hbl.os,hbl.output⟩
     refine ⟨G,hf.wr hw,Ext.grow hw hf,_,rfl,?_⟩
     simp only [VR]
     rfl
   ·cases h
  ·cases h
 ·cases h
theorem split_ok {m : Int} (hB : 1 < B0) (hm : w0.cell? ⟨1,0,none⟩ = some (.int .i64 m)) (h : splitR st args = some (some (r,st'))) (hw : WR Tryz.prog B0 w0 G st.heap w) (ha : VRL G w args avs) : ∀ n,CallsIn Fence.wide n Tryz.prog 139 avs.toArray w (CallR Tryz.prog B0 w0 G st w r st') := by
 intro n
 unfold splitR at h
 split at h
 ·rename_i s sep
  split at h
  ·rename_i b hb
   split at h
   ·rename_i hk
    simp only [Option.some.injEq,Prod.mk.injEq] at h
    obtain ⟨rfl,rfl⟩ := h
    obtain ⟨v,vs',rfl,h1,h2⟩ := VRL.cons_iff.1 ha
    obtain ⟨v2,vs2,rfl,h3,h4⟩ := VRL.cons_iff.1 h2
    rw [VRL.nil_iff.1 h4]
    simp only [VR] at h1 h3
    subst h1 h3
    have hm' : w.cell? ⟨1,0,none⟩ = some (.int .i64 m) := by
     rw [cell_of_heap (hw.low.2 1 hB)];exact hm
    have hsep : 1 ≤ sep.size := by
     have : (unB sep).length = 1 := by rw [hb];rfl
     have h5 : sep.size = (unB sep).length := rfl
     omega
    refine callsIn_wide.2 ((Tryz.strings_Split s sep m w (by omega) hm' hsep).mono ?_)
    rintro e w' ⟨rfl,rfl⟩
    obtain ⟨d1,d2⟩ := split_data s sep b hb
    rw [d2,← d1,encS_map]
    have hlen : (Lib.splitB sep 0 (Lib.countB s sep) s).length = Lib.countB s sep + 1 := by rw [← d2,← d1,List.length_map]
    obtain ⟨G',k1,k2,k3⟩ := shared_row hw ((Lib.splitB sep 0 (Lib.countB s sep) s).map PV.str) ((Lib.splitB sep 0 (Lib.countB s sep) s).map Value.string).toArray 9 (by simp) (fun m => strs_low m _) (fun G' w' hh => strs_row _ [] (by simpa using hh)) (Lib.countB s sep + 1) (Lib.countB s sep + 1) (Nat.le_refl _)
    exact ⟨G',k1,k2 _,_,rfl,k3⟩
   ·cases h
  ·cases h
 ·cases h
end
end Go.Den.Ch
end
section
namespace Go.Proofs.ChTry
open Go.RowKit Go.Extern.Stop Go.Stop Go.Extern
section
variable {P : Program} {ops : Array Oper} {Q : Exit → Act → World → Prop} {i : Nat} {rest : List Nat} {a : Act} {w w' : World} {o : Oper}
theorem ops_value {v : Value} (ho : ops[i]? = some o) (hg : o.guard = none) (hr : (execOp a.eval o).run P w = .ok (.value v) w') (h : wpOps P ops Q rest (a.put o.dst v) w') : wpOps P ops Q (i :: rest) a w := by
 simp only [wpOps,ho,Region.wanted,hg,if_true]
 left
 simp only [Oper.wp,Oper.upon,hr]
 exact h
theorem ops_skip (ho : ops[i]? = some o) (hg : o.guard = none) (hr : (execOp a.eval o).run P w = .ok .skip w') (h : wpOps P ops Q rest (a.put o.dst Go.undef) w') : wpOps P ops Q (i :: rest) a w := by
 simp only [wpOps,ho,Region.wanted,hg,if_true]
 left
 simp only [Oper.wp,Oper.upon,hr]
 exact h
theorem ops_defer {d : Deferred} (ho : ops[i]? = some o) (hg : o.guard = none) (hr : (execOp a.eval o).run P w = .ok (.defer d) w') (h : wpOps P ops Q rest ({ a with defers := d :: a.defers }.put o.dst Go.undef) w') : wpOps P ops Q (i :: rest) a w := by
 simp only [wpOps,ho,Region.wanted,hg,if_true]
 left
 simp only [Oper.wp,Oper.upon,hr]
 exact h
theorem ops_call {g : FuncId} {args : Array Value} {R : Ending → World → Prop} (ho : ops[i]? = some o) (hg : o.guard = none) (hr : (execOp a.eval o).run P w = .ok (.enter g args) w) (hc : Calls P g args w R) (h : ∀ e w'',R e w'' → match e with
  | .returned v => wpOps P ops Q rest (a.put o.dst v) w''
  | .panicked chain => Q (.panic chain) a w''
  | .outgrown => False) : wpOps P ops Q (i :: rest) a w := by
 simp only [wpOps,ho,Region.wanted,hg,if_true]
 left
 simp only [Oper.wp,Oper.upon,hr]
 refine hc.mono fun e w'' he => ?_
 have := h e w'' he
 cases e with
 | returned v => exact this
 | panicked chain => exact this
 | outgrown => exact this.elim
theorem ops_nil (h : Q .normal a w) : wpOps P ops Q [] a w := h
theorem store_row {t T : TypeId} {x y : Operand} {g s : Nat} {arr : Array Value} (ho : o.op = .store t x y) (hx : a.eval x = .pointer (some ⟨g,0,none⟩)) (hsz : Go.Den.sizeT P t = some s) (hg : w.heap[g]? = some (Obj.cells arr T (0,0))) (hs : (a.eval y).cells.size = s) (hs2 : arr.size = s) (h1 : ∀ u ∈ (a.eval y).cells.toList,u.oneCell' = true) :
  (execOp a.eval o).run P w = .ok .skip (w.putObj g (Obj.cells (a.eval y).cells T (0,0))) := by
 refine Go.Den.OpRun.unit (by unfold execOp;rw [ho]) ?_
 unfold Instr.storeAt storeVar
 have := Go.Den.run_storeCells_th (P := P) g 0 T (0,0) (a.eval y).cells.toList 0 arr w hg (Go.Den.Thawed.zero _) (by simp;omega) h1
 have e1 : (arr.toList.take 0 ++ (a.eval y).cells.toList ++ arr.toList.drop (0 + (a.eval y).cells.toList.length)).toArray = (a.eval y).cells := by
  rw [List.drop_of_length_le (by simp;omega)];simp
 simp only [Nat.add_zero] at this
 rw [e1] at this
 simp only [hx,Sem.run_bind,Go.Den.sureAddr_run,Result.andThen_ok,Go.Den.sizeOf_run hsz,hs,ne_eq,not_true_eq_false,if_false,this,Sem.run_ite]
end
theorem catch_idle (p q : Addr) (w : World) :
  CallsD Tryz.prog 127 #[.pointer (some p),.pointer (some q)] .returning w fun e u' w' => e = .returned (.tuple #[]) ∧ u' = .returning ∧ w' = w := by
 have hnil : ∀ w : World,(binOp BinOp.eql 20 .nilIface .nilIface).run Tryz.prog w = .ok (.bool true) w := fun _ => by kernel_rfl
 refine callsD_of_wpS Tryz.func127 rfl fun c₀ cs hu => ?_
 apply wpS_seq
 apply wpS_region
 simp [wpOpsS,go_sem,recoverD,hu,Tryz.ntmps127,Exit.thenS]
 have ht : #[Value.pointer (some p),Value.pointer (some q)] ++ (Array.replicate 15 Go.undef).setIfInBounds 4 Value.nilIface = #[.pointer (some p),.pointer (some q),Go.undef,Go.undef,Go.undef,Go.undef,.nilIface,Go.undef,Go.undef,Go.undef,Go.undef,Go.undef,Go.undef,Go.undef,Go.undef,Go.undef,Go.undef] := rfl
 rw [ht]
 refine wpS_of_wp ?_
 apply wp_block
 apply wp_seq
 apply wp_region
 simp [wpOps,go_sem,hnil,Exit.then]
 (repeat apply Or.inl)
 refine wp_cond_true (by simp [Act.eval]) ?_
 apply wp_region
 simp [wpOps,go_sem,Exit.inBlock]
 (repeat apply Or.inl)
 cases c₀
 simp_all [bodyPostS,results,Tryz.results127]
theorem catch_found (n : Nat) (a b c : Int) (x y z e0 : Value) (older : List PanicEntry) (w : World) (hp : w.heap[n]? = some (.cells #[x,y,z] 31 (0,0))) (hq : w.heap[n + 1]? = some (.cells #[e0] 32 (0,0))) :
  CallsD Tryz.prog 127 #[.pointer (some ⟨n,0,none⟩),.pointer (some ⟨n + 1,0,none⟩)] (.panicking ({ v := .iface 133 (.agg #[.int .i64 a,.int .i64 b,.int .i64 c]),recovered := false } :: older)) w fun e u' w' => e = .returned (.tuple #[]) ∧ u' = .panicking ({ v := .iface 133 (.agg #[.int .i64 a,.int .i64 b,.int .i64 c]),recovered := true } :: older) ∧
   w.heap.size ≤ w'.heap.size ∧ (∀ k,k < w.heap.size → k ≠ n → k ≠ n + 1 → w'.heap[k]? = w.heap[k]?) ∧ w'.heap[n]? = some (.cells #[.int .i64 a,.int .i64 b,.int .i64 c] 31 (0,0)) ∧ w'.heap[n + 1]? = some (.cells #[.int .i64 7] 32 (0,0)) ∧ w'.os = w.os ∧ w'.output = w.output := by
 have hnil : ∀ w : World,(binOp BinOp.eql 20 (.iface 133 (.agg #[.int .i64 a,.int .i64 b,.int .i64 c])) .nilIface).run Tryz.prog w = .ok (.bool false) w := fun _ => by kernel_rfl
 have hta : ∀ w : World,(Instr.typeAssert (.iface 133 (.agg #[.int .i64 a,.int .i64 b,.int .i64 c])) 20 133 true).run Tryz.prog w = .ok (.tuple #[.agg #[.int .i64 a,.int .i64 b,.int .i64 c],.bool true]) w := fun _ => by kernel_rfl
 have ln : n < w.heap.size := Go.Den.lt_of_heap hp
 have ln1 : n + 1 < w.heap.size := Go.Den.lt_of_heap hq
 refine callsD_of_wpS Tryz.func127 rfl fun c₀ cs hu => ?_
 apply wpS_seq
 apply wpS_region
 simp [wpOpsS,go_sem,recoverD,hu,Tryz.ntmps127,Exit.thenS]
 have ht : #[Value.pointer (some ⟨n,0,none⟩),Value.pointer (some ⟨n + 1,0,none⟩)] ++ (Array.replicate 15 Go.undef).setIfInBounds 4 (.iface 133 (.agg #[.int .i64 a,.int .i64 b,.int .i64 c])) = #[.pointer (some ⟨n,0,none⟩),.pointer (some ⟨n + 1,0,none⟩),Go.undef,Go.undef,Go.undef,Go.undef,.iface 133 (.agg #[.int .i64 a,.int .i64 b,.int .i64 c]),Go.undef,Go.undef,Go.undef,Go.undef,Go.undef,Go.undef,Go.undef,Go.undef,Go.undef,Go.undef] := rfl
 rw [ht]
 refine wpS_of_wp ?_
 apply wp_block
 apply wp_seq
 apply wp_region
 simp [wpOps,go_sem,hnil,Exit.then]
 (repeat apply Or.inl)
 refine wp_cond_false (by simp [Act.eval]) ?_
 apply wp_seq
 apply wp_region
 simp [wpOps,go_sem,Exit.then,hta]
 (repeat apply Or.inl)
 refine wp_cond_true (by simp [Act.eval]) ?_
 apply wp_seq
 apply wp_region
 refine ops_value (v := .pointer (some ⟨w.heap.size,0,none⟩)) (w' := w.alloc (.cells #[.int .i64 0,.int .i64 0,.int .i64 0] 133 (0,0))) rfl rfl (by simp [go_sem]) ?_
 refine ops_skip (w' := (w.alloc (.cells #[.int .i64 0,.int .i64 0,.int .i64 0] 133 (0,0))).putObj w.heap.size (.cells #[.int .i64 a,.int .i64 b,.int .i64 c] 133 (0,0))) rfl rfl (store_row (t := 133) (x := .tmp 3) (y := .tmp 11) (arr := #[.int .i64 0,.int .i64 0,.int .i64 0]) (s := 3) rfl rfl (by kernel_rfl) (Go.Den.heap_alloc_new _ _) rfl rfl (by simp [Act.eval,Act.put,Value.cells,Value.oneCell'])) ?_
 apply ops_nil
 generalize hW : (w.alloc (.cells #[.int .i64 0,.int .i64 0,.int .i64 0] 133 (0,0))).putObj w.heap.size (.cells #[.int .i64 a,.int .i64 b,.int .i64 c] 133 (0,0)) = W
 have hWos : W.os = w.os ∧ W.output = w.output := by rw [← hW];exact ⟨rfl,rfl⟩
 have hWs : w.heap.size ≤ W.heap.size := by rw [← hW,Go.Den.size_put,Go.Den.size_alloc];omega
 have hWo : ∀ k,k < w.heap.size → W.heap[k]? = w.heap[k]? := fun k hk => by rw [← hW,Go.Den.heap_put_other (by omega),Go.Den.heap_alloc_lt _ _ hk]
 have hWn : W.heap[w.heap.size]? = some (.cells #[.int .i64 a,.int .i64 b,.int .i64 c] 133 (0,0)) := by rw [← hW,Go.Den.heap_put_same (by rw [Go.Den.size_alloc];omega)]
 have c0 : W.cell? ⟨w.heap.size,0,none⟩ = some (.int .i64 a) := by rw [Go.Den.cell_row hWn];rfl
 have c1 : W.cell? ⟨w.heap.size,1,none⟩ = some (.int .i64 b) := by rw [Go.Den.cell_row hWn];rfl
 have c2 : W.cell? ⟨w.heap.size,2,none⟩ = some (.int .i64 c) := by rw [Go.Den.cell_row hWn];rfl
 show Code.wp _ _ _ _ _
 apply wp_region
 refine ops_value (v := .pointer (some ⟨w.heap.size,0,none⟩)) (w' := W) rfl rfl (by simp [go_sem,Act.put]) ?_
 refine ops_value (v := .agg #[.int .i64 a,.int .i64 b,.int .i64 c]) (w' := W) rfl rfl (by simp [go_sem,Act.put,c0,c1,c2]) ?_
 refine ops_skip (w' := W.putObj n (.cells #[.int .i64 a,.int .i64 b,.int .i64 c] 31 (0,0))) rfl rfl (store_row (t := 31) (x := .tmp 0) (y := .tmp 13) (arr := #[x,y,z]) (s := 3) rfl rfl (by kernel_rfl) ((hWo n ln).trans hp) rfl rfl (by simp [Act.eval,Act.put,Value.cells,Value.oneCell'])) ?_
 refine ops_skip (w' := (W.putObj n (.cells #[.int .i64 a,.int .i64 b,.int .i64 c] 31 (0,0))).putObj (n + 1) (.cells #[.int .i64 7] 32 (0,0))) rfl rfl (store_row (t := 32) (x := .tmp 1) (y := .const (.int .i64 7)) (arr := #[e0]) (s := 1) rfl rfl (by kernel_rfl) (by rw [Go.Den.heap_put_other (by omega)];exact (hWo (n + 1) ln1).trans hq) rfl rfl (by simp [Act.eval,Act.put,Value.cells,Value.oneCell'])) ?_
 apply ops_nil
 refine ⟨rfl,_,rfl,.tuple #[],by simp [results,Tryz.results127],rfl,rfl,?_,fun k hk h1 h2 => ?_,?_,?_,hWos⟩
 ·rw [Go.Den.size_put,Go.Den.size_put];exact hWs
 ·rw [Go.Den.heap_put_other h2,Go.Den.heap_put_other h1,hWo k hk]
 ·rw [Go.Den.heap_put_other (by omega),Go.Den.heap_put_same (by omega)]
 ·rw [Go.Den.heap_put_same (by rw [Go.Den.size_put];omega)]
theorem catch_none (n : Nat) (t : ByteArray) (x y z e0 : Value) (older : List PanicEntry) (w : World) (hp : w.heap[n]? = some (.cells #[x,y,z] 31 (0,0))) (hq : w.heap[n + 1]? = some (.cells #[e0] 32 (0,0))) :
  CallsD Tryz.prog 127 #[.pointer (some ⟨n,0,none⟩),.pointer (some ⟨n + 1,0,none⟩)] (.panicking ({ v := (.iface 135 (.agg #[.string t])),recovered := false } :: older)) w fun e u' w' => e = .returned (.tuple #[]) ∧ u' = .panicking ({ v := (.iface 135 (.agg #[.string t])),recovered := true } :: older) ∧
   w.heap.size ≤ w'.heap.size ∧ (∀ k,k < w.heap.size → k ≠ n → k ≠ n + 1 → w'.heap[k]? = w.heap[k]?) ∧ w'.heap[n]? = some (.cells #[x,y,z] 31 (0,0)) ∧ w'.heap[n + 1]? = some (.cells #[.int .i64 4] 32 (0,0)) ∧ w'.os = w.os ∧ w'.output = w.output := by
 have hnil : ∀ w : World,(binOp BinOp.eql 20 (.iface 135 (.agg #[.string t])) .nilIface).run Tryz.prog w = .ok (.bool false) w := fun _ => by kernel_rfl
 have hta : ∀ w : World,(Instr.typeAssert (.iface 135 (.agg #[.string t])) 20 133 true).run Tryz.prog w = .ok (.tuple #[.agg #[.int .i64 0,.int .i64 0,.int .i64 0],.bool false]) w := fun _ => by kernel_rfl
 have htb : ∀ w : World,(Instr.typeAssert (.iface 135 (.agg #[.string t])) 20 135 true).run Tryz.prog w = .ok (.tuple #[.agg #[.string t],.bool true]) w := fun _ => by kernel_rfl
 have ln : n < w.heap.size := Go.Den.lt_of_heap hp
 have ln1 : n + 1 < w.heap.size := Go.Den.lt_of_heap hq
 refine callsD_of_wpS Tryz.func127 rfl fun c₀ cs hu => ?_
 apply wpS_seq
 apply wpS_region
 simp [wpOpsS,go_sem,recoverD,hu,Tryz.ntmps127,Exit.thenS]
 have ht : #[Value.pointer (some ⟨n,0,none⟩),Value.pointer (some ⟨n + 1,0,none⟩)] ++ (Array.replicate 15 Go.undef).setIfInBounds 4 (.iface 135 (.agg #[.string t])) = #[.pointer (some ⟨n,0,none⟩),.pointer (some ⟨n + 1,0,none⟩),Go.undef,Go.undef,Go.undef,Go.undef,(.iface 135 (.agg #[.string t])),Go.undef,Go.undef,Go.undef,Go.undef,Go.undef,Go.undef,Go.undef,Go.undef,Go.undef,Go.undef] := rfl
 rw [ht]
 refine wpS_of_wp ?_
 apply wp_block
 apply wp_seq
 apply wp_region
 simp [wpOps,go_sem,hnil,Exit.then]
 (repeat apply Or.inl)
 refine wp_cond_false (by simp [Act.eval]) ?_
 apply wp_seq
 apply wp_region
 simp [wpOps,go_sem,Exit.then,hta]
 (repeat apply Or.inl)
 refine wp_cond_false (by simp [Act.eval]) ?_
 apply wp_seq
 apply wp_region
 simp [wpOps,go_sem,Exit.then,htb]
 (repeat apply Or.inl)
 refine wp_cond_true (by simp [Act.eval]) ?_
 apply wp_seq
 apply wp_region
 refine ops_value (v := .pointer (some ⟨w.heap.size,0,none⟩)) (w' := w.alloc (.cells #[.string ⟨#[]⟩] 135 (0,0))) rfl rfl (by simp [go_sem]) ?_
 refine ops_skip (w' := (w.alloc (.cells #[.string ⟨#[]⟩] 135 (0,0))).putObj w.heap.size (.cells #[.string t] 135 (0,0))) rfl rfl (store_row (t := 135) (x := .tmp 4) (y := .tmp 16) (arr := #[.string ⟨#[]⟩]) (s := 1) rfl rfl (by kernel_rfl) (Go.Den.heap_alloc_new _ _) rfl rfl (by simp [Act.eval,Act.put,Value.cells,Value.oneCell'])) ?_
 apply ops_nil
 generalize hW : (w.alloc (.cells #[.string ⟨#[]⟩] 135 (0,0))).putObj w.heap.size (.cells #[.string t] 135 (0,0)) = W
 have hWos : W.os = w.os ∧ W.output = w.output := by rw [← hW];exact ⟨rfl,rfl⟩
 have hWs : w.heap.size ≤ W.heap.size := by rw [← hW,Go.Den.size_put,Go.Den.size_alloc];omega
 have hWo : ∀ k,k < w.heap.size → W.heap[k]? = w.heap[k]? := fun k hk => by rw [← hW,Go.Den.heap_put_other (by omega),Go.Den.heap_alloc_lt _ _ hk]
 show Code.wp _ _ _ _ _
 apply wp_region
 refine ops_skip (w' := W.putObj (n + 1) (.cells #[.int .i64 4] 32 (0,0))) rfl rfl (store_row (t := 32) (x := .tmp 1) (y := .const (.int .i64 4)) (arr := #[e0]) (s := 1) rfl rfl (by kernel_rfl) ((hWo (n + 1) ln1).trans hq) rfl rfl (by simp [Act.eval,Act.put,Value.cells,Value.oneCell'])) ?_
 apply ops_nil
 refine ⟨rfl,_,rfl,.tuple #[],by simp [results,Tryz.results127],rfl,rfl,?_,fun k hk h1 h2 => ?_,?_,?_,hWos⟩
 ·rw [Go.Den.size_put];exact hWs
 ·rw [Go.Den.heap_put_other h2,hWo k hk]
 ·rw [Go.Den.heap_put_other (by omega),hWo n ln];exact hp
 ·rw [Go.Den.heap_put_same (by omega)]
theorem try_leaves (n : Nat) (a b c d : Int) (R : Ending → World → Prop) (tm : Array Value) (h2 : tm[2]?.getD Go.undef = .pointer (some ⟨n,0,none⟩)) (h3 : tm[3]?.getD Go.undef = .pointer (some ⟨n + 1,0,none⟩)) (u : FrameMode) (hu : settle u = .returning) (w : World) (hp : w.heap[n]? = some (.cells #[.int .i64 a,.int .i64 b,.int .i64 c] 31 (0,0))) (hq : w.heap[n + 1]? = some (.cells #[.int .i64 d] 32 (0,0)))
  (hR : R (.returned (.tuple #[.agg #[.int .i64 a,.int .i64 b,.int .i64 c],.int .i64 d])) w) : Leaves Tryz.prog Tryz.f79 tm R [] (settle u) w := by
 have c0 : w.cell? ⟨n,0,none⟩ = some (.int .i64 a) := by rw [Go.Den.cell_row hp];rfl
 have c1 : w.cell? ⟨n,1,none⟩ = some (.int .i64 b) := by rw [Go.Den.cell_row hp];rfl
 have c2 : w.cell? ⟨n,2,none⟩ = some (.int .i64 c) := by rw [Go.Den.cell_row hp];rfl
 have c3 : w.cell? ⟨n + 1,0,none⟩ = some (.int .i64 d) := by rw [Go.Den.cell_row hq];rfl
 rw [hu]
 refine ⟨_,?_,hR⟩
 simp [results,Tryz.results79,go_sem,h2,h3,c0,c1,c2,c3]
def tryW (w : World) : World := (w.alloc (.cells #[.int .i64 0,.int .i64 0,.int .i64 0] 31 (0,0))).alloc (.cells #[.int .i64 0] 32 (0,0))
def TryR (n : Nat) (w2 w' : World) (a b c d : Int) : Prop := w2.heap.size ≤ w'.heap.size ∧ (∀ k,k < w2.heap.size → k ≠ n → k ≠ n + 1 → w'.heap[k]? = w2.heap[k]?) ∧ w'.heap[n]? = some (.cells #[.int .i64 a,.int .i64 b,.int .i64 c] 31 (0,0)) ∧ w'.heap[n + 1]? = some (.cells #[.int .i64 d] 32 (0,0)) ∧ w'.os = w2.os ∧ w'.output = w2.output
set_option maxHeartbeats 4000000 in
theorem try_walk {g : FuncId} {fi ca : Array Value} {w : World} (hE : Go.Den.Enterable Tryz.prog g) {Rd : World → Prop} (a b c d : Int)
  (hdo : Calls Tryz.prog g (fi ++ #[] ++ ca) (tryW w) fun e w2 => ((∃ v,e = .returned v ∧ a = 0 ∧ b = 0 ∧ c = 0 ∧ d = 0) ∨ (e = .panicked [{ v := .iface 133 (.agg #[.int .i64 a,.int .i64 b,.int .i64 c]),recovered := false }] ∧ d = 7) ∨ (∃ t,e = .panicked [{ v := .iface 135 (.agg #[.string t]),recovered := false }] ∧ a = 0 ∧ b = 0 ∧ c = 0 ∧ d = 4)) ∧ Rd w2 ∧ w2.heap[w.heap.size]? = some (.cells #[.int .i64 0,.int .i64 0,.int .i64 0] 31 (0,0)) ∧ w2.heap[w.heap.size + 1]? = some (.cells #[.int .i64 0] 32 (0,0))) :
  Calls Tryz.prog 79 #[.func (.func g) fi ca] w fun e w' => e = .returned (.tuple #[.agg #[.int .i64 a,.int .i64 b,.int .i64 c],.int .i64 d]) ∧ ∃ w2,Rd w2 ∧ TryR w.heap.size w2 w' a b c d := by
 have hmf : ∀ (fn : Fn) (first cap : Array Value) (w : World),(Instr.makeFunc fn first cap).run Tryz.prog w = .ok (.func fn first cap) w := fun _ _ _ _ => rfl
 have e00 : fi ++ #[] ++ ca = fi ++ ca := by simp
 rw [e00] at hdo
 refine calls_of_wp_defers Tryz.func79 rfl ?_
 have ht : (#[Value.func (.func g) fi ca] : Array Value) ++ Array.replicate (Tryz.f79.ntmps - 1) Go.undef = #[.func (.func g) fi ca,Go.undef,Go.undef,Go.undef,Go.undef,Go.undef,Go.undef,Go.undef] := rfl
 show Code.wp _ _ _ { tmps := #[Value.func (.func g) fi ca] ++ Array.replicate (Tryz.f79.ntmps - 1) Go.undef,defers := [] } _
 rw [ht]
 apply wp_seq
 apply wp_region
 refine ops_value (v := .pointer (some ⟨w.heap.size,0,none⟩)) (w' := w.alloc (.cells #[.int .i64 0,.int .i64 0,.int .i64 0] 31 (0,0))) rfl rfl (by simp [go_sem]) ?_
 refine ops_value (v := .pointer (some ⟨w.heap.size + 1,0,none⟩)) (w' := tryW w) rfl rfl (by simp [go_sem,tryW,Go.Den.size_alloc]) ?_
 apply ops_nil
 show Code.wp _ _ _ _ _
 apply wp_seq
 apply wp_region
 refine ops_value (v := .func (.func 127) #[] #[.pointer (some ⟨w.heap.size,0,none⟩),.pointer (some ⟨w.heap.size + 1,0,none⟩)]) (w' := tryW w) rfl rfl (by simp [go_sem,Act.put,hmf]) ?_
 refine ops_defer (d := { target := .fn (.func 127) #[.pointer (some ⟨w.heap.size,0,none⟩),.pointer (some ⟨w.heap.size + 1,0,none⟩)],args := #[] }) (w' := tryW w) rfl rfl (by simp [go_sem,Act.put]) ?_
 apply ops_nil
 show Code.wp _ _ _ _ _
 apply wp_seq
 apply wp_region
 refine ops_value (v := .func (.func g) fi ca) (w' := tryW w) rfl rfl (by simp [go_sem,Act.put]) ?_
 refine ops_call (g := g) (args := fi ++ ca) rfl rfl (by
  have h := Go.Den.callFunc_run hE (fi ++ ca) (tryW w)
  simp [go_sem,Act.put,invoke,h]) hdo ?_
 rintro e w2 ⟨he,hRd,hn,hn1⟩
 have hi : (invoke (.fn (.func 127) #[.pointer (some ⟨w.heap.size,0,none⟩),.pointer (some ⟨w.heap.size + 1,0,none⟩)]) #[]).run Tryz.prog w2 = .ok (.enter 127 #[.pointer (some ⟨w.heap.size,0,none⟩),.pointer (some ⟨w.heap.size + 1,0,none⟩)]) w2 := by simp [go_sem,invoke]
 rcases he with ⟨v,rfl,rfl,rfl,rfl,rfl⟩ | ⟨rfl,rfl⟩ | ⟨t,rfl,rfl,rfl,rfl,rfl⟩
 ·apply ops_nil
  show Code.wp _ _ _ _ _
  apply wp_seq
  apply wp_region
  have ln : w.heap.size < w2.heap.size := Go.Den.lt_of_heap hn
  have ln1 : w.heap.size + 1 < w2.heap.size := Go.Den.lt_of_heap hn1
  refine ops_value (v := .agg #[.int .i64 0,.int .i64 0,.int .i64 0]) (w' := w2) rfl rfl (by simp [go_sem]) ?_
  refine ops_skip (w' := w2.putObj w.heap.size (.cells #[.int .i64 0,.int .i64 0,.int .i64 0] 31 (0,0))) rfl rfl (store_row (t := 31) (x := .tmp 2) (y := .tmp 7) (arr := #[.int .i64 0,.int .i64 0,.int .i64 0]) (s := 3) rfl rfl (by kernel_rfl) hn rfl rfl (by simp [Act.eval,Act.put,Value.cells,Value.oneCell'])) ?_
  refine ops_skip (w' := (w2.putObj w.heap.size (.cells #[.int .i64 0,.int .i64 0,.int .i64 0] 31 (0,0))).putObj (w.heap.size + 1) (.cells #[.int .i64 0] 32 (0,0))) rfl rfl (store_row (t := 32) (x := .tmp 3) (y := .const (.int .i64 0)) (arr := #[.int .i64 0]) (s := 1) rfl rfl (by kernel_rfl) (by rw [Go.Den.heap_put_other (by omega)];exact hn1) rfl rfl (by simp [Act.eval,Act.put,Value.cells,Value.oneCell'])) ?_
  apply ops_nil
  show Code.wp _ _ _ _ _
  apply wp_ret
  have hi2 : ∀ W : World,(invoke (.fn (.func 127) #[.pointer (some ⟨w.heap.size,0,none⟩),.pointer (some ⟨w.heap.size + 1,0,none⟩)]) #[]).run Tryz.prog W = .ok (.enter 127 #[.pointer (some ⟨w.heap.size,0,none⟩),.pointer (some ⟨w.heap.size + 1,0,none⟩)]) W := fun W => by simp [go_sem,invoke]
  refine leaves_cons (by simp) (hi2 _) ?_
  refine (catch_idle ⟨w.heap.size,0,none⟩ ⟨w.heap.size + 1,0,none⟩ _).mono ?_
  rintro e u' w'' ⟨rfl,rfl,rfl⟩
  have g1 : ((w2.putObj w.heap.size (.cells #[.int .i64 0,.int .i64 0,.int .i64 0] 31 (0,0))).putObj (w.heap.size + 1) (.cells #[.int .i64 0] 32 (0,0))).heap[w.heap.size]? = some (.cells #[.int .i64 0,.int .i64 0,.int .i64 0] 31 (0,0)) := by
   rw [Go.Den.heap_put_other (by omega),Go.Den.heap_put_same ln]
  have g2 : ((w2.putObj w.heap.size (.cells #[.int .i64 0,.int .i64 0,.int .i64 0] 31 (0,0))).putObj (w.heap.size + 1) (.cells #[.int .i64 0] 32 (0,0))).heap[w.heap.size + 1]? = some (.cells #[.int .i64 0] 32 (0,0)) := by
   rw [Go.Den.heap_put_same (by rw [Go.Den.size_put];exact ln1)]
  refine try_leaves w.heap.size 0 0 0 0 _ _ rfl rfl .returning rfl _ g1 g2 ⟨rfl,w2,hRd,?_,fun k hk h1 h2 => ?_,g1,g2,rfl,rfl⟩
  ·rw [Go.Den.size_put,Go.Den.size_put];exact Nat.le_refl _
  ·rw [Go.Den.heap_put_other h2,Go.Den.heap_put_other h1]
 ·refine leaves_cons (by simp) hi ?_
  refine (catch_found w.heap.size a b c _ _ _ _ [] w2 hn hn1).mono ?_
  rintro e u' w'' ⟨rfl,rfl,h1,h2,h3,h4,h5⟩
  exact try_leaves w.heap.size a b c 7 _ _ rfl rfl _ rfl _ h3 h4 ⟨rfl,w2,hRd,h1,h2,h3,h4,h5⟩
 ·refine leaves_cons (by simp) hi ?_
  refine (catch_none w.heap.size t _ _ _ _ [] w2 hn hn1).mono ?_
  rintro e u' w'' ⟨rfl,rfl,h1,h2,h3,h4,h5⟩
  exact try_leaves w.heap.size 0 0 0 4 _ _ rfl rfl _ rfl _ h3 h4 ⟨rfl,w2,hRd,h1,h2,h3,h4,h5⟩
end Go.Proofs.ChTry
end

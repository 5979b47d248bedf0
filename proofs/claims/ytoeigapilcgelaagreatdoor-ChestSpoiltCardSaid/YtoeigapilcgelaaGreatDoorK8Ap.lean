/- Part of the proofs of laws of the package chest. Texts: ChP, ChQ. -/
import Derived.Test.YtoeigapilcgelaaGreatDoorK8Ao
import Derived.Test.YtoeigapilcgelaaGreatDoorK8Aj
set_option linter.unusedSimpArgs false
set_option linter.unusedVariables false
section
namespace Go.Den.Ch
abbrev enc2 (x : Int × Int) : List PV := [.int .i64 x.1,.int .i64 x.2]
attribute [go_sem] enc2
def dupS (p : List Int) : List (Int × Int) := p.map fun n => (n,n)
def updS : List (Int × Int) → List Int → List (Int × Int)
 | s :: ss,n :: p => (min s.1 n,max s.2 n) :: updS ss p
 | _,_ => []
def knownX (X : List (List Int)) : Option (List (Int × Int)) := X.foldl (fun acc p => match acc with
 | none => some (dupS p)
 | some s => some (updS s p)) none
theorem knownX_take (X : List (List Int)) {i : Nat} (h : i < X.length) : knownX (X.take (i + 1)) = match knownX (X.take i) with
  | none => some (dupS X[i])
  | some s => some (updS s X[i]) := by
 rw [List.take_succ_eq_append_getElem h,knownX,List.foldl_append];rfl
theorem updS_len : ∀ (s : List (Int × Int)) (p : List Int),s.length = p.length → (updS s p).length = p.length
 | [],[],_ => rfl
 | a :: s,n :: p,h => by simp only [updS,List.length_cons];rw [updS_len s p (by simpa using h)]
theorem knownX_len {X : List (List Int)} {n : Nat} (hX : ∀ p ∈ X,p.length = n) : ∀ i,i ≤ X.length → ∀ s,knownX (X.take i) = some s → s.length = n
 | 0,_,s,h => by simp [knownX] at h
 | i + 1,hi,s,h => by
  rw [knownX_take X (by omega)] at h
  have hp := hX X[i] (List.getElem_mem _)
  split at h
  ·cases h;simp [dupS,hp]
  ·rename_i s' hs
   cases h
   rw [updS_len _ _ (by rw [hp];exact knownX_len hX i (by omega) _ hs),hp]
def midS (acc : Option (List (Int × Int))) (p : List Int) (k : Nat) : List (Int × Int) := match acc with
 | none => dupS (p.take k)
 | some s => updS (s.take k) (p.take k) ++ s.drop k
theorem updS_take : ∀ (s : List (Int × Int)) (p : List Int) (k : Nat) (hs : k < s.length) (hp : k < p.length),updS (s.take (k + 1)) (p.take (k + 1)) = updS (s.take k) (p.take k) ++ [(min s[k].1 p[k],max s[k].2 p[k])]
 | a :: s,n :: p,0,_,_ => by simp [updS]
 | a :: s,n :: p,k + 1,hs,hp => by
  have := updS_take s p k (by simpa using hs) (by simpa using hp)
  simp only [List.take_succ_cons,updS,this,List.getElem_cons_succ,List.cons_append]
theorem midS_len {acc : Option (List (Int × Int))} {p : List Int} {k : Nat} (hk : k ≤ p.length) (ha : ∀ s,acc = some s → s.length = p.length) : (midS acc p k).length = if acc.isSome then p.length else k := by
 cases acc with
 | none => simp [midS,dupS];omega
 | some s =>
  have := ha s rfl
  simp only [midS,List.length_append,Option.isSome,if_true]
  rw [updS_len _ _ (by simp;omega)]
  simp;omega
theorem enc2_len (l : List (Int × Int)) : (l.flatMap enc2).length = l.length * 2 := flatMap_len (fun _ _ => rfl)
theorem enc2_at {l : List (Int × Int)} {k : Nat} (hk : k < l.length) : (l.flatMap enc2).drop (k * 2) = iv l[k].1 :: iv l[k].2 :: ((l.drop (k + 1)).flatMap enc2) := by
 have h : (l.flatMap enc2).drop (k * 2) = (l.drop k).flatMap enc2 := flatMap_drop k (fun _ _ => rfl)
 rw [h,List.drop_eq_getElem_cons hk,List.flatMap_cons];rfl
theorem enc2_set {l : List (Int × Int)} {k : Nat} (hk : k < l.length) (a b : Int) : splice (l.flatMap enc2) (k * 2) [iv a,iv b] = (l.set k (a,b)).flatMap enc2 := by
 unfold splice
 have h1 : (l.flatMap enc2).take (k * 2) = (l.take k).flatMap enc2 := flatMap_take k (fun _ _ => rfl)
 have h2 : (l.flatMap enc2).drop (k * 2 + [iv a,iv b].length) = (l.drop (k + 1)).flatMap enc2 := by
  have : k * 2 + [iv a,iv b].length = (k + 1) * 2 := by simp;omega
  rw [this]
  exact flatMap_drop (k + 1) (fun _ _ => rfl)
 rw [h1,h2]
 have h3 : l.set k (a,b) = l.take k ++ (a,b) :: l.drop (k + 1) := by
  rw [List.set_eq_take_append_cons_drop,if_pos hk]
 rw [h3,List.flatMap_append,List.flatMap_cons]
 simp
theorem enc2_cell : ∀ l : List (Int × Int),(l.flatMap enc2).all PV.isCell = true
 | [] => rfl
 | f :: l => by rw [List.flatMap_cons,List.all_append,enc2_cell l];rfl
theorem enc2_share : ∀ l : List (Int × Int),(l.flatMap enc2).map PV.share = l.flatMap enc2
 | [] => rfl
 | f :: l => by rw [List.flatMap_cons,List.map_append,enc2_share l];rfl
theorem enc2_low (l : List (Int × Int)) (m : Nat) : lowL m (l.flatMap enc2) = true := lowL_of fun c hc => by
 simp only [List.mem_flatMap,List.mem_cons,List.not_mem_nil,or_false] at hc
 obtain ⟨a,_,rfl | rfl⟩ := hc <;> rfl
theorem dupS_take {p : List Int} {k : Nat} (hk : k < p.length) : dupS (p.take (k + 1)) = dupS (p.take k) ++ [(p[k],p[k])] := by
 rw [List.take_succ_eq_append_getElem hk,dupS,List.map_append];rfl
def knownR (c : CL) : List (Int × Int) × Int := if listB c then (match knownX (rightsL c) with | some s => (s,0) | none => ([],7)) else ([],2)
set_option maxHeartbeats 8000000 in
theorem c39 (c : CL) (F : PV) (hF : SlOf 3 encF F c.figs) (st : St) : ClR EE (.func 39 [] []) [clPV c F] st (fun v st' => ∃ V,v = .tuple [V,iv (knownR c).2] ∧ RetW st (knownR c).1.length ((knownR c).1.flatMap enc2) V st') := by
 have hFc := hF.cells
 have hFi := hF.isCell
 refine clr_fn (pr39 · _ _) fn39 1 rfl (by decide) (fun tm hl hg => ?_);have h0 : tg tm 0 = clPV c F := (hg 0 (by decide));clear hg
 cases hA : listB c
 ·have e : knownR c = ([],2) := by simp [knownR,hA]
  rw [e]
  refine go (bw3 hl h0 hA) (bw (c77 c F hF) fnil) ?_
  refine fnr_ret (v := .tuple [.nilslice,iv 2]) (by simp only [results,rdResL,rdRes_tmp];simp only [go_sem,hl]) ?_
  exact finish_slT rfl (by rfl) (by simp only [lo_push];omega) (fun m => rfl)
 ·have hc := OkL.of hA
  have hlen := hc.len
  have hXl := rightsL_len hc
  have hXd : ∀ p ∈ rightsL c,p.length = c.figs.length := fun p hp => (rightsL_mem hp).1.len
  refine go (bw3 hl h0 hA) (bw3 (c77 c F hF) (c82 c F) fnil) ?_
  apply wp_block
  refine wp_gen (fun tm1 s1 => tm1.length = 53 ∧ tg tm1 4 = .ptr (st.heap.length + 1) 0 ∧ tg tm1 5 = .ptr (st.heap.length + 2) 0 ∧ tg tm1 13 = .func 129 [] [.ptr (st.heap.length + 3) 0] ∧ s1.heap.length = st.heap.length + 4 ∧ st.heap.length ≤ s1.lo ∧ s1.lo ≤ s1.heap.length ∧ hp s1 (st.heap.length + 1) = some (.var [.nilslice]) ∧ hp s1 (st.heap.length + 2) = some (.var [.bool false]) ∧ hp s1 (st.heap.length + 3) = some (.var [iv c.room,iv c.depth,F]))
   ⟨by simp only [go_sem,hl],by simp only [go_sem,hl],by simp only [go_sem,hl],by simp only [go_sem,hl],by simp only [go_sem],by simp only [lo_push,lo_setVar];omega,by simp only [lo_push,lo_setVar,len_push,len_setVar];omega,by simp only [go_sem],by simp only [go_sem],by simp only [go_sem]⟩ ?_
  rintro tm1 s1 ⟨hl1,q4,q5,q13,hsl,hlo,hwf,z1,z2,z3⟩
  refine wp_rangeF (X := rightsL c) (Rep := RepP c F) (priv := fun l => l = st.heap.length + 3) (fun l => l = st.heap.length + 1 ∨ l = st.heap.length + 2) st.heap.length
   (fun i h => ∃ v,h[st.heap.length + 1]? = some (.var [v]) ∧ h[st.heap.length + 2]? = some (.var [.bool (knownX ((rightsL c).take i)).isSome]) ∧ OwnH st.heap.length ⟨h,0⟩ 2 v ((knownX ((rightsL c).take i)).getD []).length (((knownX ((rightsL c).take i)).getD []).flatMap enc2)) (fun _ _ => False) (by simp only [go_sem,q13]) (iter129 hF hc ((HExt.push _ _).hp z3)) (fun l hl => by omega) (fun l hl => by omega) hlo hwf
   (fun i h h' ⟨v,a1,a2,a3⟩ hx => ⟨v,hx.var a1,hx.var a2,a3.keep fun t cs _ ht => hx.var ht⟩) (fun _ _ _ h _ => h)
   (fun i h s p s' p' ⟨v,a1,a2,a3⟩ hL => ⟨v,set_var a1 hL,set_var a2 hL,a3.keep fun t cs _ ht => by
    show (h.set s1.heap.length _)[t]? = _
    rw [List.getElem?_set_ne (by rintro rfl;have : h[s1.heap.length]? = some (.arr cs) := ht;rw [hL] at this;cases this)];exact ht⟩) (fun _ _ _ _ _ _ h _ => h)
   ⟨_,z1,z2,by simp [knownX],.inl ⟨by simp [knownX],rfl⟩⟩ ?_ ?_ (fun _ _ h => h.elim)
  ·rintro i hi u0 st1 ⟨P,rfl,hP⟩ ⟨v,a1,a2,a3⟩ he1 hwf1 hL
   refine ⟨_,setParams_one,?_⟩
   have lL := hp_lt hL
   have hPc := hP.cells
   have hPi := hP.isCell
   have hPs := hP.slen
   have hpl := hXd _ (List.getElem_mem hi)
   have a1' : hp st1 (st.heap.length + 1) = _ := a1
   have a2' : hp st1 (st.heap.length + 2) = _ := a2
   have m1 := hp_lt a1'
   have m2 := hp_lt a2'
   refine go (bw3 hl1 hFi hPi) fnil ?_
   have hx1 : HExt st1.heap (setVar (st1.push (.var [iv 0,iv 0,.nilslice,.nilslice])) st1.heap.length (.var [iv c.room,iv c.depth,F,P])).heap := (((Fr.refl st1.heap.length st1).push (Nat.le_refl _)).setVar (Nat.le_refl _)).hext
   refine ⟨rfl,hx1,by simp only [lo_push,lo_setVar];omega,by simp only [lo_push,lo_setVar,len_push,len_setVar];omega,?_⟩
   have htk := knownX_take (rightsL c) hi
   have hal := knownX_len hXd i (by omega)
   generalize knownX ((rightsL c).take i) = acc at a2 a2' a3 htk hal
   refine wp_gen (fun tm2 s2 => tm2.length = 53 ∧ tg tm2 4 = .ptr (st.heap.length + 1) 0 ∧ tg tm2 5 = .ptr (st.heap.length + 2) 0 ∧ tg tm2 6 = .ptr st1.heap.length 0 ∧ s2.heap.length = st1.heap.length + 1 ∧ st.heap.length ≤ s2.lo ∧ s2.lo ≤ s2.heap.length ∧ hp s2 (st.heap.length + 1) = some (.var [v]) ∧ hp s2 (st.heap.length + 2) = some (.var [.bool acc.isSome]) ∧ hp s2 st1.heap.length = some (.var [iv c.room,iv c.depth,F,P]) ∧ hp s2 s1.heap.length = some (.loop tm1 [14] _ _ .busy none) ∧ KeepV (fun l => l = s1.heap.length) (setVar (st1.push (.var [iv 0,iv 0,.nilslice,.nilslice])) st1.heap.length (.var [iv c.room,iv c.depth,F,P])).heap s2.heap ∧ OwnH st.heap.length s2 2 v (acc.getD []).length ((acc.getD []).flatMap enc2))
    ⟨by simp only [go_sem,hl1],by simp only [go_sem,hl1,q4],by simp only [go_sem,hl1,q5],by simp only [go_sem,hl1],by simp only [go_sem],by simp only [lo_push,lo_setVar];omega,by simp only [lo_push,lo_setVar,len_push,len_setVar];omega,hp_set_other (hx1.hp a1') (by omega),hp_set_other (hx1.hp a2') (by omega),hp_set_other (by simp only [go_sem]) (by omega),by simp only [go_sem,neL lL,neA lL,ltL lL,ltA lL];rfl,⟨by simp only [len_push,len_setVar];omega,fun l o ho _ hn => hp_set_other ho hn⟩,?_⟩ ?_
   ·refine a3.keep fun t cs _ ht => hp_set_other (hx1.hp ht) ?_
    rintro rfl
    have ht' : hp st1 s1.heap.length = some (.arr cs) := ht
    rw [hL] at ht';cases ht'
   rintro tm2 s2 ⟨hl2,p4,p5,p6,hsl2,hlo2,hwf2,b1,b2,b6,bL,hk2,hO⟩
   have m6 := hp_lt b6
   refine go (bw8 hl2 p6 b6 hPs (neL m6) (neA m6) (ltL m6) (ltA m6)) fnil ?_
   refine wp_range (rightsL c)[i].length [] (fun k vs st' => ∃ w,hp st' (st.heap.length + 1) = some (.var [w]) ∧ hp st' (st.heap.length + 2) = some (.var [.bool acc.isSome]) ∧ OwnH st.heap.length st' 2 w (midS acc (rightsL c)[i] k).length ((midS acc (rightsL c)[i] k).flatMap enc2) ∧ (∀ Z : DCode × DCode,hp s2 s1.heap.length = some (.loop tm1 [14] Z.1 Z.2 .busy none) → hp st' s1.heap.length = some (.loop tm1 [14] Z.1 Z.2 .busy none)) ∧ KeepV (fun l => (l = st.heap.length + 1 ∨ l = st.heap.length + 2) ∨ l = s1.heap.length) (setVar (st1.push (.var [iv 0,iv 0,.nilslice,.nilslice])) st1.heap.length (.var [iv c.room,iv c.depth,F,P])).heap st'.heap ∧ st.heap.length ≤ st'.lo ∧ st'.lo ≤ st'.heap.length) (by omega) (by simp only [go_sem,hl2]) (by simp only [go_sem,hl2]) (by simp only [go_sem,hl2]) (by decide) ⟨v,b1,b2,?_,fun Z h => h,hk2.mono (fun l h => .inr h),hlo2,hwf2⟩ ?_ ?_
   ·have : midS acc (rightsL c)[i] 0 = acc.getD [] := by cases acc <;> simp [midS,dupS,updS]
    rw [this];exact hO
   ·clear hO b1 b2
    rintro k hk tm3 st3 ⟨w,d1,d2,hO,hLk,hk3,hlo3,hwf3⟩ hS hka
    have hl3 : tm3.length = 53 := (by rw [hS.1];simp only [put_len,hl2]);have k4 : tg tm3 4 = .ptr (st.heap.length + 1) 0 := (by rw [hS.2 4 (by decide)];simp only [go_sem,hl2,p4,p5]);have k5 : tg tm3 5 = .ptr (st.heap.length + 2) 0 := (by rw [hS.2 5 (by decide)];simp only [go_sem,hl2,p4,p5]);have k16 : tg tm3 16 = P := (by rw [hS.2 16 (by decide)];simp only [go_sem,hl2,p4,p5]);clear hS
    have n1 := hp_lt d1
    have n2 := hp_lt d2
    have fin : ∀ (S : St) (t : Nat) (LL : List (Int × Int)) (hkL : k < LL.length),hp S (st.heap.length + 1) = some (.var [.hslice t 2 LL.length]) → hp S (st.heap.length + 2) = some (.var [.bool acc.isSome]) → hp S t = some (.arr (LL.flatMap enc2)) → st.heap.length ≤ t → LL.set k (min LL[k].1 (rightsL c)[i][k],max LL[k].2 (rightsL c)[i][k]) = midS acc (rightsL c)[i] (k + 1) → (∀ Z : DCode × DCode,hp s2 s1.heap.length = some (.loop tm1 [14] Z.1 Z.2 .busy none) → hp S s1.heap.length = some (.loop tm1 [14] Z.1 Z.2 .busy none)) → KeepV (fun l => (l = st.heap.length + 1 ∨ l = st.heap.length + 2) ∨ l = s1.heap.length) (setVar (st1.push (.var [iv 0,iv 0,.nilslice,.nilslice])) st1.heap.length (.var [iv c.room,iv c.depth,F,P])).heap S.heap → st.heap.length ≤ S.lo → S.lo ≤ S.heap.length →
      ∃ w,hp (setVar S t (.arr (splice (LL.flatMap enc2) (k * 2) [iv (min LL[k].1 (rightsL c)[i][k]),iv (max LL[k].2 (rightsL c)[i][k])]))) (st.heap.length + 1) = some (.var [w]) ∧ hp (setVar S t (.arr (splice (LL.flatMap enc2) (k * 2) [iv (min LL[k].1 (rightsL c)[i][k]),iv (max LL[k].2 (rightsL c)[i][k])]))) (st.heap.length + 2) = some (.var [.bool acc.isSome]) ∧ OwnH st.heap.length (setVar S t (.arr (splice (LL.flatMap enc2) (k * 2) [iv (min LL[k].1 (rightsL c)[i][k]),iv (max LL[k].2 (rightsL c)[i][k])]))) 2 w (midS acc (rightsL c)[i] (k + 1)).length ((midS acc (rightsL c)[i] (k + 1)).flatMap enc2) ∧ (∀ Z : DCode × DCode,hp s2 s1.heap.length = some (.loop tm1 [14] Z.1 Z.2 .busy none) → hp (setVar S t (.arr (splice (LL.flatMap enc2) (k * 2) [iv (min LL[k].1 (rightsL c)[i][k]),iv (max LL[k].2 (rightsL c)[i][k])]))) s1.heap.length = some (.loop tm1 [14] Z.1 Z.2 .busy none)) ∧ KeepV (fun l => (l = st.heap.length + 1 ∨ l = st.heap.length + 2) ∨ l = s1.heap.length) (setVar (st1.push (.var [iv 0,iv 0,.nilslice,.nilslice])) st1.heap.length (.var [iv c.room,iv c.depth,F,P])).heap (setVar S t (.arr (splice (LL.flatMap enc2) (k * 2) [iv (min LL[k].1 (rightsL c)[i][k]),iv (max LL[k].2 (rightsL c)[i][k])]))).heap ∧ st.heap.length ≤ (setVar S t (.arr (splice (LL.flatMap enc2) (k * 2) [iv (min LL[k].1 (rightsL c)[i][k]),iv (max LL[k].2 (rightsL c)[i][k])]))).lo ∧ (setVar S t (.arr (splice (LL.flatMap enc2) (k * 2) [iv (min LL[k].1 (rightsL c)[i][k]),iv (max LL[k].2 (rightsL c)[i][k])]))).lo ≤ (setVar S t (.arr (splice (LL.flatMap enc2) (k * 2) [iv (min LL[k].1 (rightsL c)[i][k]),iv (max LL[k].2 (rightsL c)[i][k])]))).heap.length := by
     intro S t LL hkL g1 g2 gt gmt hset gL gk glo gwf
     have lt := hp_lt gt
     have ht1 : st.heap.length + 1 ≠ t := by rintro rfl;rw [gt] at g1;cases g1
     have ht2 : st.heap.length + 2 ≠ t := by rintro rfl;rw [gt] at g2;cases g2
     refine ⟨.hslice t 2 LL.length,hp_set_other g1 ht1,hp_set_other g2 ht2,?_,fun Z h => hp_set_other (gL Z h) (by rintro rfl;have := gL Z h;rw [gt] at this;cases this),?_,by rw [lo_setVar];omega,by rw [lo_setVar,len_setVar];omega⟩
     ·rw [enc2_set hkL,← hset]
      refine ⟨by rw [enc2_len],.inr ⟨t,by rw [List.length_set],gmt,?_⟩⟩
      rw [hp_setVar,if_pos rfl,if_pos lt]
     ·refine ⟨by have := gk.1;simp only [len_setVar,len_push] at this ⊢;omega,fun l o ho hko hn => ?_⟩
      have h1 := gk.2 l o ho hko hn
      exact hp_set_other (st := S) h1 (by rintro rfl;have h2 : hp S l = some o := h1;rw [gt] at h2;cases h2;cases hko)
    cases acc with
    | none =>
     have hml : (midS none (rightsL c)[i] k).length = k := by simp [midS,dupS];omega
     rw [hml] at hO
     obtain ⟨hwc,hwi,_⟩ := hO.cells
     refine go (bw17 hl3 k4 k5 k16 hka d1 d2 @isS @isN (neL n1) (neA n1) (ltL n1) (ltA n1) (neL n2) (neA n2) (ltL n2) (ltA n2)) fnil ?_
     refine wops_appendH (m := st.heap.length) rfl rfl (by simp only [go_sem,hl3];first | done | rfl) (by simp only [go_sem,hl3];first | done | rfl) (hO.keep fun t cs _ ht => (HExt.push st3 _).hp ht) rfl (by simp only [len_push];omega) (by decide) (by rfl) (by rfl) (by simp only [maxList];omega) ?_
     intro st4 harr hlen4 hFr hk4
     have f1 := hFr.lo
     have f2 := hFr.up
     simp only [lo_push,len_push] at f1 f2 hlen4 harr
     have g1 := hk4 _ _ ((HExt.push st3 _).hp d1) rfl
     have g2 := hk4 _ _ ((HExt.push st3 _).hp d2) rfl
     have l1 := hp_lt g1
     have l2 := hp_lt g2
     have hLL : (midS none (rightsL c)[i] k).flatMap enc2 ++ [iv (rightsL c)[i][k],iv (rightsL c)[i][k]] = (midS none (rightsL c)[i] (k + 1)).flatMap enc2 := by
      simp only [midS,dupS_take hk,List.flatMap_append];simp
     have hLl : (midS none (rightsL c)[i] (k + 1)).length = k + 1 := by simp [midS,dupS];omega
     have hLk1 : ∀ (h : k < (midS none (rightsL c)[i] (k + 1)).length),(midS none (rightsL c)[i] (k + 1))[k] = ((rightsL c)[i][k],(rightsL c)[i][k]) := fun h => by simp [midS,dupS]
     rw [hLL] at harr
     generalize hLLd : midS none (rightsL c)[i] (k + 1) = LL at harr hLl hLk1
     have hkL : k < LL.length := by omega
     have hd0 := enc2_at hkL
     have hlen2 := enc2_len LL
     have o0 : (k * 2 ≤ (LL.flatMap enc2).length) = True := by simp only [eq_iff_iff,iff_true];omega
     have o1 : (k * 2 + 1 ≤ (LL.flatMap enc2).length) = True := by simp only [eq_iff_iff,iff_true];omega
     have o2 : (k * 2 + 2 ≤ (LL.flatMap enc2).length) = True := by simp only [eq_iff_iff,iff_true];omega
     have e0 : ((LL.flatMap enc2).drop (k * 2)).head? = some (iv LL[k].1) := by rw [hd0];rfl
     have e1 : ((LL.flatMap enc2).drop (k * 2 + 1)).head? = some (iv LL[k].2) := by rw [← List.drop_drop,hd0];rfl
     have hkn : (k < LL.length) = True := by simp only [eq_iff_iff,iff_true];omega
     have hne : (st3.heap.length = st.heap.length) = False := by simp only [eq_iff_iff,iff_false];omega
     have la := hp_lt harr
     refine go (bw12 hl3 k4 g1 g2 (neL l1) (neA l1) (ltL l1) (ltA l1) (neL l2) (neA l2) (ltL l2) (ltA l2)) fnil ?_
     have w1 : hp (setVar st4 (st.heap.length + 1) (.var [.hslice (st3.heap.length + 1) 2 (k + 1)])) (st.heap.length + 1) = some (.var [.hslice (st3.heap.length + 1) 2 (k + 1)]) := by simp only [go_sem,neL l1,neA l1,ltL l1,ltA l1]
     have w2 : hp (setVar st4 (st.heap.length + 1) (.var [.hslice (st3.heap.length + 1) 2 (k + 1)])) (st.heap.length + 2) = some (.var [.bool false]) := hp_set_other g2 (by omega)
     have wa : hp (setVar st4 (st.heap.length + 1) (.var [.hslice (st3.heap.length + 1) 2 (k + 1)])) (st3.heap.length + 1) = some (.arr (LL.flatMap enc2)) := hp_set_other harr (by omega)
     have wL : ∀ Z : DCode × DCode,hp s2 s1.heap.length = some (.loop tm1 [14] Z.1 Z.2 .busy none) → hp (setVar st4 (st.heap.length + 1) (.var [.hslice (st3.heap.length + 1) 2 (k + 1)])) s1.heap.length = some (.loop tm1 [14] Z.1 Z.2 .busy none) := fun Z h => hp_set_other (hk4 _ _ ((HExt.push st3 _).hp (hLk Z h)) rfl) (by omega)
     have wk : KeepV (fun l => (l = st.heap.length + 1 ∨ l = st.heap.length + 2) ∨ l = s1.heap.length) (setVar (st1.push (.var [iv 0,iv 0,.nilslice,.nilslice])) st1.heap.length (.var [iv c.room,iv c.depth,F,P])).heap (setVar st4 (st.heap.length + 1) (.var [.hslice (st3.heap.length + 1) 2 (k + 1)])).heap := by
      refine ⟨by have := hk3.1;simp only [len_setVar,len_push] at this ⊢;omega,fun l o ho hko hn => ?_⟩
      exact hp_set_other (hk4 _ _ ((HExt.push st3 _).hp (hk3.2 l o ho hko hn)) hko) (fun h => hn (.inl (.inl h)))
     have wlo : st.heap.length ≤ (setVar st4 (st.heap.length + 1) (.var [.hslice (st3.heap.length + 1) 2 (k + 1)])).lo := by rw [lo_setVar];omega
     have wwf : (setVar st4 (st.heap.length + 1) (.var [.hslice (st3.heap.length + 1) 2 (k + 1)])).lo ≤ (setVar st4 (st.heap.length + 1) (.var [.hslice (st3.heap.length + 1) 2 (k + 1)])).heap.length := by rw [lo_setVar,len_setVar];omega
     have wln : st3.heap.length + 1 < (setVar st4 (st.heap.length + 1) (.var [.hslice (st3.heap.length + 1) 2 (k + 1)])).heap.length := by rw [len_setVar];omega
     generalize setVar st4 (st.heap.length + 1) (.var [.hslice (st3.heap.length + 1) 2 (k + 1)]) = S at w1 w2 wa wL wk wlo wwf wln ⊢
     have hset : LL.set k (min LL[k].1 (rightsL c)[i][k],max LL[k].2 (rightsL c)[i][k]) = LL := by
      have : (min LL[k].1 (rightsL c)[i][k],max LL[k].2 (rightsL c)[i][k]) = LL[k] := by
       rw [hLk1 hkL];simp
      rw [this,List.set_getElem_self]
     refine go (bw12 hl3 k4 @op_indexAddrM @idxR_h wa w1 o0 o1 e0 e1 @mm2 @mm2') fnil ?_
     refine wopsD_set (v := undef) (l := st3.heap.length + 1) (ob := .arr (splice (LL.flatMap enc2) (k * 2) [iv (min LL[k].1 (rightsL c)[i][k]),iv (max LL[k].2 (rightsL c)[i][k])])) (by omega) (by omega) rfl rfl (fun rec st5 he hh => by simp only [op_store,ev_t];simp only [go_sem,hl3];simp only [stA,hh,wa,cells_agg,List.length_cons,List.length_nil,o2,List.all_cons,List.all_nil,isCell_int,Bool.and_self,Nat.zero_add,Nat.reduceAdd,and_self,if_true]) ?_
     apply wopsD_nil
     refine ⟨footOk_quiet (by rfl),?_⟩
     apply inBlock_normal
     apply andThen_normal
     have hres := fin S (st3.heap.length + 1) LL hkL (by rw [hLl];exact w1) w2 wa (by omega) (by rw [hset,hLLd]) wL wk wlo wwf
     rw [hLLd] at hres
     exact hres
    | some s =>
     have hsl := hal s rfl
     have hml : (midS (some s) (rightsL c)[i] k).length = (rightsL c)[i].length := by
      have := midS_len (acc := some s) (p := (rightsL c)[i]) (k := k) (by omega) (fun s' h => by cases h;omega)
      simpa using this
     have hk1s : k < s.length := by omega
     have hul : (updS (s.take k) ((rightsL c)[i].take k)).length = k := by rw [updS_len _ _ (by simp;omega)];simp;omega
     have hLk1 : ∀ (h : k < (midS (some s) (rightsL c)[i] k).length),(midS (some s) (rightsL c)[i] k)[k] = s[k] := fun h => by
      simp only [midS]
      rw [List.getElem_append_right (by omega)]
      simp [hul]
     have hset0 : (midS (some s) (rightsL c)[i] k).set k (min s[k].1 (rightsL c)[i][k],max s[k].2 (rightsL c)[i][k]) = midS (some s) (rightsL c)[i] (k + 1) := by
      simp only [midS]
      rw [List.set_append_right _ _ (by omega),hul,Nat.sub_self,updS_take s _ k hk1s hk,List.append_assoc,List.drop_eq_getElem_cons hk1s]
      rfl
     obtain ⟨_,⟨h0,_⟩ | ⟨t,rfl,ht1,ht2⟩⟩ := hO
     ·omega
     generalize hLLd : midS (some s) (rightsL c)[i] k = LL at ht2 hml hLk1 hset0 d1
     have lt := hp_lt ht2
     have hkL : k < LL.length := by omega
     have hd0 := enc2_at hkL
     have hlen2 := enc2_len LL
     have o0 : (k * 2 ≤ (LL.flatMap enc2).length) = True := by simp only [eq_iff_iff,iff_true];omega
     have o1 : (k * 2 + 1 ≤ (LL.flatMap enc2).length) = True := by simp only [eq_iff_iff,iff_true];omega
     have o2 : (k * 2 + 2 ≤ (LL.flatMap enc2).length) = True := by simp only [eq_iff_iff,iff_true];omega
     have e0 : ((LL.flatMap enc2).drop (k * 2)).head? = some (iv LL[k].1) := by rw [hd0];rfl
     have e1 : ((LL.flatMap enc2).drop (k * 2 + 1)).head? = some (iv LL[k].2) := by rw [← List.drop_drop,hd0];rfl
     have hkn : (k < LL.length) = True := by simp only [eq_iff_iff,iff_true];omega
     have hset : LL.set k (min LL[k].1 (rightsL c)[i][k],max LL[k].2 (rightsL c)[i][k]) = midS (some s) (rightsL c)[i] (k + 1) := by rw [hLk1 hkL];exact hset0
     refine go (bw19 hl3 k4 k5 k16 hka @isS @isN @op_indexAddrM @idxR_h ht2 d1 d2 o0 o1 e0 e1 @mm2 @mm2' hkn) fnil ?_
     refine wopsD_set (v := undef) (l := t) (ob := .arr (splice (LL.flatMap enc2) (k * 2) [iv (min LL[k].1 (rightsL c)[i][k]),iv (max LL[k].2 (rightsL c)[i][k])])) (by omega) (by omega) rfl rfl (fun rec st5 he hh => by simp only [op_store,ev_t];simp only [go_sem,hl3];simp only [stA,hh,ht2,cells_agg,List.length_cons,List.length_nil,o2,List.all_cons,List.all_nil,isCell_int,Bool.and_self,Nat.zero_add,Nat.reduceAdd,and_self,if_true]) ?_
     apply wopsD_nil
     refine ⟨footOk_quiet (by rfl),?_⟩
     apply inBlock_normal
     apply andThen_normal
     exact fin st3 t LL hkL d1 d2 ht2 ht1 hset hLk hk3 hlo3 hwf3
   ·clear hO b1 b2
    rintro tm3 st3 ⟨w,d1,d2,hO,hLk,hk3,hlo3,hwf3⟩ hS
    have hl3 : tm3.length = 53 := (by rw [hS.1];simp only [put_len,hl2]);have k5 : tg tm3 5 = .ptr (st.heap.length + 2) 0 := (by rw [hS.2 5 (by decide)];simp only [go_sem,hl2,p5]);clear hS
    have n2 := hp_lt d2
    refine go (bw7 hl3 k5 d2 (neL n2) (neA n2) (ltL n2) (ltA n2)) fnil ?_
    have hfinal : knownX ((rightsL c).take (i + 1)) = some (midS acc (rightsL c)[i] (rightsL c)[i].length) := by
     rw [htk]
     cases acc with
     | none => simp [midS]
     | some s =>
      have := hal s rfl
      simp only [midS]
      rw [List.take_of_length_le (by omega),List.take_of_length_le (Nat.le_refl _),List.drop_of_length_le (by omega),List.append_nil]
    have bL3 := hLk (_,_) bL
    refine ⟨hp_set_other bL3 (by omega),⟨by have := hk3.1;simp only [len_setVar,len_push] at this ⊢;omega,fun l o ho hko hn => hp_set_other (hk3.2 l o ho hko hn) (fun h => hn (.inl (.inr h)))⟩,by simp only [lo_setVar];omega,by simp only [lo_setVar,len_setVar];omega,w,hp_set_other d1 (by omega),?_,?_⟩
    ·rw [hfinal]
     have : hp (setVar st3 (st.heap.length + 2) (.var [.bool true])) (st.heap.length + 2) = some (.var [.bool true]) := by simp only [go_sem,neL n2,neA n2,ltL n2,ltA n2]
     exact this
    ·rw [hfinal]
     refine hO.keep fun t cs _ ht => ?_
     exact hp_set_other ht (by rintro rfl;rw [d2] at ht;cases ht)
  ·rintro s2 ⟨v,a1,a2,a3⟩ hk2 he2 hwf2
   rw [List.take_length] at a2 a3
   have a1' : hp s2 (st.heap.length + 1) = some (.var [v]) := a1
   have a2' : hp s2 (st.heap.length + 2) = _ := a2
   have m1 := hp_lt a1'
   have m2 := hp_lt a2'
   apply inBlock_normal
   cases hb : knownX (rightsL c) with
   | none =>
    have e : knownR c = ([],7) := by simp [knownR,hA,hb]
    rw [hb] at a2'
    rw [e]
    refine go (bw15 hl1 q4 q5 a1' a2' @isS @isN (neL m1) (neA m1) (ltL m1) (ltA m1) (neL m2) (neA m2) (ltL m2) (ltA m2)) fnil ?_
    refine fnr_ret (v := .tuple [.nilslice,iv 7]) (by simp only [results,rdResL,rdRes_tmp];simp only [go_sem,hl1]) ?_
    exact finish_slT rfl (by rfl) he2 (fun m => rfl)
   | some s =>
    have e : knownR c = (s,0) := by simp [knownR,hA,hb]
    rw [hb] at a2' a3
    rw [e]
    simp only [Option.getD_some] at a3
    refine go (bw15 hl1 q4 q5 a1' a2' @isS @isN (neL m1) (neA m1) (ltL m1) (ltA m1) (neL m2) (neA m2) (ltL m2) (ltA m2)) fnil ?_
    refine fnr_ret (v := .tuple [v,iv 0]) (by simp only [results,rdResL,rdRes_tmp];simp only [go_sem,hl1]) ?_
    have hO : OwnH st.heap.length s2 2 v s.length (s.flatMap enc2) := a3.keep fun _ _ _ h => h
    have := finish_hT (vs := [iv 0]) hO (by rfl) he2 (enc2_cell s) (fun m => by rw [enc2_share];exact enc2_low s m)
    rw [enc2_share] at this
    exact this
end Go.Den.Ch
end
section
namespace Go.Den.Ch
instance : Inhabited Fig := ⟨⟨0,0,0⟩⟩
def figAt (c : CL) (k : Int) : Fig := c.figs.getD k.toNat default
def partL (c : CL) (fs : List Int) : CL := { c with figs := fs.map (figAt c) }
def canB (c : CL) (fs : List Int) : Bool := !(rightsL (partL c fs)).isEmpty
def maskN (fs : List Int) : Nat := fs.foldl (fun m k => m ||| 2 ^ k.toNat) 0
theorem maskN_take {fs : List Int} {i : Nat} (h : i < fs.length) : maskN (fs.take (i + 1)) = maskN (fs.take i) ||| 2 ^ fs[i].toNat := by
 rw [List.take_succ_eq_append_getElem h,maskN,List.foldl_append];rfl
structure OkR (n : Nat) (fs : List Int) : Prop where
 rng : ∀ x ∈ fs,0 ≤ x ∧ x < n
 ris : fs.Pairwise (· < ·)
theorem maskN_bound {n : Nat} (hn : n ≤ 6) {fs : List Int} (h : ∀ x ∈ fs,0 ≤ x ∧ x < n) : maskN fs < 64 := by
 have : ∀ (fs : List Int) (m : Nat),(∀ x ∈ fs,0 ≤ x ∧ x < n) → m < 64 → fs.foldl (fun m k => m ||| 2 ^ k.toNat) m < 64 := by
  intro fs
  induction fs with
  | nil => intro m _ h;exact h
  | cons x fs ih =>
   intro m h hm
   refine ih _ (fun y hy => h y (by simp [hy])) ?_
   have hx := h x (by simp)
   have h2 : 2 ^ x.toNat < 2 ^ 6 := Nat.pow_lt_pow_right (by omega) (by omega)
   exact Nat.or_lt_two_pow (n := 6) hm h2
 exact this fs 0 h (by omega)
theorem maskN_bit {fs : List Int} (h : ∀ x ∈ fs,0 ≤ x) (k : Nat) : (maskN fs).testBit k = fs.contains (k : Int) := by
 have : ∀ (fs : List Int) (m : Nat),(∀ x ∈ fs,0 ≤ x) → (fs.foldl (fun m k => m ||| 2 ^ k.toNat) m).testBit k = (m.testBit k || fs.contains (k : Int)) := by
  intro fs
  induction fs with
  | nil => intro m _;simp
  | cons x fs ih =>
   intro m h
   rw [List.foldl_cons,ih _ (fun y hy => h y (by simp [hy])),Nat.testBit_or,Nat.testBit_two_pow,List.contains_cons]
   have hx := h x (by simp)
   have : decide (x.toNat = k) = ((k : Int) == x) := by
    by_cases hk : x.toNat = k
    ·have : (k : Int) = x := by omega
     simp [hk,this]
    ·have : ¬ (k : Int) = x := by omega
     simp [hk,this]
   rw [this,Bool.or_assoc]
 have h1 := this fs 0 h
 rw [Nat.zero_testBit,Bool.false_or] at h1
 exact h1
theorem rising_ext : ∀ {a b : List Int},a.Pairwise (· < ·) → b.Pairwise (· < ·) → (∀ x,x ∈ a ↔ x ∈ b) → a = b
 | [],[],_,_,_ => rfl
 | [],y :: b,_,_,h => by have := (h y).2 (by simp);cases this
 | x :: a,[],_,_,h => by have := (h x).1 (by simp);cases this
 | x :: a,y :: b,ha,hb,h => by
  rw [List.pairwise_cons] at ha hb
  have hxy : x = y := by
   have h1 := (h x).1 (by simp)
   have h2 := (h y).2 (by simp)
   rcases List.mem_cons.1 h1 with e | h1
   ·exact e
   ·rcases List.mem_cons.1 h2 with e | h2
    ·exact e.symm
    ·have := hb.1 x h1;have := ha.1 y h2;omega
  subst hxy
  congr 1
  refine rising_ext ha.2 hb.2 (fun z => ?_)
  have hz := h z
  simp only [List.mem_cons] at hz
  constructor
  ·intro h1
   rcases hz.1 (.inr h1) with rfl | h2
   ·have := ha.1 z h1;omega
   ·exact h2
  ·intro h1
   rcases hz.2 (.inr h1) with rfl | h2
   ·have := hb.1 z h1;omega
   ·exact h2
theorem maskN_inj {n : Nat} {a b : List Int} (ha : OkR n a) (hb : OkR n b) (h : maskN a = maskN b) : a = b := by
 refine rising_ext ha.ris hb.ris (fun x => ?_)
 have key : ∀ x : Nat,(x : Int) ∈ a ↔ (x : Int) ∈ b := fun x => by
  have h1 := maskN_bit (fun y hy => (ha.rng y hy).1) x
  have h2 := maskN_bit (fun y hy => (hb.rng y hy).1) x
  rw [h,h2] at h1
  simp only [List.contains_eq_mem] at h1
  constructor
  ·intro h3;simpa [h3] using h1
  ·intro h3;simpa [h3] using h1.symm
 constructor
 ·intro hx
  have h0 := (ha.rng x hx).1
  have e : x = ((x.toNat : Nat) : Int) := by omega
  rw [e] at hx ⊢
  exact (key _).1 hx
 ·intro hx
  have h0 := (hb.rng x hx).1
  have e : x = ((x.toNat : Nat) : Int) := by omega
  rw [e] at hx ⊢
  exact (key _).2 hx
def MapOk (c : CL) (es : List (PV × PV)) : Prop := ∀ e ∈ es,∃ fs,OkR c.figs.length fs ∧ e = (.agg [iv (maskN fs)],.bool (canB c fs))
theorem findKey_ok {c : CL} {fs : List Int} (hf : OkR c.figs.length fs) : ∀ (es : List (PV × PV)) (i : Nat),MapOk c es →
  findKey [((maskN fs : Nat) : Int)] es i = some none ∨ ∃ j,findKey [((maskN fs : Nat) : Int)] es i = some (some (i + j)) ∧ ∃ k,es[j]? = some (k,.bool (canB c fs))
 | [],i,_ => .inl rfl
 | e :: es,i,h => by
  obtain ⟨gs,hg,rfl⟩ := h e (by simp)
  have hr := findKey_ok hf es (i + 1) (fun e he => h e (by simp [he]))
  simp only [findKey,ints,Option.map_some,List.length_cons,List.length_nil,if_true]
  by_cases hk : [((maskN gs : Nat) : Int)] = [((maskN fs : Nat) : Int)]
  ·rw [if_pos hk]
   have : maskN gs = maskN fs := by have := (List.cons.inj hk).1;omega
   have := maskN_inj hg hf this
   subst this
   exact .inr ⟨0,rfl,_,rfl⟩
  ·rw [if_neg hk]
   rcases hr with hr | ⟨j,h1,h2⟩
   ·exact .inl hr
   ·exact .inr ⟨j + 1,by rw [h1];congr 2;omega,by simpa using h2⟩
theorem shl_ok {k : Int} (h0 : 0 ≤ k) (h6 : k < 6) : IntKind.wrap .i64 (1 * 2 ^ (min k.toNat 64)) = ((2 ^ k.toNat : Nat) : Int) := by
 have : k = 0 ∨ k = 1 ∨ k = 2 ∨ k = 3 ∨ k = 4 ∨ k = 5 := by omega
 rcases this with rfl | rfl | rfl | rfl | rfl | rfl <;> decide
theorem or_ok {a b : Nat} (ha : a < 64) (hb : b < 64) : IntKind.wrap .i64 ((BitVec.ofInt 64 (a : Int) ||| BitVec.ofInt 64 (b : Int)).toNat : Int) = ((a ||| b : Nat) : Int) := by
 have h1 : (BitVec.ofInt 64 (a : Int) ||| BitVec.ofInt 64 (b : Int)).toNat = a ||| b := by
  rw [BitVec.toNat_or,BitVec.ofInt_natCast,BitVec.ofInt_natCast,BitVec.toNat_ofNat,BitVec.toNat_ofNat]
  rw [Nat.mod_eq_of_lt (by omega),Nat.mod_eq_of_lt (by omega)]
 rw [h1]
 have := Nat.or_lt_two_pow (n := 6) ha hb
 exact wrap_in (by unfold inI;omega)
def CanQ (c : CL) (mm : Nat) (st st' : St) : Prop := ∃ es',hp st' mm = some (.map es') ∧ MapOk c es' ∧ HExt (st.heap.set mm (.map es')) st'.heap ∧ min st.lo mm ≤ st'.lo ∧ st'.lo ≤ st.lo ∧ (st' = st ∨ st'.lo ≤ mm)
set_option maxHeartbeats 8000000 in
theorem c108 (c : CL) (F G : PV) (fs : List Int) (mm : Nat) (es : List (PV × PV)) (hF : SlOf 3 encF F c.figs) (hc : OkL c) (hG : SlOf 1 encI G fs) (hfs : OkR c.figs.length fs) (hfl : fs.length ≤ c.figs.length) (st : St) (hwf : st.lo ≤ st.heap.length) (hm : hp st mm = some (.map es)) (hes : MapOk c es) : ClR EE (.func 108 [] []) [.agg [iv c.room,iv c.depth,F,.map mm],G] st (fun v st' => v = .bool (canB c fs) ∧ CanQ c mm st st') := by
 have hFc := hF.cells
 have hFi := hF.isCell
 have hGs := hG.slen
 have hlen := hc.len
 have lm := hp_lt hm
 refine clr_fn (pr108 · _ _) fn108 2 rfl (by decide) (fun tm hl hg => ?_);have h0 : tg tm 0 = .agg [iv c.room,iv c.depth,F,.map mm] := (hg 0 (by decide));have h1 : tg tm 1 = G := (hg 1 (by decide));clear hg
 refine go (bw4 hl h0 h1 hGs) fnil ?_
 refine wp_range fs.length [] (fun i vs st' => ∃ v,hp st' (st.heap.length + 1) = some (.var [iv c.room,iv c.depth,v]) ∧ OwnS st.heap.length st' 3 v (((fs.take i).map (figAt c))).length (((fs.take i).map (figAt c)).flatMap encF) ∧ hp st' (st.heap.length + 2) = some (.var [iv (maskN (fs.take i))]) ∧ hp st' st.heap.length = some (.var [iv c.room,iv c.depth,F,.map mm]) ∧ HExt st.heap st'.heap ∧ st.heap.length ≤ st'.lo ∧ st'.lo ≤ st'.heap.length) (by omega) (by simp only [go_sem,hl]) (by simp only [go_sem,hl]) (by simp only [go_sem,hl]) (by decide)
  ⟨.nilslice,by simp only [go_sem],.nil,by simp only [go_sem];rfl,by simp only [go_sem],(show HExt ({ heap := st.heap,lo := st.heap.length } : St).heap _ from (((((Fr.refl st.heap.length { heap := st.heap,lo := st.heap.length }).push (Nat.le_refl _)).push (by simp only [len_push];omega)).setVar (by omega)).push (by simp only [len_push,len_setVar];omega)).hext),by simp only [lo_push,lo_setVar];omega,by simp only [lo_push,lo_setVar,len_push,len_setVar];omega⟩ ?_ ?_
 ·rintro i hi tm1 st1 ⟨v,b1,hO,b2,b0,hx,hlo,hwf1⟩ hS hia
  have hl1 : tm1.length = 60 := (by rw [hS.1];simp only [put_len,hl]);have i2 : tg tm1 2 = .ptr st.heap.length 0 := (by rw [hS.2 2 (by decide)];simp only [go_sem,hl,h1]);have i5 : tg tm1 5 = .ptr (st.heap.length + 1) 0 := (by rw [hS.2 5 (by decide)];simp only [go_sem,hl,h1]);have i6 : tg tm1 6 = .ptr (st.heap.length + 2) 0 := (by rw [hS.2 6 (by decide)];simp only [go_sem,hl,h1]);have i19 : tg tm1 19 = G := (by rw [hS.2 19 (by decide)];simp only [go_sem,hl,h1]);clear hS
  have m0 := hp_lt b0
  have m1 := hp_lt b1
  have m2 := hp_lt b2
  have hr := hfs.rng _ (List.getElem_mem hi)
  have hfg : c.figs[fs[i].toNat]'(by omega) = figAt c fs[i] := by rw [figAt,List.getD_eq_getElem?_getD,List.getElem?_eq_getElem (by omega)];rfl
  have hvc : v.cells = [v] := sl_cells hO.sl
  have hvi : v.isCell = true := sl_isCell hO.sl
  refine go (bw21 hl1 i2 i5 i6 i19 hia b0 b1 b2 (neL m0) (neA m0) (ltL m0) (ltA m0) (neL m1) (neA m1) (ltL m1) (ltA m1) (neL m2) (neA m2) (ltL m2) (ltA m2)) fnil ?_
  have hO0 : OwnS st.heap.length (st1.push (.tag true)) 3 v (((fs.take i).map (figAt c))).length (((fs.take i).map (figAt c)).flatMap encF) := hO.push
  have hl0 : ((fs.take i).map (figAt c)).length ≤ 6 := by simp;omega
  refine wopsD_append (m := st.heap.length) (by simp only [lo_push,len_push];omega) rfl rfl (by simp only [go_sem,hl1];first | done | rfl) (by simp only [go_sem,hl1];first | done | rfl) hO0 rfl (by simp only [len_push];omega) (by rfl) (by rfl) (by simp only [maxList];omega) ?_
  intro v' st2 ft hO' hFr hk
  have f1 := hFr.lo
  have f2 := hFr.up
  have f3 := hFr.len
  simp only [lo_push,len_push] at f1 f2 f3
  have d0 := hk _ _ ((HExt.push st1 _).hp b0) (by simp)
  have d1 := hk _ _ ((HExt.push st1 _).hp b1) (by simp)
  have d2 := hk _ _ ((HExt.push st1 _).hp b2) (by simp)
  have n1 := hp_lt d1
  have n2 := hp_lt d2
  have hvc' : v'.cells = [v'] := sl_cells hO'.sl
  have hvi' : v'.isCell = true := sl_isCell hO'.sl
  refine go (bw4 hl1 i5 hvc' hvi') fnil ?_
  refine wopsD_set (v := undef) (l := st.heap.length + 1) (ob := .var [iv c.room,iv c.depth,v']) (by omega) (by omega) rfl rfl (fun rec st5 he hh => by simp only [go_sem,hl1,i5,he,hh,d1,hvc',hvi',neL n1,neA n1,ltL n1,ltA n1]) ?_
  apply wopsD_nil
  refine ⟨?_,?_⟩
  ·exact footOk_q (by simp [footOf])
  have hneg : (fs[i] < 0) = False := by simp only [eq_iff_iff,iff_false];omega
  have hsh := shl_ok hr.1 (by omega)
  have hmb := maskN_bound hlen (fs := fs.take i) (fun x hx => hfs.rng x (List.mem_of_mem_take hx))
  have hpb : 2 ^ fs[i].toNat < 64 := by
   have : 2 ^ fs[i].toNat < 2 ^ 6 := Nat.pow_lt_pow_right (by omega) (by omega)
   omega
  have hor := or_ok hmb hpb
  refine go (bw10 hl1 i6 d2 (neL n2) (neA n2) (ltL n2) (ltA n2) hneg hsh hor) fnil ?_
  refine wopsD_set (v := undef) (l := st.heap.length + 2) (ob := .var [iv ((maskN (fs.take i) ||| 2 ^ fs[i].toNat : Nat) : Int)]) (by simp only [lo_setVar,len_setVar];omega) (by simp only [len_setVar];omega) rfl rfl (fun rec st5 he hh => by simp only [go_sem,hl1,i6,he,hh,d2,neL n2,neA n2,ltL n2,ltA n2];exact congrArg (fun z => some (OpR.val (PV.tuple []) (setVar st5 (st.heap.length + 2) (HObj.var [PV.int IntKind.i64 z])))) hor) ?_
  apply wopsD_nil
  refine ⟨footOk_quiet (by rfl),?_⟩
  apply inBlock_normal
  apply andThen_normal
  rw [maskN_take hi]
  have hx2 : HExt st.heap st2.heap := (hx.trans (HExt.push st1 (.tag true))).fr hFr
  refine ⟨v',?_,?_,?_,?_,(hx2.setVar (by omega)).setVar (by omega),by simp only [lo_setVar];omega,by simp only [lo_setVar,len_setVar];omega⟩
  ·simp only [go_sem,neL n1,neA n1,ltL n1,ltA n1,neL n2,neA n2,ltL n2,ltA n2]
  ·have e1 : ((fs.take (i + 1)).map (figAt c)) = (fs.take i).map (figAt c) ++ [figAt c fs[i]] := by rw [List.take_succ_eq_append_getElem hi,List.map_append];rfl
   rw [e1]
   refine OwnS.setVar (OwnS.setVar ?_ (by rw [d1];simp)) (by simp only [go_sem,d2];simp)
   rw [← hfg]
   simpa [share_int] using hO'
  ·simp only [go_sem,neL n2,neA n2,ltL n2,ltA n2]
  ·simp only [go_sem,d0]
 ·rintro tm1 st1 ⟨v,b1,hO,b2,b0,hx,hlo,hwf1⟩ hS
  have hl1 : tm1.length = 60 := (by rw [hS.1];simp only [put_len,hl]);have i2 : tg tm1 2 = .ptr st.heap.length 0 := (by rw [hS.2 2 (by decide)];simp only [go_sem,hl,h1]);have i5 : tg tm1 5 = .ptr (st.heap.length + 1) 0 := (by rw [hS.2 5 (by decide)];simp only [go_sem,hl,h1]);have i6 : tg tm1 6 = .ptr (st.heap.length + 2) 0 := (by rw [hS.2 6 (by decide)];simp only [go_sem,hl,h1]);clear hS
  rw [List.take_length] at hO b2
  have m0 := hp_lt b0
  have m1 := hp_lt b1
  have m2 := hp_lt b2
  have hmm : hp st1 mm = some (.map es) := hx.hp hm
  have hPL : SlOf 3 encF v (partL c fs).figs := SlOf.of_sl hO.sl rfl rfl (fun _ => rfl)
  have hPc := hPL.cells
  have hPi := hPL.isCell
  have hcp : OkL (partL c fs) := ⟨by simp [partL];omega,fun f hf => by
   simp only [partL,List.mem_map] at hf
   obtain ⟨k,hk,rfl⟩ := hf
   have := hfs.rng k hk
   rw [figAt,List.getD_eq_getElem?_getD,List.getElem?_eq_getElem (by omega)]
   exact hc.figs _ (List.getElem_mem _),hc.d0,hc.d1⟩
  refine go (bw13 hl1 i2 i6 b0 b2 (neL m0) (neA m0) (ltL m0) (ltA m0) (neL m2) (neA m2) (ltL m2) (ltA m2)) fnil ?_
  have hmm' : st1.heap[mm]? = some (.map es) := hmm
  have hint : ints [iv ((maskN fs : Nat) : Int)] = some [((maskN fs : Nat) : Int)] := rfl
  rcases findKey_ok hfs es 0 hes with hk | ⟨j,hk,k,hkj⟩
  ·refine wops_one (v := .tuple [.bool false,.bool false]) (st1 := st1) rfl (fun rec => ?_) ?_
   ·have e1 : Opd.ev (put (put (put (put tm1 (some 44) (PV.ptr st.heap.length 3)) (some 45) (PV.map mm)) (some 46) (PV.agg [PV.int IntKind.i64 ↑(maskN fs)])) none undef) (.t 45) = .map mm := by simp only [go_sem,hl1]
    simp only [stepOp]
    simp only [go_sem,hl1]
    simp only [hmm',hint,List.length_cons,List.length_nil,if_true,hk]
   ·have hwl : st1.heap.length < st1.heap.length + 1 := by omega
    have hcl : ∀ st,Cl EE (.func 82 [] []) [.agg [iv c.room,iv c.depth,v]] st (.ret (.func 129 [] [.ptr st.heap.length 0])) (st.push (.var [iv c.room,iv c.depth,v])) := fun st => c82 (partL c fs) v st
    refine go (bw9 hl1 i5 hPi hPc b1 (neL m1) (neA m1) (ltL m1) (ltA m1)) (bw hcl fnil) ?_
    apply wp_block
    refine wp_gen (fun tm2 s1 => tm2.length = 60 ∧ tg tm2 2 = .ptr st.heap.length 0 ∧ tg tm2 6 = .ptr (st.heap.length + 2) 0 ∧ tg tm2 11 = .ptr st1.heap.length 0 ∧ tg tm2 53 = .func 129 [] [.ptr (st1.heap.length + 1) 0] ∧ s1.heap.length = st1.heap.length + 2 ∧ st.heap.length ≤ s1.lo ∧ s1.lo ≤ s1.heap.length ∧ HExt st.heap s1.heap ∧ hp s1 st.heap.length = some (.var [iv c.room,iv c.depth,F,.map mm]) ∧ hp s1 (st.heap.length + 2) = some (.var [iv (maskN fs)]) ∧ hp s1 st1.heap.length = some (.var [.bool false]) ∧ hp s1 (st1.heap.length + 1) = some (.var [iv c.room,iv c.depth,v]))
     ⟨by simp only [go_sem,hl1],by simp only [go_sem,hl1,i2],by simp only [go_sem,hl1,i6],by simp only [go_sem,hl1],by simp only [go_sem,hl1],by simp only [go_sem],by simp only [lo_push,lo_setVar];omega,by simp only [lo_push,lo_setVar,len_push,len_setVar];omega,((hx.trans (HExt.push st1 _)).setVar (by omega)).trans (HExt.push _ _),by simp only [go_sem,b0,neL m0,neA m0,ltL m0,ltA m0],by simp only [go_sem,b2,neL m2,neA m2,ltL m2,ltA m2],by simp only [go_sem],by simp only [go_sem]⟩ ?_
    rintro tm2 s1 ⟨hl2,q2,q6,q11,q53,hsl,hlo2,hwf2,hx2,z0,z2,z11,z12⟩
    have hnoX : ∀ (i : Nat) (hi : i < (rightsL (partL c fs)).length),canB c fs = true := fun i hi => by
     unfold canB
     cases h : rightsL (partL c fs) with
     | nil => rw [h] at hi;simp at hi
     | cons a l => rfl
    have fin : ∀ (b : Bool) (S : St),b = canB c fs → HExt st.heap S.heap → st.heap.length ≤ S.lo → S.lo ≤ S.heap.length → hp S st.heap.length = some (.var [iv c.room,iv c.depth,F,.map mm]) → hp S (st.heap.length + 2) = some (.var [iv (maskN fs)]) → hp S st1.heap.length = some (.var [.bool b]) →
      Wp EE (.seq (.region [⟨.fieldAddr 3 (.t 2),(some 55),none⟩,⟨.load false 1 (.t 55),(some 56),none⟩,⟨.load true 1 (.t 6),(some 57),none⟩,⟨.load false 1 (.t 11),(some 58),none⟩,⟨.mapUpdate 1 (.t 56) (.t 57) (.t 58),none,none⟩]) (.seq (.region [⟨.load false 1 (.t 11),(some 59),none⟩,⟨.val (.t 59),(some 4),none⟩]) .ret)) (FnR [.tmp 4] st fun v st' => v = PV.bool (canB c fs) ∧ CanQ c mm st st') tm2 S := by
     intro b S hb hxS hloS hwfS y0 y2 y11
     have n0 := hp_lt y0
     have n2 := hp_lt y2
     have n11 := hp_lt y11
     have hmS : S.heap[mm]? = some (.map es) := hxS.hp hm
     have lmS : mm < S.heap.length := by have := hxS.1;omega
     refine go (bw19 hl2 q2 q6 q11 y0 y2 y11 (neL n0) (neA n0) (ltL n0) (ltA n0) (neL n2) (neA n2) (ltL n2) (ltA n2) (neL n11) (neA n11) (ltL n11) (ltA n11)) fnil ?_
     refine wops_one (v := undef) (st1 := setVar S mm (.map (es ++ [(.agg [iv ((maskN fs : Nat) : Int)],.bool b)]))) rfl (fun rec => ?_) ?_
     ·simp only [stepOp]
      simp only [go_sem,hl2]
      simp only [hmS,hint,List.length_cons,List.length_nil,if_true,hk]
     have y11' : hp (setVar S mm (.map (es ++ [(.agg [iv ((maskN fs : Nat) : Int)],.bool b)]))) st1.heap.length = some (.var [.bool b]) := hp_set_other y11 (by rintro rfl;have : hp S st1.heap.length = some (.map es) := hmS;rw [y11] at this;cases this)
     refine go (bw3 hl2 q11 y11') fnil ?_
     refine fnr_ret (v := .bool b) (results_one (by rw [rdRes_tmp];simp only [go_sem,hl2])) ?_
     have hne : ¬ st.heap.length ≤ (setVar S mm (.map (es ++ [(.agg [iv ((maskN fs : Nat) : Int)],.bool b)]))).lo := by rw [lo_setVar];omega
     unfold finishCall
     rw [if_neg hne]
     refine ⟨by rw [hb],es ++ [(.agg [iv ((maskN fs : Nat) : Int)],.bool b)],?_,?_,?_,?_,Nat.min_le_left _ _,.inr ?_⟩
     ·show (setVar S mm _).heap[mm]? = _
      have := hp_setVar S mm mm (.map (es ++ [(.agg [iv ((maskN fs : Nat) : Int)],.bool b)]))
      rw [if_pos rfl,if_pos lmS] at this
      exact this
     ·intro e he
      rcases List.mem_append.1 he with h | h
      ·exact hes e h
      ·simp only [List.mem_singleton] at h
       subst h
       exact ⟨fs,hfs,by rw [hb]⟩
     ·refine ⟨by simp only [List.length_set,setVar];exact hxS.1,fun l hl => ?_⟩
      rw [List.length_set] at hl
      show (S.heap.set mm _)[l]? = _
      by_cases hlm : mm = l
      ·subst hlm
       rw [List.getElem?_set_self lmS,List.getElem?_set_self hl]
      ·rw [List.getElem?_set_ne hlm,List.getElem?_set_ne hlm]
       exact hxS.2 l hl
     ·show min st.lo mm ≤ min st.lo (setVar S mm _).lo
      rw [lo_setVar];omega
     ·show min st.lo (setVar S mm _).lo ≤ mm
      rw [lo_setVar];omega
    refine wp_rangeF (X := rightsL (partL c fs)) (Rep := RepP (partL c fs) v) (priv := fun l => l = st1.heap.length + 1) (fun l => l = st1.heap.length) st.heap.length
     (fun i h => HExt st.heap h ∧ h[st.heap.length]? = some (.var [iv c.room,iv c.depth,F,.map mm]) ∧ h[st.heap.length + 2]? = some (.var [iv (maskN fs)]) ∧ h[st1.heap.length]? = some (.var [.bool false]) ∧ i = 0) (fun j h => j = .exit 2 ∧ HExt st.heap h ∧ h[st.heap.length]? = some (.var [iv c.room,iv c.depth,F,.map mm]) ∧ h[st.heap.length + 2]? = some (.var [iv (maskN fs)]) ∧ h[st1.heap.length]? = some (.var [.bool true]) ∧ canB c fs = true) (by simp only [go_sem,q53]) (iter129 (c := partL c fs) hPL hcp ((HExt.push _ _).hp z12)) (fun l hl => by omega) (fun l hl => by omega) hlo2 hwf2
     (fun i h h' ⟨a,a0,a2,a11,ai⟩ hx => ⟨a.trans hx,hx.var a0,hx.var a2,hx.var a11,ai⟩) (fun j h h' ⟨aj,a,a0,a2,a11,ai⟩ hx => ⟨aj,a.trans hx,hx.var a0,hx.var a2,hx.var a11,ai⟩)
     (fun i h s p s' p' ⟨a,a0,a2,a11,ai⟩ hL => ⟨a.set (by omega),set_var a0 hL,set_var a2 hL,set_var a11 hL,ai⟩) (fun j h s p s' p' ⟨aj,a,a0,a2,a11,ai⟩ hL => ⟨aj,a.set (by omega),set_var a0 hL,set_var a2 hL,set_var a11 hL,ai⟩)
     ⟨hx2,z0,z2,z11,rfl⟩ ?_ ?_ ?_
    ·rintro i hi u st2 hu ⟨a,a0,a2,a11,ai⟩ he1 hwf3 hL
     refine ⟨_,setParams_one,?_⟩
     have lL := hp_lt hL
     have a11' : hp st2 st1.heap.length = some (.var [.bool false]) := a11
     have m11 := hp_lt a11'
     apply wp_skip
     refine ⟨rfl,.refl _,he1,hwf3,?_⟩
     have a12 : ∀ o,hp (setVar st2 s1.heap.length o) st1.heap.length = some (.var [.bool false]) := fun o => hp_set_other a11' (by omega)
     refine go (bw7 hl2 q11 a12 (neL m11) (neA m11) (ltL m11) (ltA m11)) fnil ?_
     refine ⟨hp_set_other (by simp only [go_sem,neL lL,neA lL,ltL lL,ltA lL]) (by omega),⟨by simp only [len_setVar];exact Nat.le_refl _,fun l o ho _ hn => hp_set_other (hp_set_other ho (fun h => hn (.inr h))) (fun h => hn (.inl h))⟩,by simp only [lo_setVar];omega,by simp only [lo_setVar,len_setVar];omega,rfl,?_,hp_set_other (hp_set_other a0 (by omega)) (by omega),hp_set_other (hp_set_other a2 (by omega)) (by omega),?_,hnoX i hi⟩
     ·exact HExt.setVar (HExt.setVar a (by omega)) (by omega)
     ·have : ∀ o,hp (setVar (setVar st2 s1.heap.length o) st1.heap.length (.var [.bool true])) st1.heap.length = some (.var [.bool true]) := fun o => by simp only [go_sem,neL m11,neA m11,ltL m11,ltA m11]
      exact this _
    ·rintro s2 ⟨a,a0,a2,a11,ai⟩ hk2 he2 hwf4
     apply inBlock_normal
     apply andThen_normal
     refine fin false s2 ?_ a he2 hwf4 a0 a2 a11
     unfold canB
     rw [List.eq_nil_of_length_eq_zero ai];rfl
    ·rintro j s2 ⟨rfl,a,a0,a2,a11,ai⟩ hk2 he2 hwf4
     simp only [jumpEx]
     apply inBlock_same
     apply andThen_normal
     exact fin true s2 ai.symm a he2 hwf4 a0 a2 a11
  ·refine wops_one (v := .tuple [.bool (canB c fs),.bool true]) (st1 := st1) rfl (fun rec => ?_) ?_
   ·simp only [stepOp]
    simp only [go_sem,hl1]
    simp only [hmm',hint,List.length_cons,List.length_nil,if_true,hk,Nat.zero_add,hkj,Option.map_some]
   ·refine go hl1 fnil ?_
    refine fnr_ret (v := .bool (canB c fs)) (results_one (by rw [rdRes_tmp];simp only [go_sem,hl1])) ?_
    rw [finish_flat hlo rfl]
    refine ⟨rfl,es,hm,hes,?_,by simp only;omega,Nat.le_refl _,.inl rfl⟩
    have : st.heap.set mm (.map es) = st.heap := by
     apply List.ext_getElem?
     intro i
     by_cases hi : mm = i
     ·subst hi
      rw [List.getElem?_set_self lm]
      exact hm.symm
     ·rw [List.getElem?_set_ne hi]
    rw [this]
    exact .refl _
end Go.Den.Ch
end

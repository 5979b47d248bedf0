/- Part of the proofs of laws of the package chest. Texts: ChI, ChJ, ChK, ChL, ChM. -/
import Derived.Test.YtoeigapilcgelaaGreatDoorK8Am
set_option linter.unusedSimpArgs false
set_option linter.unusedVariables false
section
namespace Go.Den.Ch
theorem searchL_mem {c : CL} : ∀ {k : Nat} {now p : List Int},p ∈ searchL c k now → now.length + k = c.figs.length → (∀ x ∈ now,0 ≤ x ∧ x < c.depth) → OkP c p ∧ fault c p = none
 | 0,now,p,h,hl,hr => by
  simp only [searchL] at h
  split at h
  ·rename_i hf
   simp only [List.mem_singleton] at h
   subst h
   exact ⟨⟨by omega,hr⟩,by simpa using hf⟩
  ·cases h
 | k + 1,now,p,h,hl,hr => by
  simp only [searchL,List.mem_flatMap,List.mem_range] at h
  obtain ⟨n,hn,h⟩ := h
  split at h
  ·cases h
  ·refine searchL_mem h (by simp;omega) (fun x hx => ?_)
   rcases List.mem_append.1 hx with h1 | h1
   ·exact hr x h1
   ·simp only [List.mem_singleton] at h1;subst h1;omega
theorem rightsL_mem {c : CL} {p : List Int} (h : p ∈ rightsL c) : OkP c p ∧ fault c p = none := searchL_mem h (by simp) (by simp)
theorem layersL_small {c : CL} {p : List Int} (hc : OkL c) (hp : OkP c p) : ∀ x ∈ p,inI (x + 1) := fun x hx => by
 have := hp.rng x hx
 have := hc.d1
 unfold inI;omega
def ltLay (a b : List Int) : Bool := decide (layersL a < layersL b)
theorem c83 (c : CL) (F P P2 : PV) (p p2 : List Int) (hc : OkL c) (hF : F.cells = [F]) (hp : OkP c p) (hp2 : OkP c p2) (hP : SlOf 1 encI P p) (hP2 : SlOf 1 encI P2 p2) (st : St) : Cl EE (.func 83 [] []) [paPV c F P,paPV c F P2] st (.ret (.bool (ltLay p p2))) st := by
 have hPc := hP.cells
 have hPc2 := hP2.cells
 have := hc.len
 have := hp.len
 have := hp2.len
 refine cl_fn (pr83 · _ _) fn83 2 rfl (by decide) (fun tm hl hg => ?_);have h0 : tg tm 0 = paPV c F P := (hg 0 (by decide));have h1 : tg tm 1 = paPV c F P2 := (hg 1 (by decide));clear hg
 refine go (bw3 hl h0 h1) (bw3 (c84 c F P p hF hP (by omega) (layersL_small hc hp)) (c84 c F P2 p2 hF hP2 (by omega) (layersL_small hc hp2)) fnil) ?_
 unfold ltLay
 refine fnq_flat (results_one (by rw [rdRes_tmp];simp only [go_sem,hl];first | done | rfl)) (by first | exact Nat.le_refl _ | omega | (simp only [lo_push,lo_setVar];omega)) (by rfl)
def bestR (c : CL) : List Int × Int × Int := if listB c then (match bestF ltLay (rightsL c) with | some p => (p,layersL p,0) | none => ([],0,5)) else ([],0,2)
theorem ints_low (l : List Int) (m : Nat) : lowL m (l.flatMap encI) = true := lowL_of (fun c hc => encI_low l m c hc)
set_option maxHeartbeats 4000000 in
theorem c31 (c : CL) (F : PV) (hF : SlOf 3 encF F c.figs) (st : St) : ClR EE (.func 31 [] []) [clPV c F] st (fun v st' => ∃ P,v = .tuple [P,iv (bestR c).2.1,iv (bestR c).2.2] ∧ RetW st (bestR c).1.length ((bestR c).1.flatMap encI) P st') := by
 have hFc := hF.cells
 have hFi := hF.isCell
 refine clr_fn (pr31 · _ _) fn31 1 rfl (by decide) (fun tm hl hg => ?_);have h0 : tg tm 0 = clPV c F := (hg 0 (by decide));clear hg
 cases hA : listB c
 ·have e : bestR c = ([],0,2) := by simp [bestR,hA]
  rw [e]
  refine go (bw3 hl h0 hA) (bw (c77 c F hF) fnil) ?_
  refine fnr_ret (v := .tuple [.nilslice,iv 0,iv 2]) (by simp only [results,rdResL,rdRes_tmp];simp only [go_sem,hl]) ?_
  exact finish_slT rfl (by rfl) (by simp only [lo_push];omega) (fun m => rfl)
 ·have hc := OkL.of hA
  refine go (bw3 hl h0 hA) (bw3 (c77 c F hF) (c82 c F) fnil) ?_
  have hb1 : hp ((({ heap := st.heap,lo := st.heap.length } : St).push (.var [iv c.room,iv c.depth,F])).push (.var [iv c.room,iv c.depth,F])) (st.heap.length + 1) = some (.var [iv c.room,iv c.depth,F]) := by simp only [go_sem]
  refine wops_callR rfl rfl (by simp only [go_sem,hl];first | done | rfl) (by simp only [go_sem,hl];exact c81 c F hFc hFi 129 [] [.ptr (st.heap.length + 1) 0] (.func 83 [] []) rfl (rightsL c) ltLay (fun l => l = st.heap.length + 1) _ (fun l h => by subst h;simp only [len_push];omega) (fun st' hx => iter129 hF hc (hx.hp hb1)) (fun st' _ x hx o ho vx vo ⟨P,e1,hP⟩ ⟨P2,e2,hP2⟩ => by subst e1;subst e2;exact c83 c F P P2 x o hc hFc (rightsL_mem hx).1 (rightsL_mem ho).1 hP hP2 st')) ?_
  rintro v st1 ⟨cs,rfl,hO,hk,hlo⟩
  simp only [lo_push] at hlo
  have hk1 := hk.1
  simp only [len_push] at hk1
  have hwf1 : st1.lo ≤ st1.heap.length := by omega
  cases hb : bestF ltLay (rightsL c) with
  | none =>
   have e : bestR c = ([],0,5) := by simp [bestR,hA,hb]
   rw [e]
   rw [hb] at hO
   simp only [OutP] at hO
   subst hO
   refine go (bw4 hl @isS @isN hb) fnil ?_
   refine fnr_ret (v := .tuple [.nilslice,iv 0,iv 5]) (by simp only [results,rdResL,rdRes_tmp];simp only [go_sem,hl]) ?_
   exact finish_slT rfl (by rfl) (by simp only [lo_push,lo_setVar];omega) (fun m => rfl)
  | some p =>
   have e : bestR c = (p,layersL p,0) := by simp [bestR,hA,hb]
   rw [e]
   rw [hb] at hO
   obtain ⟨P,rfl,hP⟩ := hO
   have hPc := hP.cells
   have hPi := hP.isCell
   have hlen := hc.len
   have hp := (rightsL_mem (bestF_mem ltLay (rightsL c) (Nat.le_refl _) (by rw [List.take_length];exact hb))).1
   have hpl := hp.len
   refine go (bw6 hl @isS @isN hb hFi hPi) (bw (c84 c F P p hFc hP (by omega) (layersL_small hc hp)) fnil) ?_
   refine fnr_ret (v := .tuple [P,iv (layersL p),iv 0]) (by simp only [results,rdResL,rdRes_tmp];simp only [go_sem,hl]) ?_
   exact finish_slT hP.sl (by rfl) (by simp only [lo_push,lo_setVar];omega) (fun m => ints_low p m)
set_option maxHeartbeats 4000000 in
theorem c32 (c : CL) (F : PV) (hF : SlOf 3 encF F c.figs) (hX : (rightsL c).length < 1000000) (st : St) : Cl EE (.func 32 [] []) [clPV c F] st (.ret (.tuple [iv (if listB c then (rightsL c).length else 0),iv (if listB c then 0 else 2)])) st := by
 have hFc := hF.cells
 refine cl_fn (pr32 · _ _) fn32 1 rfl (by decide) (fun tm hl hg => ?_);have h0 : tg tm 0 = clPV c F := (hg 0 (by decide));clear hg
 cases hA : listB c
 ·simp only [Bool.false_eq_true,if_false]
  refine go (bw3 hl h0 hA) (bw (c77 c F hF) fnil) ?_
  exact fnq_tuple (by simp only [results,rdResL,rdRes_tmp];simp only [go_sem,hl]) (by simp only [lo_push];omega) (by rfl)
 ·have hc := OkL.of hA
  simp only [if_true]
  refine go (bw3 hl h0 hA) (bw3 (c77 c F hF) (c82 c F) fnil) ?_
  apply wp_block
  refine wp_gen (fun tm1 s1 => tm1.length = 14 ∧ tg tm1 4 = .ptr (st.heap.length + 1) 0 ∧ tg tm1 9 = .func 129 [] [.ptr (st.heap.length + 2) 0] ∧ s1.heap.length = st.heap.length + 3 ∧ st.heap.length ≤ s1.lo ∧ s1.lo ≤ s1.heap.length ∧ hp s1 (st.heap.length + 1) = some (.var [iv 0]) ∧ hp s1 (st.heap.length + 2) = some (.var [iv c.room,iv c.depth,F]))
   ⟨by simp only [go_sem,hl],by simp only [go_sem,hl],by simp only [go_sem,hl],by simp only [go_sem],by simp only [lo_push,lo_setVar];omega,by simp only [lo_push,lo_setVar,len_push,len_setVar];omega,by simp only [go_sem],by simp only [go_sem]⟩ ?_
  rintro tm1 s1 ⟨hl1,q4,q9,hsl,hlo,hwf,z1,z2⟩
  refine wp_rangeF (X := rightsL c) (Rep := RepP c F) (priv := fun l => l = st.heap.length + 2) (fun l => l = st.heap.length + 1) st.heap.length
   (fun i h => h[st.heap.length + 1]? = some (.var [iv i])) (fun _ _ => False) (by simp only [go_sem,q9]) (iter129 hF hc ((HExt.push _ _).hp z2)) (fun l hl => by omega) (fun l hl => by omega) hlo hwf
   (fun i h h' a0 hx => hx.var a0) (fun _ _ _ h _ => h) (fun i h s p s' p' a0 hL => set_var a0 hL) (fun _ _ _ _ _ _ h _ => h) z1 ?_ ?_ (fun _ _ h => h.elim)
  ·rintro i hi v st1 ⟨P,rfl,hP⟩ a0 he1 hwf1 hL
   refine ⟨_,setParams_one,?_⟩
   have lL := hp_lt hL
   have a0' : hp st1 (st.heap.length + 1) = some (.var [iv i]) := a0
   have m0 := hp_lt a0'
   apply wp_skip
   refine ⟨rfl,.refl _,he1,hwf1,?_⟩
   have hw : IntKind.wrap .i64 ((i : Int) + 1) = ((i + 1 : Nat) : Int) := wrap_in (by unfold inI;omega)
   have a1 : ∀ o,hp (setVar st1 s1.heap.length o) (st.heap.length + 1) = some (.var [iv i]) := fun o => hp_set_other a0' (by omega)
   refine go (bw8 hl1 q4 a1 hw (neL m0) (neA m0) (ltL m0) (ltA m0)) fnil ?_
   refine ⟨hp_set_other (by simp only [go_sem,neL lL,neA lL,ltL lL,ltA lL]) (by omega),⟨by simp only [len_setVar];exact Nat.le_refl _,fun l o ho _ hn => hp_set_other (hp_set_other ho (fun h => hn (.inr h))) (fun h => hn (.inl h))⟩,by simp only [lo_setVar];omega,by simp only [lo_setVar,len_setVar];omega,?_⟩
   have : ∀ o,hp (setVar (setVar st1 s1.heap.length o) (st.heap.length + 1) (.var [iv ((i + 1 : Nat) : Int)])) (st.heap.length + 1) = some (.var [iv ((i + 1 : Nat) : Int)]) := fun o => by simp only [go_sem,neL m0,neA m0,ltL m0,ltA m0]
   exact this _
  ·rintro s2 a0 hk2 he2 hwf2
   have a0' : hp s2 (st.heap.length + 1) = some (.var [iv (rightsL c).length]) := a0
   apply inBlock_normal
   refine go (bw3 hl1 q4 a0') fnil ?_
   exact fnq_tuple (by simp only [results,rdResL,rdRes_tmp];simp only [go_sem,hl1]) he2 (by rfl)
end Go.Den.Ch
end
section
namespace Go.Den.Ch
def hasI (l : List Int) (x : Int) : Bool := l.any fun a => x == a
def lowestL (p fs : List Int) : Int := fs.foldl (fun n k => max n (p.getD k.toNat 0)) (-1)
def castL (l : List Nat) : List Int := l.map fun (i : Nat) => (i : Int)
def outP (p fs : List Int) (i : Nat) : Bool := decide (p.getD i 0 < lowestL p fs) && !hasI fs i
def outL (p fs : List Int) : List Int := castL ((List.range p.length).filter (outP p fs))
def wantP (c : CL) (e : Int) (i : Nat) : Bool := match c.figs[i]? with
 | some f => f.eve == e
 | none => false
def wantL (c : CL) (e : Int) : List Int := castL ((List.range c.figs.length).filter (wantP c e))
def troubleT (c : CL) (p : List Int) (n : Nat) : Int := ((List.range n).map fun (e : Nat) => ((outL p (wantL c e)).length : Int)).sum
def troubleL (c : CL) (p : List Int) : Int := troubleT c p 6
theorem castL_succ (P : Nat → Bool) (i : Nat) : castL ((List.range (i + 1)).filter P) = castL ((List.range i).filter P) ++ (if P i then [(i : Int)] else []) := by
 rw [List.range_succ,List.filter_append,castL,castL,List.map_append]
 cases h : P i <;> simp [h]
theorem castL_len (P : Nat → Bool) (i : Nat) : (castL ((List.range i).filter P)).length ≤ i := by
 rw [castL,List.length_map]
 have := List.length_filter_le P (List.range i)
 simpa using this
theorem c148 (F : PV) (l : List Int) (hF : SlOf 1 encI F l) (hN : l.length < 1000) (x : Int) (st : St) : Cl EE (.func 148 [] []) [F,iv x] st (.ret (iv (idxI (fun a => x == a) l))) st := by
 refine cl_fn (pr148 · _ _) fn148 2 rfl (by decide) (fun tm hl hg => ?_);have h0 : tg tm 0 = F := (hg 0 (by decide));have h1 : tg tm 1 = iv x := (hg 1 (by decide));clear hg
 have hs := hF.slen
 refine go (bw4 hl h0 h1 hs) fnil ?_
 refine wp_range l.length [] (fun i vs st' => st' = { heap := st.heap,lo := st.heap.length } ∧ ∀ k (hk : k < i) (hl : k < l.length),(x == l[k]) = false) (by omega) (by simp only [go_sem,hl]) (by simp only [go_sem,hl]) (by simp only [go_sem,hl]) (by decide) ⟨rfl,fun k hk => absurd hk (by omega)⟩ ?_ ?_
 ·rintro i hi tm1 st1 ⟨rfl,hk⟩ hS hia
  have hl1 : tm1.length = 19 := (by rw [hS.1];simp only [put_len,hl]);have i0 : tg tm1 0 = F := (by rw [hS.2 0 (by decide)];simp only [go_sem,hl,h0,h1]);have i1 : tg tm1 1 = iv x := (by rw [hS.2 1 (by decide)];simp only [go_sem,hl,h0,h1]);clear hS
  cases hp : (x == l[i])
  ·refine go (bw5 hl1 i0 i1 hia hp) fnil ?_
   refine ⟨rfl,fun k hk1 hk2 => ?_⟩
   by_cases hki : k = i
   ·subst hki;exact hp
   ·exact hk k (by omega) hk2
  ·rw [idxI_at hi (fun k hk1 => hk k hk1 (by omega)) hp]
   refine go (bw5 hl1 i0 i1 hia hp) fnil ?_
   refine fnq_flat (results_one (by rw [rdRes_tmp];simp only [go_sem,hl1];first | done | rfl)) (by first | exact Nat.le_refl _ | omega | (simp only [lo_push,lo_setVar];omega)) (by rfl)
 ·rintro tm1 st1 ⟨rfl,hk⟩ hS
  have hl1 : tm1.length = 19 := (by rw [hS.1];simp only [put_len,hl]);clear hS
  rw [idxI_no (fun k hk1 => hk k hk1 hk1)]
  refine go hl1 fnil ?_
  refine fnq_flat (results_one (by rw [rdRes_tmp];simp only [go_sem,hl1];first | done | rfl)) (by first | exact Nat.le_refl _ | omega | (simp only [lo_push,lo_setVar];omega)) (by rfl)
theorem c133 (F : PV) (l : List Int) (hF : SlOf 1 encI F l) (hN : l.length < 1000) (x : Int) (st : St) : Cl EE (.func 133 [] []) [F,iv x] st (.ret (.bool (hasI l x))) st := by
 refine cl_fn (pr133 · _ _) fn133 2 rfl (by decide) (fun tm hl hg => ?_);have h0 : tg tm 0 = F := (hg 0 (by decide));have h1 : tg tm 1 = iv x := (hg 1 (by decide));clear hg
 rw [hasI,← idxI_ge]
 refine go (bw3 hl h0 h1) (bw (c148 F l hF hN x) fnil) ?_
 refine fnq_flat (results_one (by rw [rdRes_tmp];simp only [go_sem,hl];first | done | rfl)) (by first | exact Nat.le_refl _ | omega | (simp only [lo_push,lo_setVar];omega)) (by rfl)
theorem lowestL_take {p fs : List Int} {i : Nat} (h : i < fs.length) : lowestL p (fs.take (i + 1)) = max (lowestL p (fs.take i)) (p.getD fs[i].toNat 0) := by
 rw [List.take_succ_eq_append_getElem h,lowestL,List.foldl_append];rfl
def OkF (n : Nat) (fs : List Int) : Prop := ∀ x ∈ fs,0 ≤ x ∧ x < n
set_option maxHeartbeats 4000000 in
theorem c91 (c : CL) (F P G : PV) (p fs : List Int) (hF : F.cells = [F]) (hP : SlOf 1 encI P p) (hG : SlOf 1 encI G fs) (hp : p.length < 1000) (hg : fs.length < 1000) (hfs : OkF p.length fs) (st : St) : ClR EE (.func 91 [] []) [paPV c F P,G] st (RetS st 1 (outL p fs).length ((outL p fs).flatMap encI)) := by
 have hPc := hP.cells
 have hPs := hP.slen
 have hGs := hG.slen
 refine clr_fn (pr91 · _ _) fn91 2 rfl (by decide) (fun tm hl hg => ?_);have h0 : tg tm 0 = paPV c F P := (hg 0 (by decide));have h1 : tg tm 1 = G := (hg 1 (by decide));clear hg
 refine go (bw4 hl h0 h1 hGs) fnil ?_
 refine wp_range fs.length [5] (fun i vs st' => vs = [iv (lowestL p (fs.take i))] ∧ st' = (({ heap := st.heap,lo := st.heap.length } : St).push (.var [iv c.room,iv c.depth,F,P]))) (by omega) (by simp only [go_sem,hl]) (by simp only [go_sem,hl]) (by simp only [go_sem,hl]) (by decide) ⟨by simp only [go_sem,hl];rfl,by simp only [go_sem]⟩ ?_ ?_
 ·rintro i hi tm1 st1 ⟨hv,rfl⟩ hS hia
  simp only [List.map_cons,List.map_nil,List.cons.injEq,and_true] at hv
  have hl1 : tm1.length = 48 := (by rw [hS.1];simp only [put_len,hl]);have i2 : tg tm1 2 = .ptr st.heap.length 0 := (by rw [hS.2 2 (by decide)];simp only [go_sem,hl,h1]);have i11 : tg tm1 11 = G := (by rw [hS.2 11 (by decide)];simp only [go_sem,hl,h1]);clear hS
  have hr := hfs _ (List.getElem_mem hi)
  refine go (bw6 hl1 i2 i11 hia hv @mm2) fnil ?_
  refine ⟨?_,rfl⟩
  simp only [go_sem,hl1]
  rw [lowestL_take hi,List.getD_eq_getElem?_getD,List.getElem?_eq_getElem (by omega)]
  rfl
 ·rintro tm1 st1 ⟨hv,rfl⟩ hS
  simp only [List.map_cons,List.map_nil,List.cons.injEq,and_true,List.take_length] at hv
  have hl1 : tm1.length = 48 := (by rw [hS.1];simp only [put_len,hl]);have i1 : tg tm1 1 = G := (by rw [hS.2 1 (by decide)];simp only [go_sem,hl,h1]);have i2 : tg tm1 2 = .ptr st.heap.length 0 := (by rw [hS.2 2 (by decide)];simp only [go_sem,hl,h1]);clear hS
  refine go (bw3 hl1 i2 hPs) fnil ?_
  refine wp_range p.length [8] (fun i vs st' => ∃ v,vs = [v] ∧ OwnS st.heap.length st' 1 v (castL ((List.range i).filter (outP p fs))).length ((castL ((List.range i).filter (outP p fs))).flatMap encI) ∧ st.heap.length ≤ st'.lo ∧ st.heap.length ≤ st'.heap.length) (by omega) (by simp only [go_sem,hl1]) (by simp only [go_sem,hl1]) (by simp only [go_sem,hl1]) (by decide) ⟨_,by simp only [go_sem,hl1],.nil,by simp [lo_push],by simp [len_push]⟩ ?_ ?_
  ·rintro i hi tm2 st2 ⟨v,hv2,hO,hlo,hwf⟩ hS hia
   simp only [List.map_cons,List.map_nil,List.cons.injEq,and_true] at hv2
   have hl2 : tm2.length = 48 := (by rw [hS.1];simp only [put_len,hl1]);have j1 : tg tm2 1 = G := (by rw [hS.2 1 (by decide)];simp only [go_sem,hl1,i1,hv]);have j5 : tg tm2 5 = iv (lowestL p fs) := (by rw [hS.2 5 (by decide)];simp only [go_sem,hl1,i1,hv]);have j26 : tg tm2 26 = P := (by rw [hS.2 26 (by decide)];simp only [go_sem,hl1,i1,hv]);clear hS
   rw [castL_succ]
   have hget : p.getD i 0 = p[i] := by rw [List.getD_eq_getElem?_getD,List.getElem?_eq_getElem hi];rfl
   have hll := castL_len (outP p fs) i
   cases hx : decide (p[i] < lowestL p fs)
   ·have ho : outP p fs i = false := by simp only [outP,hget,hx,Bool.false_and]
    refine go (bw7 hl2 j1 j5 j26 hia hv2 hx) fnil ?_
    exact ⟨v,by simp only [go_sem,hl2,hv2],by simpa [ho] using hO,hlo,hwf⟩
   ·cases hy : hasI fs (i : Int)
    ·have ho : outP p fs i = true := by simp only [outP,hget,hx,hy,Bool.not_false,Bool.and_self]
     refine go (bw8 hl2 j1 j5 j26 hia hv2 hx hy) (bw (c133 G fs hG hg) fnil) ?_
     refine wops_append rfl rfl (by simp only [go_sem,hl2,hv2];first | done | rfl) (by simp only [go_sem,hl2,hv2];first | done | rfl) (hO.push) rfl (by first | omega | (simp only [len_push,len_setVar];omega)) (by rfl) (by rfl) (by simp only [maxList];omega) ?_
     intro v' st3 hO' hFr hk
     refine go hl2 fnil ?_
     refine ⟨v',by simp only [go_sem,hl2],by simpa [ho,share_int] using hO',?_,?_⟩
     ·have := hFr.lo
      simp only [lo_push] at this
      omega
     ·have := hFr.len
      simp only [len_push] at this
      omega
    ·have ho : outP p fs i = false := by simp only [outP,hget,hx,hy,Bool.not_true,Bool.and_false]
     refine go (bw8 hl2 j1 j5 j26 hia hv2 hx hy) (bw (c133 G fs hG hg) fnil) ?_
     exact ⟨v,by simp only [go_sem,hl2,hv2],by simpa [ho] using hO,hlo,hwf⟩
  ·rintro tm2 st2 ⟨v,hv2,hO,hlo,hwf⟩ hS
   simp only [List.map_cons,List.map_nil,List.cons.injEq,and_true] at hv2
   have hl2 : tm2.length = 48 := (by rw [hS.1];simp only [put_len,hl1]);clear hS
   refine go (bw hl2 hv2) fnil ?_
   exact fnr_ret (results_one (v := v) (by rw [rdRes_tmp];simp only [go_sem,hl2])) (hO.finish hlo (fun m c hc => encI_low _ m c hc))
end Go.Den.Ch
end
section
namespace Go.Den.Ch
attribute [go_sem] undef
theorem mem_castL {l : List Nat} {x : Int} (h : x ∈ castL l) : ∃ k : Nat,k ∈ l ∧ x = k := by
 simp only [castL,List.mem_map] at h
 obtain ⟨k,hk,rfl⟩ := h
 exact ⟨k,hk,rfl⟩
theorem wantL_ok (c : CL) (e : Int) : OkF c.figs.length (wantL c e) := by
 intro x hx
 obtain ⟨k,hk,rfl⟩ := mem_castL hx
 simp only [List.mem_filter,List.mem_range] at hk
 omega
theorem troubleT_succ (c : CL) (p : List Int) (n : Nat) : troubleT c p (n + 1) = troubleT c p n + (outL p (wantL c n)).length := by
 rw [troubleT,List.range_succ,List.map_append,List.sum_append_int];simp [troubleT]
theorem troubleT_bound (c : CL) (p : List Int) (n : Nat) : 0 ≤ troubleT c p n ∧ troubleT c p n ≤ n * p.length := by
 induction n with
 | zero => simp [troubleT]
 | succ n ih =>
  rw [troubleT_succ]
  have : (outL p (wantL c n)).length ≤ p.length := castL_len _ _
  have e : ((n + 1 : Nat) : Int) * p.length = n * p.length + p.length := by rw [Int.natCast_add,Int.add_mul];simp
  omega
set_option maxHeartbeats 4000000 in
theorem c93 (c : CL) (F P : PV) (p : List Int) (hF : SlOf 3 encF F c.figs) (hP : SlOf 1 encI P p) (hN : c.figs.length ≤ 6) (hpl : p.length = c.figs.length) (st : St) : Cl EE (.func 93 [] []) [paPV c F P] st (.ret (iv (troubleL c p))) st := by
 have hFs := hF.slen
 have hFc := hF.cells
 have hPc := hP.cells
 refine cl_fn (pr93 · _ _) fn93 1 rfl (by decide) (fun tm hl hg => ?_);have h0 : tg tm 0 = paPV c F P := (hg 0 (by decide));clear hg
 refine go (bw hl h0) fnil ?_
 refine wp_range 6 [3] (fun i vs st' => vs = [iv (troubleT c p i)] ∧ st.heap.length ≤ st'.lo ∧ st'.lo ≤ st'.heap.length ∧ hp st' st.heap.length = some (.var [iv c.room,iv c.depth,F,P])) (by omega) (by simp only [go_sem,hl]) (by rfl) (by simp only [go_sem,hl]) (by decide) ⟨by simp only [go_sem,hl];rfl,by simp [lo_push],by simp only [lo_push,len_push];omega,by simp only [go_sem]⟩ ?_ ?_
 ·rintro i hi tm1 st1 ⟨hv,hlo,hwf,hb⟩ hS hia
  simp only [List.map_cons,List.map_nil,List.cons.injEq,and_true] at hv
  have hl1 : tm1.length = 37 := (by rw [hS.1];simp only [put_len,hl]);have i1 : tg tm1 1 = .ptr st.heap.length 0 := (by rw [hS.2 1 (by decide)];simp only [go_sem,hl,h0]);clear hS
  have lb := hp_lt hb
  refine go (bw9 hl1 i1 hia hb hFs (neL lb) (neA lb) (ltL lb) (ltA lb)) fnil ?_
  refine wp_range c.figs.length [5] (fun k vs st' => ∃ v,vs = [v] ∧ OwnS st.heap.length st' 1 v (castL ((List.range k).filter (wantP c i))).length ((castL ((List.range k).filter (wantP c i))).flatMap encI) ∧ st.heap.length ≤ st'.lo ∧ st'.lo ≤ st'.heap.length ∧ hp st' st.heap.length = some (.var [iv c.room,iv c.depth,F,P])) (by omega) (by simp only [go_sem,hl1]) (by simp only [go_sem,hl1]) (by simp only [go_sem,hl1]) (by decide) ⟨_,by simp only [go_sem,hl1],.nil,hlo,hwf,hb⟩ ?_ ?_
  ·clear hb hlo hwf
   rintro k hk tm2 st2 ⟨v,hv2,hO,hlo,hwf,hb⟩ hS hka
   simp only [List.map_cons,List.map_nil,List.cons.injEq,and_true] at hv2
   have hl2 : tm2.length = 37 := (by rw [hS.1];simp only [put_len,hl1]);have j4 : tg tm2 4 = iv i := (by rw [hS.2 4 (by decide)];simp only [go_sem,hl1,i1,hia]);have j13 : tg tm2 13 = F := (by rw [hS.2 13 (by decide)];simp only [go_sem,hl1,i1,hia]);clear hS
   have lb := hp_lt hb
   rw [castL_succ]
   have hll := castL_len (wantP c i) k
   have hget : wantP c i k = (c.figs[k].eve == (i : Int)) := by simp only [wantP,List.getElem?_eq_getElem hk]
   cases hx : (c.figs[k].eve == (i : Int))
   ·rw [hx] at hget
    refine go (bw11 hl2 j4 j13 hka hv2 hx hb (neL lb) (neA lb) (ltL lb) (ltA lb)) fnil ?_
    refine ⟨v,by simp only [go_sem,hl2,hv2],?_,by simp only [lo_push,lo_setVar];omega,by simp only [lo_push,lo_setVar,len_push,len_setVar];omega,by simp only [go_sem,hb,neL lb,neA lb,ltL lb,ltA lb]⟩
    simpa [hget] using hO.push.setVar (by simp [hp_push])
   ·rw [hx] at hget
    refine go (bw11 hl2 j4 j13 hka hv2 hx hb (neL lb) (neA lb) (ltL lb) (ltA lb)) fnil ?_
    refine wops_append rfl rfl (by simp only [go_sem,hl2,hv2];first | done | rfl) (by simp only [go_sem,hl2,hv2];first | done | rfl) ((hO.push.setVar (by simp [hp_push])).push) rfl (by first | omega | (simp only [len_push,len_setVar];omega)) (by rfl) (by rfl) (by simp only [maxList];omega) ?_
    intro v' st3 hO' hFr hk3
    have f1 := hFr.lo
    have f2 := hFr.up
    have f3 := hFr.len
    simp only [lo_push,lo_setVar,len_push,len_setVar] at f1 f2 f3
    refine go hl2 fnil ?_
    refine ⟨v',by simp only [go_sem,hl2],by simpa [hget,share_int] using hO',by omega,by omega,hk3 _ _ (by simp only [go_sem,hb,neL lb,neA lb,ltL lb,ltA lb]) (by simp)⟩
  ·clear hb hlo hwf
   rintro tm2 st2 ⟨v,hv2,hO,hlo,hwf,hb⟩ hS
   simp only [List.map_cons,List.map_nil,List.cons.injEq,and_true] at hv2
   have hl2 : tm2.length = 37 := (by rw [hS.1];simp only [put_len,hl1]);have j1 : tg tm2 1 = .ptr st.heap.length 0 := (by rw [hS.2 1 (by decide)];simp only [go_sem,hl1,i1,hv]);have j3 : tg tm2 3 = iv (troubleT c p i) := (by rw [hS.2 3 (by decide)];simp only [go_sem,hl1,i1,hv]);clear hS
   have hw := troubleT_bound c p (i + 1)
   have hsl : SlOf 1 encI v (wantL c i) := SlOf.of_sl hO.sl rfl rfl (fun _ => rfl)
   have hwl := castL_len (wantP c i) c.figs.length
   refine go (bw5 hl2 j1 j3 hv2 hb) fnil ?_
   refine wops_callR rfl rfl (by simp only [go_sem,hl2,hv2];first | done | rfl) (by simp only [go_sem,hl2,hv2];exact c91 c F P v p (wantL c i) hFc hP hsl (by omega) (by have : (wantL c i).length ≤ c.figs.length := hwl;omega) (by rw [hpl];exact wantL_ok c i) _) ?_
   intro u st3 hR
   have hwr : IntKind.wrap .i64 (troubleT c p i + ((outL p (wantL c i)).length : Int)) = troubleT c p (i + 1) := by
    rw [← troubleT_succ]
    refine wrap_in ?_
    have e1 : ((i + 1 : Nat) : Int) * p.length ≤ 36 := by
     have : ((i + 1) * p.length : Nat) ≤ 6 * 6 := Nat.mul_le_mul (by omega) (by omega)
     have e2 : (((i + 1) * p.length : Nat) : Int) = ((i + 1 : Nat) : Int) * p.length := Int.natCast_mul _ _
     omega
    unfold inI;omega
   have hus := (slI hR).slen
   have r1 := hR.lo
   have r2 := hR.len
   refine go (bw4 hl2 j3 hus hwr) fnil ?_
   exact ⟨by simp only [go_sem,hl2],by omega,by omega,hR.hp hb⟩
 ·rintro tm1 st1 ⟨hv,hlo,hwf,hb⟩ hS
  simp only [List.map_cons,List.map_nil,List.cons.injEq,and_true] at hv
  have hl1 : tm1.length = 37 := (by rw [hS.1];simp only [put_len,hl]);clear hS
  refine go (bw hl1 hv) fnil ?_
  exact fnq_flat (results_one (by rw [rdRes_tmp];simp only [go_sem,hl1];rfl)) hlo (by rfl)
def ltTr (c : CL) (a b : List Int) : Bool := decide (troubleL c a < troubleL c b)
theorem c92 (c : CL) (F P P2 : PV) (p p2 : List Int) (hc : OkL c) (hF : SlOf 3 encF F c.figs) (hp : OkP c p) (hp2 : OkP c p2) (hP : SlOf 1 encI P p) (hP2 : SlOf 1 encI P2 p2) (st : St) : Cl EE (.func 92 [] []) [paPV c F P,paPV c F P2] st (.ret (.bool (ltTr c p p2))) st := by
 have hFc := hF.cells
 have hPc := hP.cells
 have hPc2 := hP2.cells
 refine cl_fn (pr92 · _ _) fn92 2 rfl (by decide) (fun tm hl hg => ?_);have h0 : tg tm 0 = paPV c F P := (hg 0 (by decide));have h1 : tg tm 1 = paPV c F P2 := (hg 1 (by decide));clear hg
 refine go (bw3 hl h0 h1) (bw3 (c93 c F P p hF hP hc.len hp.len) (c93 c F P2 p2 hF hP2 hc.len hp2.len) fnil) ?_
 unfold ltTr
 refine fnq_flat (results_one (by rw [rdRes_tmp];simp only [go_sem,hl];first | done | rfl)) (by first | exact Nat.le_refl _ | omega | (simp only [lo_push,lo_setVar];omega)) (by rfl)
def easeR (c : CL) : List Int × Int × Int := if listB c then (match bestF (ltTr c) (rightsL c) with | some p => (p,troubleL c p,0) | none => ([],0,5)) else ([],0,2)
set_option maxHeartbeats 4000000 in
theorem c49 (c : CL) (F : PV) (hF : SlOf 3 encF F c.figs) (st : St) : ClR EE (.func 49 [] []) [clPV c F] st (fun v st' => ∃ P,v = .tuple [P,iv (easeR c).2.1,iv (easeR c).2.2] ∧ RetW st (easeR c).1.length ((easeR c).1.flatMap encI) P st') := by
 have hFc := hF.cells
 have hFi := hF.isCell
 refine clr_fn (pr49 · _ _) fn49 1 rfl (by decide) (fun tm hl hg => ?_);have h0 : tg tm 0 = clPV c F := (hg 0 (by decide));clear hg
 cases hA : listB c
 ·have e : easeR c = ([],0,2) := by simp [easeR,hA]
  rw [e]
  refine go (bw3 hl h0 hA) (bw (c77 c F hF) fnil) ?_
  refine fnr_ret (v := .tuple [.nilslice,iv 0,iv 2]) (by simp only [results,rdResL,rdRes_tmp];simp only [go_sem,hl]) ?_
  exact finish_slT rfl (by rfl) (by simp only [lo_push];omega) (fun m => rfl)
 ·have hc := OkL.of hA
  refine go (bw3 hl h0 hA) (bw3 (c77 c F hF) (c82 c F) fnil) ?_
  have hb1 : hp ((({ heap := st.heap,lo := st.heap.length } : St).push (.var [iv c.room,iv c.depth,F])).push (.var [iv c.room,iv c.depth,F])) (st.heap.length + 1) = some (.var [iv c.room,iv c.depth,F]) := by simp only [go_sem]
  refine wops_callR rfl rfl (by simp only [go_sem,hl];first | done | rfl) (by simp only [go_sem,hl];exact c81 c F hFc hFi 129 [] [.ptr (st.heap.length + 1) 0] (.func 92 [] []) rfl (rightsL c) (ltTr c) (fun l => l = st.heap.length + 1) _ (fun l h => by subst h;simp only [len_push];omega) (fun st' hx => iter129 hF hc (hx.hp hb1)) (fun st' _ x hx o ho vx vo ⟨P,e1,hP⟩ ⟨P2,e2,hP2⟩ => by subst e1;subst e2;exact c92 c F P P2 x o hc hF (rightsL_mem hx).1 (rightsL_mem ho).1 hP hP2 st')) ?_
  rintro v st1 ⟨cs,rfl,hO,hk,hlo⟩
  simp only [lo_push] at hlo
  have hk1 := hk.1
  simp only [len_push] at hk1
  have hwf1 : st1.lo ≤ st1.heap.length := by omega
  cases hb : bestF (ltTr c) (rightsL c) with
  | none =>
   have e : easeR c = ([],0,5) := by simp [easeR,hA,hb]
   rw [e]
   rw [hb] at hO
   simp only [OutP] at hO
   subst hO
   refine go (bw4 hl @isS @isN hb) fnil ?_
   refine fnr_ret (v := .tuple [.nilslice,iv 0,iv 5]) (by simp only [results,rdResL,rdRes_tmp];simp only [go_sem,hl]) ?_
   exact finish_slT rfl (by rfl) (by simp only [lo_push,lo_setVar];omega) (fun m => rfl)
  | some p =>
   have e : easeR c = (p,troubleL c p,0) := by simp [easeR,hA,hb]
   rw [e]
   rw [hb] at hO
   obtain ⟨P,rfl,hP⟩ := hO
   have hPc := hP.cells
   have hPi := hP.isCell
   have hlen := hc.len
   have hp := (rightsL_mem (bestF_mem (ltTr c) (rightsL c) (Nat.le_refl _) (by rw [List.take_length];exact hb))).1
   have hpl := hp.len
   refine go (bw6 hl @isS @isN hb hFi hPi) (bw (c93 c F P p hF hP hlen hpl) fnil) ?_
   refine fnr_ret (v := .tuple [P,iv (troubleL c p),iv 0]) (by simp only [results,rdResL,rdRes_tmp];simp only [go_sem,hl]) ?_
   exact finish_slT hP.sl (by rfl) (by simp only [lo_push,lo_setVar];omega) (fun m => ints_low p m)
def movP (p q : List Int) (i : Nat) : Bool := p.getD i 0 != q.getD i 0
def movedL (p q : List Int) : Int := (((List.range q.length).filter (movP p q)).length : Int)
set_option maxHeartbeats 1000000 in
theorem c98 (c : CL) (F P G : PV) (p q : List Int) (hF : F.cells = [F]) (hP : SlOf 1 encI P p) (hG : SlOf 1 encI G q) (hN : q.length < 1000) (hpq : q.length ≤ p.length) (st : St) : Cl EE (.func 98 [] []) [paPV c F P,G] st (.ret (iv (movedL p q))) st := by
 have hPc := hP.cells
 have hGs := hG.slen
 refine cl_fn (pr98 · _ _) fn98 2 rfl (by decide) (fun tm hl hg => ?_);have h0 : tg tm 0 = paPV c F P := (hg 0 (by decide));have h1 : tg tm 1 = G := (hg 1 (by decide));clear hg
 refine go (bw4 hl h0 h1 hGs) fnil ?_
 refine wp_range q.length [5] (fun i vs st' => vs = [iv (((List.range i).filter (movP p q)).length : Int)] ∧ st' = (({ heap := st.heap,lo := st.heap.length } : St).push (.var [iv c.room,iv c.depth,F,P]))) (by omega) (by simp only [go_sem,hl]) (by simp only [go_sem,hl]) (by simp only [go_sem,hl]) (by decide) ⟨by simp only [go_sem,hl];rfl,by simp only [go_sem]⟩ ?_ ?_
 ·rintro i hi tm1 st1 ⟨hv,rfl⟩ hS hia
  simp only [List.map_cons,List.map_nil,List.cons.injEq,and_true] at hv
  have hl1 : tm1.length = 26 := (by rw [hS.1];simp only [put_len,hl]);have i2 : tg tm1 2 = .ptr st.heap.length 0 := (by rw [hS.2 2 (by decide)];simp only [go_sem,hl,h0]);have i8 : tg tm1 8 = G := (by rw [hS.2 8 (by decide)];simp only [go_sem,hl,h0]);clear hS
  have hget : movP p q i = (p[i] != q[i]) := by simp only [movP,List.getD_eq_getElem?_getD,List.getElem?_eq_getElem hi,List.getElem?_eq_getElem (Nat.lt_of_lt_of_le hi hpq),Option.getD_some]
  have hle : ((List.range i).filter (movP p q)).length ≤ i := by have := List.length_filter_le (movP p q) (List.range i);simpa using this
  cases hx : (p[i] != q[i])
  ·rw [hx] at hget
   refine go (bw6 hl1 i2 i8 hia hv hx) fnil ?_
   refine ⟨?_,rfl⟩
   simp only [go_sem,hl1,hv]
   simp [List.filter_append,List.range_succ,hget]
  ·rw [hx] at hget
   have hw : IntKind.wrap .i64 ((((List.range i).filter (movP p q)).length : Int) + 1) = (((List.range i).filter (movP p q)).length : Int) + 1 := wrap_in (by unfold inI;omega)
   refine go (bw7 hl1 i2 i8 hia hv hx hw) fnil ?_
   refine ⟨?_,rfl⟩
   simp only [go_sem,hl1]
   simp [List.filter_append,List.range_succ,hget]
 ·rintro tm1 st1 ⟨hv,rfl⟩ hS
  simp only [List.map_cons,List.map_nil,List.cons.injEq,and_true] at hv
  have hl1 : tm1.length = 26 := (by rw [hS.1];simp only [put_len,hl]);clear hS
  refine go (bw hl1 hv) fnil ?_
  exact fnq_flat (results_one (by rw [rdRes_tmp];simp only [go_sem,hl1];rfl)) (by simp only [lo_push];omega) (by rfl)
def riseP (n : Nat) (l : List Int) (i : Nat) : Bool := inB (l.getD i 0) 0 ((n : Int) - 1) && !(decide (0 < i) && decide (l.getD i 0 ≤ l.getD (i - 1) 0))
def risingB (n : Nat) (l : List Int) : Bool := (List.range l.length).all (riseP n l)
set_option maxHeartbeats 1000000 in
theorem c89 (c : CL) (F G : PV) (l : List Int) (hF : SlOf 3 encF F c.figs) (hG : SlOf 1 encI G l) (hN : l.length < 1000) (hn : c.figs.length < 1000) (st : St) : Cl EE (.func 89 [] []) [clPV c F,G] st (.ret (.bool (risingB c.figs.length l))) st := by
 have hGs := hG.slen
 have hFs := hF.slen
 have hFc := hF.cells
 refine cl_fn (pr89 · _ _) fn89 2 rfl (by decide) (fun tm hl hg => ?_);have h0 : tg tm 0 = clPV c F := (hg 0 (by decide));have h1 : tg tm 1 = G := (hg 1 (by decide));clear hg
 refine go (bw4 hl h0 h1 hGs) fnil ?_
 have hwn : IntKind.wrap .i64 ((c.figs.length : Int) - 1) = (c.figs.length : Int) - 1 := wrap_in (by unfold inI;omega)
 refine wp_range l.length [] (fun i vs st' => (∀ k,k < i → riseP c.figs.length l k = true) ∧ st' = (({ heap := st.heap,lo := st.heap.length } : St).push (.var [iv c.room,iv c.depth,F]))) (by omega) (by simp only [go_sem,hl]) (by simp only [go_sem,hl]) (by simp only [go_sem,hl]) (by decide) ⟨fun k hk => absurd hk (by omega),by simp only [go_sem]⟩ ?_ ?_
 ·rintro i hi tm1 st1 ⟨hno,rfl⟩ hS hia
  have hl1 : tm1.length = 35 := (by rw [hS.1];simp only [put_len,hl]);have i1 : tg tm1 1 = G := (by rw [hS.2 1 (by decide)];simp only [go_sem,hl,h1]);have i2 : tg tm1 2 = .ptr st.heap.length 0 := (by rw [hS.2 2 (by decide)];simp only [go_sem,hl,h1]);have i7 : tg tm1 7 = G := (by rw [hS.2 7 (by decide)];simp only [go_sem,hl,h1]);clear hS
  have hgi : l.getD i 0 = l[i] := by rw [List.getD_eq_getElem?_getD,List.getElem?_eq_getElem hi];rfl
  have bad : riseP c.figs.length l i = false → risingB c.figs.length l = false := fun h => by
   rw [risingB,List.all_eq_false]
   exact ⟨i,by simpa using hi,by simp [h]⟩
  have good : riseP c.figs.length l i = true → ∀ k,k < i + 1 → riseP c.figs.length l k = true := fun h k hk => by
   by_cases hki : k = i
   ·subst hki;exact h
   ·exact hno k (by omega)
  cases hA : inB l[i] 0 ((c.figs.length : Int) - 1)
  ·rw [bad (by simp only [riseP,hgi,hA,Bool.false_and])]
   refine go (bw8 hl1 i1 i2 i7 hia hFs hwn hA) (bw c122 fnil) ?_
   refine fnq_flat (results_one (by rw [rdRes_tmp];simp only [go_sem,hl1];first | done | rfl)) (by first | exact Nat.le_refl _ | omega | (simp only [lo_push,lo_setVar];omega)) (by rfl)
  ·by_cases h0i : 0 < i
   ·have hd : decide ((i : Int) > 0) = true := by simp;omega
    have hw1 : IntKind.wrap .i64 ((i : Int) - 1) = ((i - 1 : Nat) : Int) := by rw [wrap_in (by unfold inI;omega)];omega
    have hgj : l.getD (i - 1) 0 = l[i - 1] := by rw [List.getD_eq_getElem?_getD,List.getElem?_eq_getElem (by omega)];rfl
    cases hB : decide (l[i] ≤ l[i - 1])
    ·refine go (bw11 hl1 i1 i2 i7 hia hFs hwn hA hd hw1 hB) (bw c122 fnil) ?_
     exact ⟨good (by simp only [riseP,hgi,hgj,hA,hB];simp),rfl⟩
    ·rw [bad (by simp only [riseP,hgi,hgj,hA,hB];simp [h0i])]
     refine go (bw11 hl1 i1 i2 i7 hia hFs hwn hA hd hw1 hB) (bw c122 fnil) ?_
     refine fnq_flat (results_one (by rw [rdRes_tmp];simp only [go_sem,hl1];first | done | rfl)) (by first | exact Nat.le_refl _ | omega | (simp only [lo_push,lo_setVar];omega)) (by rfl)
   ·have hd : decide ((i : Int) > 0) = false := by simp;omega
    refine go (bw9 hl1 i1 i2 i7 hia hFs hwn hA hd) (bw c122 fnil) ?_
    exact ⟨good (by simp only [riseP,hgi,hA];simp [h0i]),rfl⟩
 ·rintro tm1 st1 ⟨hno,rfl⟩ hS
  have hl1 : tm1.length = 35 := (by rw [hS.1];simp only [put_len,hl]);clear hS
  have : risingB c.figs.length l = true := by
   rw [risingB,List.all_eq_true]
   intro k hk
   exact hno k (by simpa using hk)
  rw [this]
  refine go hl1 fnil ?_
  refine fnq_flat (results_one (by rw [rdRes_tmp];simp only [go_sem,hl1];first | done | rfl)) (by first | exact Nat.le_refl _ | omega | (simp only [lo_push,lo_setVar];omega)) (by rfl)
end Go.Den.Ch
end
section
namespace Go.Den.Ch
theorem risingB_ok {n : Nat} {l : List Int} (h : risingB n l = true) : OkF n l := by
 intro x hx
 obtain ⟨i,hi,rfl⟩ := List.getElem_of_mem hx
 simp only [risingB,List.all_eq_true,List.mem_range] at h
 have h1 := h i hi
 have hgi : l.getD i 0 = l[i] := by rw [List.getD_eq_getElem?_getD,List.getElem?_eq_getElem hi];rfl
 simp only [riseP,hgi,inB,Bool.and_eq_true,decide_eq_true_eq] at h1
 omega
def outR (c : CL) (p fs : List Int) : List Int × Int := if listB c && (packB c p && risingB c.figs.length fs) then (if (fault c p).isNone then (outL p fs,0) else ([],7)) else ([],2)
set_option maxHeartbeats 4000000 in
theorem c44 (c : CL) (F P G : PV) (p fs : List Int) (hF : SlOf 3 encF F c.figs) (hP : SlOf 1 encI P p) (hG : SlOf 1 encI G fs) (hfs : fs.length < 1000) (st : St) : ClR EE (.func 44 [] []) [clPV c F,P,G] st (fun v st' => ∃ V,v = .tuple [V,iv (outR c p fs).2] ∧ RetW st (outR c p fs).1.length ((outR c p fs).1.flatMap encI) V st') := by
 have hFc := hF.cells
 have hFi := hF.isCell
 have hPc := hP.cells
 have hPi := hP.isCell
 refine clr_fn (pr44 · _ _) fn44 3 rfl (by decide) (fun tm hl hg => ?_);have h0 : tg tm 0 = clPV c F := (hg 0 (by decide));have h1 : tg tm 1 = P := (hg 1 (by decide));have h2 : tg tm 2 = G := (hg 2 (by decide));clear hg
 cases hA : listB c
 ·have e : outR c p fs = ([],2) := by simp [outR,hA]
  rw [e]
  refine go (bw5 hl h0 h1 h2 hA) (bw (c77 c F hF) fnil) ?_
  refine fnr_ret (v := .tuple [.nilslice,iv 2]) (by simp only [results,rdResL,rdRes_tmp];simp only [go_sem,hl]) ?_
  exact finish_slT rfl (by rfl) (by simp only [lo_push];omega) (fun m => rfl)
 ·have hc := OkL.of hA
  have hlen := hc.len
  cases hB : packB c p
  ·have e : outR c p fs = ([],2) := by simp [outR,hA,hB]
   rw [e]
   refine go (bw6 hl h0 h1 h2 hA hB) (bw3 (c77 c F hF) (c78 c F P p hF hP hA) fnil) ?_
   refine fnr_ret (v := .tuple [.nilslice,iv 2]) (by simp only [results,rdResL,rdRes_tmp];simp only [go_sem,hl]) ?_
   exact finish_slT rfl (by rfl) (by simp only [lo_push];omega) (fun m => rfl)
  ·have hp := OkP.of hB
   have hpl := hp.len
   cases hC : risingB c.figs.length fs
   ·have e : outR c p fs = ([],2) := by simp [outR,hC]
    rw [e]
    refine go (bw7 hl h0 h1 h2 hA hB hC) (bw4 (c77 c F hF) (c78 c F P p hF hP hA) (c89 c F G fs hF hG hfs (by omega)) fnil) ?_
    refine fnr_ret (v := .tuple [.nilslice,iv 2]) (by simp only [results,rdResL,rdRes_tmp];simp only [go_sem,hl]) ?_
    exact finish_slT rfl (by rfl) (by simp only [lo_push];omega) (fun m => rfl)
   ·cases hD : (fault c p).isNone
    ·have e : outR c p fs = ([],7) := by simp only [outR,hA,hB,hC,hD];rfl
     rw [e]
     refine go (bw11 hl h0 h1 h2 hA hB hC hD hFi hPi hPc) (bw5 (c77 c F hF) (c78 c F P p hF hP hA) (c89 c F G fs hF hG hfs (by omega)) (c90 c F P p hF hP hc hp) fnil) ?_
     refine fnr_ret (v := .tuple [.nilslice,iv 7]) (by simp only [results,rdResL,rdRes_tmp];simp only [go_sem,hl]) ?_
     exact finish_slT rfl (by rfl) (by simp only [lo_push,lo_setVar];omega) (fun m => rfl)
    ·have e : outR c p fs = (outL p fs,0) := by simp only [outR,hA,hB,hC,hD];rfl
     rw [e]
     refine go (bw11 hl h0 h1 h2 hA hB hC hD hFi hPi hPc) (bw5 (c77 c F hF) (c78 c F P p hF hP hA) (c89 c F G fs hF hG hfs (by omega)) (c90 c F P p hF hP hc hp) fnil) ?_
     refine wops_callR rfl rfl (by simp only [go_sem,hl,h2];first | done | rfl) (by simp only [go_sem,hl,h2];exact c91 c F P G p fs hFc hP hG (by omega) hfs (by rw [hpl];exact risingB_ok hC) _) ?_
     intro v st1 hR
     have r1 := hR.lo
     have r2 := hR.len
     simp only [lo_push,lo_setVar,len_push,len_setVar] at r1 r2
     refine go hl fnil ?_
     refine fnr_ret (v := .tuple [v,iv 0]) (by simp only [results,rdResL,rdRes_tmp];simp only [go_sem,hl]) ?_
     exact finish_slT hR.sl (by rfl) (by omega) (fun m => ints_low _ m)
def ltMv (q : List Int) (a b : List Int) : Bool := decide (movedL a q < movedL b q)
theorem c97 (c : CL) (F P P2 Q : PV) (p p2 q : List Int) (hF : F.cells = [F]) (hP : SlOf 1 encI P p) (hP2 : SlOf 1 encI P2 p2) (hQ : SlOf 1 encI Q q) (hq : q.length < 1000) (hpp : q.length ≤ p.length) (hpp2 : q.length ≤ p2.length) (st : St) (b : Nat) (hb : hp st b = some (.var [Q])) : Cl EE (.func 97 [] [.ptr b 0]) [paPV c F P,paPV c F P2] st (.ret (.bool (ltMv q p p2))) st := by
 have hPc := hP.cells
 have hPc2 := hP2.cells
 refine cl_fn (pr97 · _ _) fn97 3 rfl (by decide) (fun tm hl hg => ?_);have h0 : tg tm 0 = paPV c F P := (hg 0 (by decide));have h1 : tg tm 1 = paPV c F P2 := (hg 1 (by decide));have h2 : tg tm 2 = .ptr b 0 := (hg 2 (by decide));clear hg
 have hb' : hp { heap := st.heap,lo := st.heap.length } b = some (.var [Q]) := hb
 have lb := hp_lt hb
 refine go (bw9 hl h0 h1 h2 hb' (neL lb) (neA lb) (ltL lb) (ltA lb)) (bw3 (c98 c F P Q p q hF hP hQ hq hpp) (c98 c F P2 Q p2 q hF hP2 hQ hq hpp2) fnil) ?_
 unfold ltMv
 refine fnq_flat (results_one (by rw [rdRes_tmp];simp only [go_sem,hl];first | done | rfl)) (by first | exact Nat.le_refl _ | omega | (simp only [lo_push,lo_setVar];omega)) (by rfl)
theorem encF_cell : ∀ l : List Fig,(l.flatMap encF).all PV.isCell = true
 | [] => rfl
 | f :: l => by rw [List.flatMap_cons,List.all_append,encF_cell l];rfl
theorem encF_share : ∀ l : List Fig,(l.flatMap encF).map PV.share = l.flatMap encF
 | [] => rfl
 | f :: l => by rw [List.flatMap_cons,List.map_append,encF_share l];rfl
theorem encF_low (l : List Fig) (m : Nat) (c : PV) (hc : c ∈ l.flatMap encF) : PV.low m c = true := by
 simp only [List.mem_flatMap,List.mem_cons,List.not_mem_nil,or_false] at hc
 obtain ⟨a,_,rfl | rfl | rfl⟩ := hc <;> rfl
theorem c96 (F : PV) (l : List Fig) (hF : SlOf 3 encF F l) (hN : l.length < 1000) (st : St) : ClR EE (.func 96 [] []) [F] st (RetS st 3 l.length (l.flatMap encF)) := by
 have h := hF.sl
 refine clr_fn (pr96 · _ _) fn96 1 rfl (by decide) (fun tm hl hg => ?_);have h0 : tg tm 0 = F := (hg 0 (by decide));clear hg
 cases F with
 | nilslice =>
  simp only [PV.sl,Option.some.injEq,Prod.mk.injEq] at h
  have : l = [] := by simpa using h.1.symm
  subst this
  refine go (bw hl h0) fnil ?_
  exact fnr_ret (results_one (v := .nilslice) (by rw [rdRes_tmp];simp only [go_sem,hl])) (OwnS.nil.finish (by simp) (fun m c hc => by cases hc))
 | slice o n cs =>
  simp only [PV.sl,Option.some.injEq,Prod.mk.injEq] at h
  obtain ⟨rfl,rfl⟩ := h
  refine go (bw hl h0) fnil ?_
  have hO : OwnS st.heap.length ((⟨st.heap,st.heap.length⟩ : St).push (.tag true)) 3 (.slice (.tag st.heap.length 3) 0 []) 0 [] := ⟨by simp,.inr ⟨_,rfl,Nat.le_refl _,by rw [hp_push,if_pos rfl]⟩⟩
  refine wops_append rfl rfl (by simp only [go_sem,hl];first | done | rfl) (by simp only [go_sem,hl,h0];first | done | rfl) hO rfl (by simp only [len_push];omega) (by rw [flatMap_len (sz := 3) (fun _ _ => rfl)]) (encF_cell l) (by simp only [maxList];omega) ?_
  intro v' st2 hO' hFr hk
  refine go hl fnil ?_
  refine fnr_ret (results_one (v := v') (by rw [rdRes_tmp];simp only [go_sem,hl])) (OwnS.finish (n := l.length) (cs := l.flatMap encF) ?_ ?_ (fun m c hc => encF_low l m c hc))
  ·have : List.map PV.share (List.flatMap encF l) = List.flatMap encF l := encF_share l
   simpa [this] using hO'
  ·have := hFr.lo
   simp only [lo_push] at this
   omega
 | _ => simp [PV.sl] at h
end Go.Den.Ch
end
section
namespace Go.Den.Ch
def withL (c : CL) (f : Fig) : CL := { c with figs := c.figs ++ [f] }
def laterR (c : CL) (q : List Int) (f : Fig) : List Int × Int × Int :=
 if listB c && (packB c q && figB f) then (if 6 ≤ c.figs.length then ([],0,3) else if (fault c q).isNone then (match bestF (ltMv q) (rightsL (withL c f)) with | some p => (p,movedL p q,0) | none => ([],0,5)) else ([],0,7)) else ([],0,2)
set_option maxHeartbeats 8000000 in
theorem c53 (c : CL) (F Q : PV) (q : List Int) (f : Fig) (hF : SlOf 3 encF F c.figs) (hQ : SlOf 1 encI Q q) (st : St) : ClR EE (.func 53 [] []) [clPV c F,Q,figPV f] st (fun v st' => ∃ V,v = .tuple [V,iv (laterR c q f).2.1,iv (laterR c q f).2.2] ∧ RetW st (laterR c q f).1.length ((laterR c q f).1.flatMap encI) V st') := by
 have hFc := hF.cells
 have hFi := hF.isCell
 have hFs := hF.slen
 have hQc := hQ.cells
 have hQi := hQ.isCell
 refine clr_fn (pr53 · _ _) fn53 3 rfl (by decide) (fun tm hl hg => ?_);have h0 : tg tm 0 = clPV c F := (hg 0 (by decide));have h1 : tg tm 1 = Q := (hg 1 (by decide));have h2 : tg tm 2 = figPV f := (hg 2 (by decide));clear hg
 cases hA : listB c
 ·have e : laterR c q f = ([],0,2) := by simp [laterR,hA]
  rw [e]
  refine go (bw6 hl h0 h1 h2 hQc hA) (bw (c77 c F hF) fnil) ?_
  refine fnr_ret (v := .tuple [.nilslice,iv 0,iv 2]) (by simp only [results,rdResL,rdRes_tmp];simp only [go_sem,hl]) ?_
  exact finish_slT rfl (by rfl) (by simp only [lo_push];omega) (fun m => rfl)
 ·have hc := OkL.of hA
  have hlen := hc.len
  cases hB : packB c q
  ·have e : laterR c q f = ([],0,2) := by simp [laterR,hA,hB]
   rw [e]
   refine go (bw7 hl h0 h1 h2 hQc hA hB) (bw3 (c77 c F hF) (c78 c F Q q hF hQ hA) fnil) ?_
   refine fnr_ret (v := .tuple [.nilslice,iv 0,iv 2]) (by simp only [results,rdResL,rdRes_tmp];simp only [go_sem,hl]) ?_
   exact finish_slT rfl (by rfl) (by simp only [lo_push];omega) (fun m => rfl)
  ·have hq := OkP.of hB
   have hql := hq.len
   cases hC : figB f
   ·have e : laterR c q f = ([],0,2) := by simp [laterR,hC]
    rw [e]
    refine go (bw8 hl h0 h1 h2 hQc hA hB hC) (bw4 (c77 c F hF) (c78 c F Q q hF hQ hA) (c95 f) fnil) ?_
    refine fnr_ret (v := .tuple [.nilslice,iv 0,iv 2]) (by simp only [results,rdResL,rdRes_tmp];simp only [go_sem,hl]) ?_
    exact finish_slT rfl (by rfl) (by simp only [lo_push];omega) (fun m => rfl)
   ·by_cases h6 : 6 ≤ c.figs.length
    ·have hd6 : decide ((c.figs.length : Int) ≥ 6) = true := by simp;omega
     have e : laterR c q f = ([],0,3) := by simp [laterR,hA,hB,hC,h6]
     rw [e]
     refine go (bw10 hl h0 h1 h2 hQc hA hB hC hFs hd6) (bw4 (c77 c F hF) (c78 c F Q q hF hQ hA) (c95 f) fnil) ?_
     refine fnr_ret (v := .tuple [.nilslice,iv 0,iv 3]) (by simp only [results,rdResL,rdRes_tmp];simp only [go_sem,hl]) ?_
     exact finish_slT rfl (by rfl) (by simp only [lo_push];omega) (fun m => rfl)
    ·have hd6 : decide ((c.figs.length : Int) ≥ 6) = false := by simp;omega
     cases hD : (fault c q).isNone
     ·have e : laterR c q f = ([],0,7) := by simp [laterR,hA,hB,hC,h6,hD]
      rw [e]
      refine go (bw11 hl h0 h1 h2 hQc hA hB hC hFs hd6 hD) (bw5 (c77 c F hF) (c78 c F Q q hF hQ hA) (c95 f) (c90 c F Q q hF hQ hc hq) fnil) ?_
      refine fnr_ret (v := .tuple [.nilslice,iv 0,iv 7]) (by simp only [results,rdResL,rdRes_tmp];simp only [go_sem,hl]) ?_
      exact finish_slT rfl (by rfl) (by simp only [lo_push];omega) (fun m => rfl)
     ·refine go (bw11 hl h0 h1 h2 hQc hA hB hC hFs hd6 hD) (bw5 (c77 c F hF) (c78 c F Q q hF hQ hA) (c95 f) (c90 c F Q q hF hQ hc hq) fnil) ?_
      refine wopsD_callS (by first | omega | (simp only [lo_push,lo_setVar,len_push,len_setVar];omega)) rfl rfl (by simp only [go_sem,hl];first | done | rfl) (fun st1 he => by simp only [go_sem,hl];exact c96 F c.figs hF (by omega) _) ?_
      intro v1 st1 hR
      have r1 := hR.lo
      have r2 := hR.len
      have b0 : hp st1 st.heap.length = some (.var [iv c.room,iv c.depth,F]) := hR.hp (by simp only [go_sem])
      have b1 : hp st1 (st.heap.length + 1) = some (.var [Q]) := hR.hp (by simp only [go_sem])
      have b2 : hp st1 (st.heap.length + 2) = some (.var [iv f.size,iv f.rank,iv f.eve]) := hR.hp (by simp only [go_sem])
      simp only [lo_push,len_push] at r1 r2
      have m0 := hp_lt b0
      have m1 := hp_lt b1
      have m2 := hp_lt b2
      refine go (bw6 hl b2 (neL m2) (neA m2) (ltL m2) (ltA m2)) fnil ?_
      refine wopsD_append (m := st.heap.length) (by omega) rfl rfl (by simp only [go_sem,hl];first | done | rfl) (by simp only [go_sem,hl];first | done | rfl) (hR.own (by simp only [len_push];omega)) rfl (by omega) (by rfl) (by rfl) (by simp only [maxList];omega) ?_
      intro v' st2 ft hO hFr hk
      have s1 := hFr.lo
      have s2 := hFr.len
      have s3 := hFr.up
      have hF' : SlOf 3 encF v' (withL c f).figs := SlOf.of_sl hO.sl (by simp [withL]) (by simp [withL,share_int]) (fun _ => rfl)
      have hFc' := hF'.cells
      have hFi' := hF'.isCell
      have d0 := hk _ _ b0 (by simp)
      have d1 := hk _ _ b1 (by simp)
      have n0 := hp_lt d0
      have n1 := hp_lt d1
      refine go (bw13 hl d0 d1 (neL n0) (neA n0) (ltL n0) (ltA n0) (neL n1) (neA n1) (ltL n1) (ltA n1) hFc' hFi') fnil ?_
      refine wopsD_set (v := undef) (l := st.heap.length) (ob := .var [iv c.room,iv c.depth,v']) (by omega) (by omega) rfl rfl (fun rec st3 he hh => by simp only [go_sem,hl,hh,he,d0,neL n0,neA n0,ltL n0,ltA n0,hFc',hFi']) ?_
      apply wopsD_nil
      refine ⟨footOk_quiet (by rfl),?_⟩
      have hc' : OkL (withL c f) := ⟨by simp [withL];omega,fun g hg => by
       rcases List.mem_append.1 hg with h | h
       ·exact hc.figs g h
       ·simp only [List.mem_singleton] at h;subst h;exact hC,hc.d0,hc.d1⟩
      have hcl : ∀ st,Cl EE (.func 82 [] []) [.agg [iv c.room,iv c.depth,v']] st (.ret (.func 129 [] [.ptr st.heap.length 0])) (st.push (.var [iv c.room,iv c.depth,v'])) := fun st => c82 (withL c f) v' st
      refine go (bw9 hl (neL n0) (neA n0) (ltL n0) (ltA n0) (neL n1) (neA n1) (ltL n1) (ltA n1)) (bw hcl fnil) ?_
      have hb1 : hp ((setVar st2 st.heap.length (.var [iv c.room,iv c.depth,v'])).push (.var [iv c.room,iv c.depth,v'])) st2.heap.length = some (.var [iv c.room,iv c.depth,v']) := by simp only [go_sem]
      have hb2 : hp ((setVar st2 st.heap.length (.var [iv c.room,iv c.depth,v'])).push (.var [iv c.room,iv c.depth,v'])) (st.heap.length + 1) = some (.var [Q]) := by simp only [go_sem,d1,neL n1,neA n1,ltL n1,ltA n1]
      have hq5 : q.length < 1000 := by omega
      have hpl : ∀ p,p ∈ rightsL (withL c f) → q.length ≤ p.length := fun p hp => by
       have := (rightsL_mem hp).1.len
       simp [withL] at this
       omega
      refine wops_callR rfl rfl (by simp only [go_sem,hl];first | done | rfl) (by simp only [go_sem,hl];exact c81 (withL c f) v' hFc' hFi' 129 [] [.ptr st2.heap.length 0] (.func 97 [] [.ptr (st.heap.length + 1) 0]) rfl (rightsL (withL c f)) (ltMv q) (fun l => l = st2.heap.length) _ (fun l h => by subst h;simp only [len_push,len_setVar];omega) (fun st' hx => iter129 hF' hc' (hx.hp hb1)) (fun st' hka x hx o ho vx vo ⟨P,e1,hP⟩ ⟨P2,e2,hP2⟩ => by subst e1;subst e2;exact c97 (withL c f) v' P P2 Q x o q hFc' hP hP2 hQ hq5 (hpl x hx) (hpl o ho) st' _ (hka.hp hb2 (fun h => h)))) ?_
      rintro v st4 ⟨cs,rfl,hOut,hka,hlo⟩
      have k1 := hka.1
      simp only [lo_push,lo_setVar,len_push,len_setVar] at hlo k1
      have d4 : hp st4 (st.heap.length + 1) = some (.var [Q]) := hka.hp hb2 (fun h => h)
      have m4 := hp_lt d4
      cases hb : bestF (ltMv q) (rightsL (withL c f)) with
      | none =>
       have e : laterR c q f = ([],0,5) := by simp [laterR,hA,hB,hC,h6,hD,hb]
       rw [e]
       rw [hb] at hOut
       simp only [OutP] at hOut
       subst hOut
       refine go (bw4 hl @isS @isN hb) fnil ?_
       refine fnr_ret (v := .tuple [.nilslice,iv 0,iv 5]) (by simp only [results,rdResL,rdRes_tmp];simp only [go_sem,hl]) ?_
       exact finish_slT rfl (by rfl) (by simp only [lo_push,lo_setVar];omega) (fun m => rfl)
      | some p =>
       have e : laterR c q f = (p,movedL p q,0) := by simp [laterR,hA,hB,hC,h6,hD,hb]
       rw [e]
       rw [hb] at hOut
       obtain ⟨P,rfl,hP⟩ := hOut
       have hPc := hP.cells
       have hPi := hP.isCell
       have hpm := hpl p (bestF_mem (ltMv q) (rightsL (withL c f)) (Nat.le_refl _) (by rw [List.take_length];exact hb))
       have hmv : ∀ st,Cl EE (.func 98 [] []) [.agg [iv c.room,iv c.depth,v',P],Q] st (.ret (iv (movedL p q))) st := fun st => c98 (withL c f) v' P Q p q hFc' hP hQ hq5 hpm st
       have hcs : [PV.int .i64 (withL c f).room,.int .i64 (withL c f).depth,v',P] = [iv c.room,iv c.depth,v',P] := rfl
       rw [hcs]
       refine go (bw11 hl @isS @isN hb hFi' hPi d4 (neL m4) (neA m4) (ltL m4) (ltA m4)) (bw hmv fnil) ?_
       refine fnr_ret (v := .tuple [P,iv (movedL p q),iv 0]) (by simp only [results,rdResL,rdRes_tmp];simp only [go_sem,hl]) ?_
       exact finish_slT hP.sl (by rfl) (by simp only [lo_push,lo_setVar];omega) (fun m => ints_low p m)
end Go.Den.Ch
end

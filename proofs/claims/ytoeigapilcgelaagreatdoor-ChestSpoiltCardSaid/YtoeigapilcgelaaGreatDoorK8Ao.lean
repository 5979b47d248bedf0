/- Part of the proofs of laws of the package chest. Texts: ChN, ChO. -/
import Derived.Test.YtoeigapilcgelaaGreatDoorK8An
set_option linter.unusedSimpArgs false
set_option linter.unusedVariables false
section
namespace Go.Den.Ch
abbrev encP (c : CL) (F : PV) (x : PV × List Int) : List PV := [.int .i64 c.room,.int .i64 c.depth,F,x.1]
attribute [go_sem] encP
theorem c132 (c : CL) (F0 : PV) (F : PV) (l : List (PV × List Int)) (hF : SlOf 4 (encP c F0) F l) (hN : l.length < 1000000) (g : Nat) (ga gc : List PV) (p : PV × List Int → Bool) (st : St) (hg0 : ∀ st',st'.heap = st.heap → ∀ a ∈ l,Cl EE (.func g ga gc) [.agg (encP c F0 a)] st' (.ret (.bool (p a))) st') : Cl EE (.func 132 [] []) [F,.func g ga gc] st (.ret (iv (idxI p l))) st := by
 refine cl_fn (pr132 · _ _) fn132 2 rfl (by decide) (fun tm hl hg => ?_);have h0 : tg tm 0 = F := (hg 0 (by decide));have h1 : tg tm 1 = .func g ga gc := (hg 1 (by decide));clear hg
 have hs := hF.slen
 refine go (bw4 hl h0 h1 hs) fnil ?_
 refine wp_range l.length [] (fun i vs st' => st' = { heap := st.heap,lo := st.heap.length } ∧ ∀ k (hk : k < i) (hl : k < l.length),p l[k] = false) (by omega) (by simp only [go_sem,hl]) (by simp only [go_sem,hl]) (by simp only [go_sem,hl]) (by decide) ⟨rfl,fun k hk => absurd hk (by omega)⟩ ?_ ?_
 ·rintro i hi tm1 st1 ⟨rfl,hk⟩ hS hia
  have hl1 : tm1.length = 19 := by rw [hS.1];simp only [go_sem,hl]
  have i0 : tg tm1 0 = F := by rw [hS.2 0 (by decide)];simp only [go_sem,hl,h0]
  have i1 : tg tm1 1 = .func g ga gc := by rw [hS.2 1 (by decide)];simp only [go_sem,hl,h1]
  have hb := hg0 { heap := st.heap,lo := st.heap.length } rfl l[i] (List.getElem_mem hi)
  cases hp : p l[i]
  ·rw [hp] at hb
   refine go (bw4 hl1 i0 i1 hia) (bw hb fnil) ?_
   refine ⟨rfl,fun k hk1 hk2 => ?_⟩
   by_cases hki : k = i
   ·subst hki;exact hp
   ·exact hk k (by omega) hk2
  ·rw [hp] at hb
   rw [idxI_at hi (fun k hk1 => hk k hk1 (by omega)) hp]
   refine go (bw4 hl1 i0 i1 hia) (bw hb fnil) ?_
   refine fnq_flat (results_one (by rw [rdRes_tmp];simp only [go_sem,hl1];first | done | rfl)) (by first | exact Nat.le_refl _ | omega | (simp only [lo_push,lo_setVar];omega)) (by rfl)
 ·rintro tm1 st1 ⟨rfl,hk⟩ hS
  have hl1 : tm1.length = 19 := by rw [hS.1];simp only [go_sem,hl]
  rw [idxI_no (fun k hk1 => hk k hk1 hk1)]
  refine go hl1 fnil ?_
  refine fnq_flat (results_one (by rw [rdRes_tmp];simp only [go_sem,hl1];first | done | rfl)) (by first | exact Nat.le_refl _ | omega | (simp only [lo_push,lo_setVar];omega)) (by rfl)
theorem c86 (c : CL) (F0 : PV) (F : PV) (l : List (PV × List Int)) (hF : SlOf 4 (encP c F0) F l) (hN : l.length < 1000000) (g : Nat) (ga gc : List PV) (p : PV × List Int → Bool) (st : St) (hg0 : ∀ st',st'.heap = st.heap → ∀ a ∈ l,Cl EE (.func g ga gc) [.agg (encP c F0 a)] st' (.ret (.bool (p a))) st') : Cl EE (.func 86 [] []) [F,.func g ga gc] st (.ret (.bool (l.any p))) st := by
 refine cl_fn (pr86 · _ _) fn86 2 rfl (by decide) (fun tm hl hg => ?_);have h0 : tg tm 0 = F := (hg 0 (by decide));have h1 : tg tm 1 = .func g ga gc := (hg 1 (by decide));clear hg
 rw [← idxI_ge]
 refine go (bw3 hl h0 h1) (bw (c132 c F0 F l hF hN g ga gc p ⟨st.heap,st.heap.length⟩ hg0) fnil) ?_
 refine fnq_flat (results_one (by rw [rdRes_tmp];simp only [go_sem,hl];first | done | rfl)) (by first | exact Nat.le_refl _ | omega | (simp only [lo_push,lo_setVar];omega)) (by rfl)
def difG (a b : Nat) (p : List Int) : Bool := p.getD a 0 != p.getD b 0
def sameG (X : List (List Int)) (a b : Nat) : Bool := !X.any (difG a b)
def grpStep (X : List (List Int)) (s : List Int × Int) (a : Nat) : List Int × Int := match (List.range a).find? (sameG X a) with
 | some b => (s.1 ++ [s.1.getD b 0],s.2)
 | none => (s.1 ++ [s.2],s.2 + 1)
def grpT (X : List (List Int)) (n : Nat) : List Int × Int := (List.range n).foldl (grpStep X) ([],0)
def groupsL (X : List (List Int)) (n : Nat) : List Int := (grpT X n).1
theorem grpT_succ (X : List (List Int)) (n : Nat) : grpT X (n + 1) = grpStep X (grpT X n) n := by
 rw [grpT,List.range_succ,List.foldl_append];rfl
theorem grpT_len (X : List (List Int)) (n : Nat) : (grpT X n).1.length = n ∧ 0 ≤ (grpT X n).2 ∧ (grpT X n).2 ≤ n := by
 induction n with
 | zero => exact ⟨rfl,Int.le_refl _,Int.le_refl _⟩
 | succ n ih =>
  rw [grpT_succ]
  unfold grpStep
  split
  ·simp only [List.length_append,List.length_singleton];omega
  ·simp only [List.length_append,List.length_singleton];omega
theorem c87 (c : CL) (F0 : PV) (hF : F0.cells = [F0]) (x : PV × List Int) (hx : SlOf 1 encI x.1 x.2) (i j : Nat) (hi : i < x.2.length) (hj : j < x.2.length) (st : St) (a b : Nat) (ha : hp st a = some (.var [iv i])) (hb : hp st b = some (.var [iv j])) : Cl EE (.func 87 [] [.ptr a 0,.ptr b 0]) [.agg (encP c F0 x)] st (.ret (.bool (difG i j x.2))) st := by
 have hxc := hx.cells
 refine cl_fn (pr87 · _ _) fn87 3 rfl (by decide) (fun tm hl hg => ?_);have h0 : tg tm 0 = .agg (encP c F0 x) := (hg 0 (by decide));have h1 : tg tm 1 = .ptr a 0 := (hg 1 (by decide));have h2 : tg tm 2 = .ptr b 0 := (hg 2 (by decide));clear hg
 have ha' : hp { heap := st.heap,lo := st.heap.length } a = some (.var [iv i]) := ha
 have hb' : hp { heap := st.heap,lo := st.heap.length } b = some (.var [iv j]) := hb
 have la := hp_lt ha
 have lb := hp_lt hb
 have e : difG i j x.2 = (x.2[i] != x.2[j]) := by simp only [difG,List.getD_eq_getElem?_getD,List.getElem?_eq_getElem hi,List.getElem?_eq_getElem hj,Option.getD_some]
 rw [e]
 refine go (bw14 hl h0 h1 h2 ha' hb' (neL la) (neA la) (ltL la) (ltA la) (neL lb) (neA lb) (ltL lb) (ltA lb)) fnil ?_
 refine fnq_flat (results_one (by rw [rdRes_tmp];simp only [go_sem,hl];first | done | rfl)) (by first | exact Nat.le_refl _ | omega | (simp only [lo_push,lo_setVar];omega)) (by rfl)
theorem searchL_len {c : CL} {d : Nat} (hd : c.depth = d) (hd5 : d ≤ 5) : ∀ (k : Nat) (now : List Int),(searchL c k now).length ≤ 5 ^ k
 | 0,now => by simp only [searchL];split <;> simp
 | k + 1,now => by
  simp only [searchL,hd,Int.toNat_natCast]
  have h : ∀ (g : Nat → List (List Int)) (n : Nat),(∀ i,(g i).length ≤ 5 ^ k) → ((List.range n).flatMap g).length ≤ n * 5 ^ k := by
   intro g n hg
   induction n with
   | zero => simp
   | succ n ih =>
    rw [flatMap_range_succ]
    have := hg n
    rw [Nat.succ_mul]
    omega
  refine Nat.le_trans (h _ d (fun i => ?_)) ?_
  ·split
   ·simp
   ·exact searchL_len hd hd5 k _
  ·rw [Nat.pow_succ,Nat.mul_comm];exact Nat.mul_le_mul_left _ hd5
theorem rightsL_len {c : CL} (hc : OkL c) : (rightsL c).length ≤ 15625 := by
 obtain ⟨d,hd⟩ : ∃ d : Nat,c.depth = d := ⟨c.depth.toNat,by have := hc.d0;omega⟩
 have h := searchL_len hd (by have := hc.d1;omega) c.figs.length []
 have h2 : 5 ^ c.figs.length ≤ 5 ^ 6 := Nat.pow_le_pow_right (by omega) hc.len
 have : rightsL c = searchL c c.figs.length [] := rfl
 rw [this]
 have : (5 : Nat) ^ 6 = 15625 := by decide
 omega
def groupsR (c : CL) : List Int × Int := if listB c then (if rightsL c = [] then ([],7) else (groupsL (rightsL c) c.figs.length,0)) else ([],2)
set_option maxHeartbeats 8000000 in
theorem c40 (c : CL) (F : PV) (hF : SlOf 3 encF F c.figs) (st : St) : ClR EE (.func 40 [] []) [clPV c F] st (fun v st' => ∃ V,v = .tuple [V,iv (groupsR c).2] ∧ RetW st (groupsR c).1.length ((groupsR c).1.flatMap encI) V st') := by
 have hFc := hF.cells
 have hFi := hF.isCell
 have hFs := hF.slen
 refine clr_fn (pr40 · _ _) fn40 1 rfl (by decide) (fun tm hl hg => ?_);have h0 : tg tm 0 = clPV c F := (hg 0 (by decide));clear hg
 cases hA : listB c
 ·have e : groupsR c = ([],2) := by simp [groupsR,hA]
  rw [e]
  refine go (bw3 hl h0 hA) (bw (c77 c F hF) fnil) ?_
  refine fnr_ret (v := .tuple [.nilslice,iv 2]) (by simp only [results,rdResL,rdRes_tmp];simp only [go_sem,hl]) ?_
  exact finish_slT rfl (by rfl) (by simp only [lo_push];omega) (fun m => rfl)
 ·have hc := OkL.of hA
  have hlen := hc.len
  have hXl := rightsL_len hc
  refine go (bw3 hl h0 hA) (bw3 (c77 c F hF) (c82 c F) fnil) ?_
  apply wp_block
  refine wp_gen (fun tm1 s1 => tm1.length = 53 ∧ tg tm1 1 = .ptr st.heap.length 0 ∧ tg tm1 4 = .ptr (st.heap.length + 1) 0 ∧ tg tm1 14 = .func 129 [] [.ptr (st.heap.length + 2) 0] ∧ s1.heap.length = st.heap.length + 3 ∧ st.heap.length ≤ s1.lo ∧ s1.lo ≤ s1.heap.length ∧ hp s1 st.heap.length = some (.var [iv c.room,iv c.depth,F]) ∧ hp s1 (st.heap.length + 1) = some (.var [.nilslice]) ∧ hp s1 (st.heap.length + 2) = some (.var [iv c.room,iv c.depth,F]))
   ⟨by simp only [go_sem,hl],by simp only [go_sem,hl],by simp only [go_sem,hl],by simp only [go_sem,hl],by simp only [go_sem],by simp only [lo_push,lo_setVar];omega,by simp only [lo_push,lo_setVar,len_push,len_setVar];omega,by simp only [go_sem],by simp only [go_sem],by simp only [go_sem]⟩ ?_
  rintro tm1 s1 ⟨hl1,q1,q4,q14,hsl,hlo,hwf,z0,z1,z2⟩
  refine wp_rangeF (X := rightsL c) (Rep := RepP c F) (priv := fun l => l = st.heap.length + 2) (fun l => l = st.heap.length + 1) st.heap.length
   (fun i h => h[st.heap.length]? = some (.var [iv c.room,iv c.depth,F]) ∧ ∃ v,h[st.heap.length + 1]? = some (.var [v]) ∧ ∃ Ls : List (PV × List Int),Ls.map (·.2) = (rightsL c).take i ∧ (∀ x ∈ Ls,SlOf 1 encI x.1 x.2) ∧ OwnS st.heap.length ⟨h,0⟩ 4 v Ls.length (Ls.flatMap (encP c F.share))) (fun _ _ => False) (by simp only [go_sem,q14]) (iter129 hF hc ((HExt.push _ _).hp z2)) (fun l hl => by omega) (fun l hl => by omega) hlo hwf
   (fun i h h' ⟨a0,v,a1,Ls,a2,a3,a4⟩ hx => ⟨hx.var a0,v,hx.var a1,Ls,a2,a3,a4.keep fun t _ ht => hx.var ht⟩) (fun _ _ _ h _ => h)
   (fun i h s p s' p' ⟨a0,v,a1,Ls,a2,a3,a4⟩ hL => ⟨set_var a0 hL,v,set_var a1 hL,Ls,a2,a3,a4.keep fun t _ ht => by
    show (h.set s1.heap.length _)[t]? = _
    rw [List.getElem?_set_ne (by rintro rfl;have : h[s1.heap.length]? = some (.tag true) := ht;rw [hL] at this;cases this)];exact ht⟩) (fun _ _ _ _ _ _ h _ => h)
   ⟨z0,_,z1,[],rfl,by simp,.nil⟩ ?_ ?_ (fun _ _ h => h.elim)
  ·rintro i hi v st1 ⟨P,rfl,hP⟩ ⟨a0,u,a1,Ls,a2,a3,a4⟩ he1 hwf1 hL
   refine ⟨_,setParams_one,?_⟩
   have lL := hp_lt hL
   have hPc := hP.cells
   have hPi := hP.isCell
   have hLl : Ls.length = i := by
    have := congrArg List.length a2
    simp at this;omega
   have a0' : hp st1 st.heap.length = _ := a0
   have a1' : hp st1 (st.heap.length + 1) = _ := a1
   have m0 := hp_lt a0'
   have m1 := hp_lt a1'
   refine go (bw3 hl1 hFi hPi) fnil ?_
   have hx1 : HExt st1.heap (setVar (st1.push (.var [iv 0,iv 0,.nilslice,.nilslice])) st1.heap.length (.var [iv c.room,iv c.depth,F,P])).heap := (((Fr.refl st1.heap.length st1).push (Nat.le_refl _)).setVar (Nat.le_refl _)).hext
   refine ⟨rfl,hx1,by simp only [lo_push,lo_setVar];omega,by simp only [lo_push,lo_setVar,len_push,len_setVar];omega,?_⟩
   refine wp_gen (fun tm2 s2 => tm2.length = 53 ∧ tg tm2 4 = .ptr (st.heap.length + 1) 0 ∧ tg tm2 5 = .ptr st1.heap.length 0 ∧ s2.heap.length = st1.heap.length + 1 ∧ st.heap.length ≤ s2.lo ∧ s2.lo ≤ s2.heap.length ∧ hp s2 st.heap.length = some (.var [iv c.room,iv c.depth,F]) ∧ hp s2 (st.heap.length + 1) = some (.var [u]) ∧ hp s2 st1.heap.length = some (.var [iv c.room,iv c.depth,F,P]) ∧ hp s2 s1.heap.length = some (.loop tm1 [15] _ _ .busy none) ∧ KeepV (fun l => l = s1.heap.length) (setVar (st1.push (.var [iv 0,iv 0,.nilslice,.nilslice])) st1.heap.length (.var [iv c.room,iv c.depth,F,P])).heap s2.heap ∧ OwnS st.heap.length s2 4 u Ls.length (Ls.flatMap (encP c F.share)))
    ⟨by simp only [go_sem,hl1],by simp only [go_sem,hl1,q4],by simp only [go_sem,hl1],by simp only [go_sem],by simp only [lo_push,lo_setVar];omega,by simp only [lo_push,lo_setVar,len_push,len_setVar];omega,hp_set_other (hx1.hp a0') (by omega),hp_set_other (hx1.hp a1') (by omega),hp_set_other (by simp only [go_sem]) (by omega),by simp only [go_sem,neL lL,neA lL,ltL lL,ltA lL];rfl,⟨by simp only [len_push,len_setVar];omega,fun l o ho _ hn => hp_set_other ho hn⟩,?_⟩ ?_
   ·refine (OwnS.heap (b := setVar (st1.push (.var [iv 0,iv 0,.nilslice,.nilslice])) st1.heap.length (.var [iv c.room,iv c.depth,F,P])) a4 hx1).keep fun t _ ht => hp_set_other ht ?_
    rintro rfl
    have := hx1.hp hL
    rw [this] at ht;cases ht
   rintro tm2 s2 ⟨hl2,p4,p5,hsl2,hlo2,hwf2,b0,b1,b5,bL,hk2,hO⟩
   have m0 := hp_lt b0
   have m1 := hp_lt b1
   have m5 := hp_lt b5
   have mL := hp_lt bL
   refine go (bw15 hl2 p4 p5 b1 b5 hFi hPi (neL m1) (neA m1) (ltL m1) (ltA m1) (neL m5) (neA m5) (ltL m5) (ltA m5)) fnil ?_
   refine wops_append (m := st.heap.length) rfl rfl (by simp only [go_sem,hl2];first | done | rfl) (by simp only [go_sem,hl2];first | done | rfl) hO.push rfl (by simp only [len_push];omega) (by rfl) (by simp only [go_sem,share_isCell,hFi,hPi]) (by simp only [maxList];omega) ?_
   intro v' s3 hO' hFr hk3
   have f1 := hFr.lo
   have f2 := hFr.up
   have f3 := hFr.len
   simp only [lo_push,len_push] at f1 f2 f3
   have c0 := hk3 _ _ ((HExt.push s2 _).hp b0) (by simp)
   have c1 := hk3 _ _ ((HExt.push s2 _).hp b1) (by simp)
   have cL := hk3 _ _ ((HExt.push s2 _).hp bL) (by simp)
   have n1 := hp_lt c1
   have hvc : v'.cells = [v'] := sl_cells hO'.sl
   have hvi : v'.isCell = true := sl_isCell hO'.sl
   refine go (bw9 hl2 p4 c1 hvc hvi (neL n1) (neA n1) (ltL n1) (ltA n1)) fnil ?_
   refine ⟨hp_set_other cL (by omega),⟨?_,fun l o ho hko hn => ?_⟩,by simp only [lo_setVar];omega,by simp only [lo_setVar,len_setVar];omega,hp_set_other c0 (by omega),v',?_,Ls ++ [(P.share,(rightsL c)[i])],?_,?_,?_⟩
   ·have := hk2.1;simp only [len_push,len_setVar] at this ⊢;omega
   ·have h1 := hk2.2 l o ho hko (fun h => hn (.inr h))
    have h2 : hp s3 l = some o := hk3 l o (by have hlt := hp_lt (st := s2) h1;rw [hp_push,if_neg (by omega)];exact h1) (by intro b hb;subst hb;cases hko)
    exact hp_set_other h2 (fun h => hn (.inl h))
   ·have : hp (setVar s3 (st.heap.length + 1) (.var [v'])) (st.heap.length + 1) = some (.var [v']) := by simp only [go_sem,neL n1,neA n1,ltL n1,ltA n1]
    exact this
   ·rw [List.map_append,a2,List.take_succ_eq_append_getElem hi];rfl
   ·intro x hx
    rcases List.mem_append.1 hx with h | h
    ·exact a3 x h
    ·simp only [List.mem_singleton] at h;subst h;exact hP.share
   ·have hO3 : OwnS st.heap.length (setVar s3 (st.heap.length + 1) (.var [v'])) 4 v' _ _ := hO'.setVar (by rw [c1];simp)
    refine (show OwnS st.heap.length ⟨(setVar s3 (st.heap.length + 1) (.var [v'])).heap,0⟩ 4 v' _ _ from ?_)
    have e1 : (Ls ++ [(P.share,(rightsL c)[i])]).length = Ls.length + 1 := by simp
    have e2 : (Ls ++ [(P.share,(rightsL c)[i])]).flatMap (encP c F.share) = Ls.flatMap (encP c F.share) ++ encP c F.share (P.share,(rightsL c)[i]) := by simp
    rw [e1,e2]
    refine OwnS.keep (st := setVar s3 (st.heap.length + 1) (.var [v'])) ?_ (fun t _ ht => ht)
    simpa [share_int,share_share] using hO3
  ·rintro s2 ⟨a0,u,a1,Ls,a2,a3,a4⟩ hk2 he2 hwf2
   rw [List.take_length] at a2
   have hLl : Ls.length = (rightsL c).length := by
    have := congrArg List.length a2
    simpa using this
   have a0' : hp s2 st.heap.length = some (.var [iv c.room,iv c.depth,F]) := a0
   have a1' : hp s2 (st.heap.length + 1) = some (.var [u]) := a1
   have m0 := hp_lt a0'
   have m1 := hp_lt a1'
   have husl : u.slen = some Ls.length := sl_slen a4.sl
   have hU : SlOf 4 (encP c F.share) u Ls := SlOf.of_sl a4.sl rfl rfl (fun _ => rfl)
   apply inBlock_normal
   by_cases hX : rightsL c = []
   ·have hd : ((Ls.length : Int) == 0) = true := by rw [hLl,hX];rfl
    have e : groupsR c = ([],7) := by simp [groupsR,hA,hX]
    rw [e]
    refine go (bw5 hl1 q4 a1' husl hd) fnil ?_
    refine fnr_ret (v := .tuple [.nilslice,iv 7]) (by simp only [results,rdResL,rdRes_tmp];simp only [go_sem,hl1]) ?_
    exact finish_slT rfl (by rfl) he2 (fun m => rfl)
   ·have hd : ((Ls.length : Int) == 0) = false := by
     have : Ls.length ≠ 0 := by rw [hLl];exact fun h => hX (List.eq_nil_of_length_eq_zero h)
     rw [beq_eq_false_iff_ne];omega
    have e : groupsR c = (groupsL (rightsL c) c.figs.length,0) := by simp [groupsR,hA,hX]
    rw [e]
    refine go (bw8 hl1 q1 q4 a0' a1' husl hd hFs) fnil ?_
    have hgl := fun a => grpT_len (rightsL c) a
    have hXd : ∀ x ∈ Ls,x.2.length = c.figs.length := fun x hx => by
     have : x.2 ∈ rightsL c := by rw [← a2];exact List.mem_map_of_mem hx
     exact (rightsL_mem this).1.len
    refine wp_range c.figs.length [6,7] (fun a vs st' => ∃ v,vs = [v,iv (grpT (rightsL c) a).2] ∧ OwnS st.heap.length st' 1 v (grpT (rightsL c) a).1.length ((grpT (rightsL c) a).1.flatMap encI) ∧ st.heap.length ≤ st'.lo ∧ st'.lo ≤ st'.heap.length ∧ hp st' (st.heap.length + 1) = some (.var [u])) (by omega) (by simp only [go_sem,hl1]) (by simp only [go_sem,hl1]) (by simp only [go_sem,hl1]) (by decide) ⟨_,by simp only [go_sem,hl1];rfl,.nil,he2,hwf2,a1'⟩ ?_ ?_
    ·clear he2 hwf2 a0' a1' a0 a1 a4
     rintro a ha tm2 st2 ⟨v,hv,hO,hlo,hwf,hb⟩ hS haa
     simp only [List.map_cons,List.map_nil,List.cons.injEq,and_true] at hv
     obtain ⟨hv6,hv7⟩ := hv
     have hl2 : tm2.length = 53 := (by rw [hS.1];simp only [put_len,hl1]);have j4 : tg tm2 4 = .ptr (st.heap.length + 1) 0 := (by rw [hS.2 4 (by decide)];simp only [go_sem,hl1,q4]);clear hS
     have lb := hp_lt hb
     refine go (bw8 hl2 haa j4 hb (neL lb) (neA lb) (ltL lb) (ltA lb)) fnil ?_
     refine wp_range a [6,7] (fun b vs st' => vs = [v,iv (grpT (rightsL c) a).2] ∧ OwnS st.heap.length st' 1 v (grpT (rightsL c) a).1.length ((grpT (rightsL c) a).1.flatMap encI) ∧ st.heap.length ≤ st'.lo ∧ st'.lo ≤ st'.heap.length ∧ hp st' (st.heap.length + 1) = some (.var [u]) ∧ hp st' st2.heap.length = some (.var [iv a]) ∧ ∀ k,k < b → sameG (rightsL c) a k = false) (by omega) (by simp only [go_sem,hl2]) (by simp only [go_sem,hl2]) (by simp only [go_sem,hl2]) (by decide) ⟨by simp only [go_sem,hl2,hv6,hv7],hO.push.setVar (by simp [hp_push]),by simp only [lo_push,lo_setVar];omega,by simp only [lo_push,lo_setVar,len_push,len_setVar];omega,by simp only [go_sem,hb,neL lb,neA lb,ltL lb,ltA lb],by simp only [go_sem],fun k hk => absurd hk (by omega)⟩ ?_ ?_
     ·clear hO hlo hwf hb
      rintro b hb2 tm3 st3 ⟨hv3,hO,hlo,hwf,hb,h8,hno⟩ hS hbb
      simp only [List.map_cons,List.map_nil,List.cons.injEq,and_true] at hv3
      obtain ⟨k6,k7⟩ := hv3
      have hl3 : tm3.length = 53 := (by rw [hS.1];simp only [put_len,hl2]);have k4 : tg tm3 4 = .ptr (st.heap.length + 1) 0 := (by rw [hS.2 4 (by decide)];simp only [go_sem,hl2,j4]);have k8 : tg tm3 8 = .ptr st2.heap.length 0 := (by rw [hS.2 8 (by decide)];simp only [go_sem,hl2,j4]);clear hS
      have lb3 := hp_lt hb
      have l83 := hp_lt h8
      have hpred : ∀ st',st'.heap = (setVar (st3.push (.var [iv 0])) st3.heap.length (.var [iv b])).heap → ∀ x,x ∈ Ls → Cl EE (.func 87 [] [.ptr st2.heap.length 0,.ptr st3.heap.length 0]) [.agg (encP c F.share x)] st' (.ret (.bool (difG a b x.2))) st' := fun st' he x hx => by
       have hd := hXd x hx
       refine c87 c F.share (by have := hF.share.cells;exact this) x (a3 x hx) a b (by omega) (by omega) st' _ _ ?_ ?_
       ·show st'.heap[_]? = _
        rw [he]
        have : hp (setVar (st3.push (.var [iv 0])) st3.heap.length (.var [iv b])) st2.heap.length = some (.var [iv a]) := by simp only [go_sem,h8,neL l83,neA l83,ltL l83,ltA l83]
        exact this
       ·show st'.heap[_]? = _
        rw [he]
        have : hp (setVar (st3.push (.var [iv 0])) st3.heap.length (.var [iv b])) st3.heap.length = some (.var [iv b]) := by simp only [go_sem]
        exact this
      have hcf := c86 c F.share u Ls hU (by omega) 87 [] [.ptr st2.heap.length 0,.ptr st3.heap.length 0] (fun x => difG a b x.2) _ hpred
      have hany : Ls.any (fun x => difG a b x.2) = (rightsL c).any (difG a b) := by rw [← a2,List.any_map];rfl
      rw [hany] at hcf
      cases hs : (rightsL c).any (difG a b)
      ·have hsame : sameG (rightsL c) a b = true := by simp [sameG,hs]
       have hfind : (List.range a).find? (sameG (rightsL c) a) = some b := by
        rw [List.find?_range_eq_some]
        exact ⟨hsame,by simpa using hb2,fun j hj => by simpa using hno j hj⟩
       have hV : SlOf 1 encI v (grpT (rightsL c) a).1 := SlOf.of_sl hO.sl rfl rfl (fun _ => rfl)
       have hbl : b < (grpT (rightsL c) a).1.length := by rw [(hgl a).1];exact hb2
       have hgl1 := (hgl a).1
       have hst : grpT (rightsL c) (a + 1) = ((grpT (rightsL c) a).1 ++ [(grpT (rightsL c) a).1[b]],(grpT (rightsL c) a).2) := by
        rw [grpT_succ];unfold grpStep;rw [hfind]
        simp only [List.getD_eq_getElem?_getD,List.getElem?_eq_getElem hbl,Option.getD_some]
       refine go (bw17 hl3 hbb k4 k6 k7 k8 hb h8 (neL lb3) (neA lb3) (ltL lb3) (ltA lb3) (neL l83) (neA l83) (ltL l83) (ltA l83) hs) (bw hcf fnil) ?_
       refine wops_append rfl rfl (by simp only [go_sem,hl3,k6];first | done | rfl) (by simp only [go_sem,hl3,k6];first | done | rfl) ((hO.push.setVar (by simp [hp_push])).push) rfl (by first | omega | (simp only [len_push,len_setVar];omega)) (by rfl) (by rfl) (by simp only [maxList];omega) ?_
       intro v' st4 hO' hFr hk
       have f1 := hFr.lo
       have f2 := hFr.up
       have f3 := hFr.len
       simp only [lo_push,lo_setVar,len_push,len_setVar] at f1 f2 f3
       refine go hl3 fnil ?_
       rw [hst]
       exact ⟨v',by simp only [go_sem,hl3,k7],by simpa [share_int] using hO',by omega,by omega,hk _ _ (by simp only [go_sem,hb,neL lb3,neA lb3,ltL lb3,ltA lb3]) (by simp)⟩
      ·have hsame : sameG (rightsL c) a b = false := by simp [sameG,hs]
       refine go (bw17 hl3 hbb k4 k6 k7 k8 hb h8 (neL lb3) (neA lb3) (ltL lb3) (ltA lb3) (neL l83) (neA l83) (ltL l83) (ltA l83) hs) (bw hcf fnil) ?_
       refine ⟨by simp only [go_sem,hl3,k6,k7],hO.push.setVar (by simp [hp_push]),by simp only [lo_push,lo_setVar];omega,by simp only [lo_push,lo_setVar,len_push,len_setVar];omega,by simp only [go_sem,hb,neL lb3,neA lb3,ltL lb3,ltA lb3],by simp only [go_sem,h8,neL l83,neA l83,ltL l83,ltA l83],fun k hk => ?_⟩
       by_cases hkb : k = b
       ·subst hkb;exact hsame
       ·exact hno k (by omega)
     ·clear hO hlo hwf hb
      rintro tm3 st3 ⟨hv3,hO,hlo,hwf,hb,h8,hno⟩ hS
      simp only [List.map_cons,List.map_nil,List.cons.injEq,and_true] at hv3
      obtain ⟨k6,k7⟩ := hv3
      have hl3 : tm3.length = 53 := (by rw [hS.1];simp only [put_len,hl2]);clear hS
      have hfind : (List.range a).find? (sameG (rightsL c) a) = none := by
       rw [List.find?_eq_none]
       intro x hx
       rw [hno x (by simpa using hx)];simp
      have hgl1 := (hgl a).1
      have hgl2 := (hgl a).2
      have hst : grpT (rightsL c) (a + 1) = ((grpT (rightsL c) a).1 ++ [(grpT (rightsL c) a).2],(grpT (rightsL c) a).2 + 1) := by
       rw [grpT_succ];unfold grpStep;rw [hfind]
      have hw : IntKind.wrap .i64 ((grpT (rightsL c) a).2 + 1) = (grpT (rightsL c) a).2 + 1 := wrap_in (by unfold inI;omega)
      refine go (bw3 hl3 k6 k7) fnil ?_
      refine wops_append rfl rfl (by simp only [go_sem,hl3,k6];first | done | rfl) (by simp only [go_sem,hl3,k6];first | done | rfl) (hO.push) rfl (by first | omega | (simp only [len_push,len_setVar];omega)) (by rfl) (by rfl) (by simp only [maxList];omega) ?_
      intro v' st4 hO' hFr hk
      have f1 := hFr.lo
      have f2 := hFr.up
      have f3 := hFr.len
      simp only [lo_push,len_push] at f1 f2 f3
      refine go (bw3 hl3 k7 hw) fnil ?_
      rw [hst]
      exact ⟨v',by simp only [go_sem,hl3,k7],by simpa [share_int] using hO',by omega,by omega,hk _ _ ((HExt.push st3 _).hp hb) (by simp)⟩
    ·rintro tm2 st2 ⟨v,hv,hO,hlo,hwf,hb⟩ hS
     simp only [List.map_cons,List.map_nil,List.cons.injEq,and_true] at hv
     obtain ⟨hv6,hv7⟩ := hv
     have hl2 : tm2.length = 53 := (by rw [hS.1];simp only [put_len,hl1]);clear hS
     refine go (bw hl2 hv6) fnil ?_
     refine fnr_ret (v := .tuple [v,iv 0]) (by simp only [results,rdResL,rdRes_tmp];simp only [go_sem,hl2]) ?_
     exact finish_slT hO.sl (by rfl) hlo (fun m => ints_low _ m)
end Go.Den.Ch
end
section
namespace Go.Den.Ch
def needsT (c : CL) (p : List Int) (n : Nat) : Int := (List.range n).foldl (fun m (k : Nat) => max m (layerL c.figs p k).sum) 0
def needsL (c : CL) (p : List Int) : Int := needsT c p c.depth.toNat
theorem needsT_succ (c : CL) (p : List Int) (n : Nat) : needsT c p (n + 1) = max (needsT c p n) (layerL c.figs p (n : Nat)).sum := by
 rw [needsT,List.range_succ,List.foldl_append];rfl
def sizesL (c : CL) : List Int := c.figs.map (·.size)
def wideL (c : CL) : CL := { c with room := (sizesL c).sum }
def roomT (c : CL) (X : List (List Int)) : Int := X.foldl (fun o p => min o (needsL c p)) (sizesL c).sum
theorem roomT_take (c : CL) (X : List (List Int)) {i : Nat} (h : i < X.length) : roomT c (X.take (i + 1)) = min (roomT c (X.take i)) (needsL c X[i]) := by
 rw [List.take_succ_eq_append_getElem h,roomT,List.foldl_append];rfl
def roomR (c : CL) : Int × Int := if listB c then (roomT c (rightsL (wideL c)),0) else (0,2)
set_option maxHeartbeats 8000000 in
theorem c63 (c : CL) (F : PV) (hF : SlOf 3 encF F c.figs) (st : St) : Cl EE (.func 63 [] []) [clPV c F] st (.ret (.tuple [iv (roomR c).1,iv (roomR c).2])) st := by
 have hFc := hF.cells
 have hFi := hF.isCell
 have hFs := hF.slen
 refine cl_fn (pr63 · _ _) fn63 1 rfl (by decide) (fun tm hl hg => ?_);have h0 : tg tm 0 = clPV c F := (hg 0 (by decide));clear hg
 cases hA : listB c
 ·have e : roomR c = (0,2) := by simp [roomR,hA]
  rw [e]
  refine go (bw3 hl h0 hA) (bw (c77 c F hF) fnil) ?_
  exact fnq_tuple (by simp only [results,rdResL,rdRes_tmp];simp only [go_sem,hl]) (by simp only [lo_push];omega) (by rfl)
 ·have hc := OkL.of hA
  have hlen := hc.len
  have e : roomR c = (roomT c (rightsL (wideL c)),0) := by simp [roomR,hA]
  rw [e]
  obtain ⟨d,hd⟩ : ∃ d : Nat,c.depth = d := ⟨c.depth.toNat,by have := hc.d0;omega⟩
  have hd5 : d ≤ 5 := by have := hc.d1;omega
  have hcw : OkL (wideL c) := ⟨hc.len,hc.figs,hc.d0,hc.d1⟩
  have hFw : SlOf 3 encF F (wideL c).figs := hF
  refine go (bw4 hl h0 hA hFs) (bw (c77 c F hF) fnil) ?_
  refine wp_range c.figs.length [4] (fun i vs st' => ∃ v,vs = [v] ∧ OwnS st.heap.length st' 1 v ((sizesL c).take i).length (((sizesL c).take i).flatMap encI) ∧ st.heap.length ≤ st'.lo ∧ st'.lo ≤ st'.heap.length ∧ hp st' st.heap.length = some (.var [iv c.room,iv c.depth,F])) (by omega) (by simp only [go_sem,hl]) (by simp only [go_sem,hl]) (by simp only [go_sem,hl]) (by decide) ⟨_,by simp only [go_sem,hl],.nil,by simp [lo_push],by simp only [lo_push,len_push];omega,by simp only [go_sem]⟩ ?_ ?_
  ·rintro i hi tm1 st1 ⟨v,hv,hO,hlo,hwf,hb⟩ hS hia
   simp only [List.map_cons,List.map_nil,List.cons.injEq,and_true] at hv
   have hl1 : tm1.length = 51 := (by rw [hS.1];simp only [put_len,hl]);have i15 : tg tm1 15 = F := (by rw [hS.2 15 (by decide)];simp only [go_sem,hl,h0]);clear hS
   have lb := hp_lt hb
   have hsz : i < (sizesL c).length := by simp [sizesL,hi]
   have hsi : (sizesL c)[i] = c.figs[i].size := by simp [sizesL]
   have hln : ((sizesL c).take i).length ≤ i := by simp;omega
   refine go (bw9 hl1 i15 hia hv hb (neL lb) (neA lb) (ltL lb) (ltA lb)) fnil ?_
   refine wops_append rfl rfl (by simp only [go_sem,hl1,hv];first | done | rfl) (by simp only [go_sem,hl1,hv];first | done | rfl) ((hO.push.setVar (by simp [hp_push])).push) rfl (by first | omega | (simp only [len_push,len_setVar];omega)) (by rfl) (by rfl) (by simp only [maxList];omega) ?_
   intro v' st2 hO' hFr hk
   have f1 := hFr.lo
   have f2 := hFr.up
   have f3 := hFr.len
   simp only [lo_push,lo_setVar,len_push,len_setVar] at f1 f2 f3
   refine go hl1 fnil ?_
   refine ⟨v',by simp only [go_sem,hl1],?_,by omega,by omega,hk _ _ (by simp only [go_sem,hb,neL lb,neA lb,ltL lb,ltA lb]) (by simp)⟩
   rw [List.take_succ_eq_append_getElem hsz,hsi]
   simpa [share_int,wideL] using hO'
  ·rintro tm1 st1 ⟨v,hv,hO,hlo,hwf,hb⟩ hS
   simp only [List.map_cons,List.map_nil,List.cons.injEq,and_true] at hv
   have hsl0 : (sizesL c).length = c.figs.length := by simp [sizesL]
   rw [← hsl0,List.take_length] at hO
   have hl1 : tm1.length = 51 := (by rw [hS.1];simp only [put_len,hl]);have i1 : tg tm1 1 = .ptr st.heap.length 0 := (by rw [hS.2 1 (by decide)];simp only [go_sem,hl,h0]);clear hS
   have lb := hp_lt hb
   have hV : SlOf 1 encI v (sizesL c) := SlOf.of_sl hO.sl rfl rfl (fun _ => rfl)
   have hsr : ∀ x ∈ sizesL c,0 ≤ x ∧ x ≤ 1000 := fun x hx => by
    simp only [sizesL,List.mem_map] at hx
    obtain ⟨f,hf,rfl⟩ := hx
    have := hc.size hf;omega
   have hcl : ∀ st,Cl EE (.func 82 [] []) [.agg [iv (sizesL c).sum,iv c.depth,F]] st (.ret (.func 129 [] [.ptr st.heap.length 0])) (st.push (.var [iv (sizesL c).sum,iv c.depth,F])) := fun st => c82 (wideL c) F st
   refine go (bw10 hl1 i1 hv hb hFc hFi (neL lb) (neA lb) (ltL lb) (ltA lb)) (bw3 (c110 v (sizesL c) hV (by omega) (sum_inI (by omega) hsr)) hcl fnil) ?_
   apply wp_block
   refine wp_gen (fun tm2 s1 => tm2.length = 51 ∧ tg tm2 1 = .ptr st.heap.length 0 ∧ tg tm2 7 = .ptr st1.heap.length 0 ∧ tg tm2 33 = .func 129 [] [.ptr (st1.heap.length + 1) 0] ∧ s1.heap.length = st1.heap.length + 2 ∧ st.heap.length ≤ s1.lo ∧ s1.lo ≤ s1.heap.length ∧ hp s1 st.heap.length = some (.var [iv (sizesL c).sum,iv c.depth,F]) ∧ hp s1 st1.heap.length = some (.var [iv (sizesL c).sum]) ∧ hp s1 (st1.heap.length + 1) = some (.var [iv (sizesL c).sum,iv c.depth,F]))
    ⟨by simp only [go_sem,hl1],by simp only [go_sem,hl1,i1],by simp only [go_sem,hl1],by simp only [go_sem,hl1],by simp only [go_sem],by simp only [lo_push,lo_setVar];omega,by simp only [lo_push,lo_setVar,len_push,len_setVar];omega,by simp only [go_sem,neL lb,neA lb,ltL lb,ltA lb],by simp only [go_sem],by simp only [go_sem]⟩ ?_
   rintro tm2 s1 ⟨hl2,q1,q7,q33,hsl,hlo2,hwf2,z0,z1,z2⟩
   refine wp_rangeF (X := rightsL (wideL c)) (Rep := RepP (wideL c) F) (priv := fun l => l = st1.heap.length + 1) (fun l => l = st1.heap.length) st.heap.length
    (fun i h => h[st.heap.length]? = some (.var [iv (sizesL c).sum,iv c.depth,F]) ∧ h[st1.heap.length]? = some (.var [iv (roomT c ((rightsL (wideL c)).take i))])) (fun _ _ => False) (by simp only [go_sem,q33]) (iter129 hFw hcw ((HExt.push _ _).hp z2)) (fun l hl => by omega) (fun l hl => by omega) hlo2 hwf2
    (fun i h h' ⟨a0,a1⟩ hx => ⟨hx.var a0,hx.var a1⟩) (fun _ _ _ h _ => h) (fun i h s p s' p' ⟨a0,a1⟩ hL => ⟨set_var a0 hL,set_var a1 hL⟩) (fun _ _ _ _ _ _ h _ => h) ⟨z0,z1⟩ ?_ ?_ (fun _ _ h => h.elim)
   ·rintro i hi u st2 ⟨P,rfl,hP⟩ ⟨a0,a1⟩ he1 hwf1 hL
    refine ⟨_,setParams_one,?_⟩
    have lL := hp_lt hL
    have hPc := hP.cells
    have hPi := hP.isCell
    have hpp := (rightsL_mem (List.getElem_mem hi)).1
    have hpl := hpp.len
    have a0' : hp st2 st.heap.length = _ := a0
    have a1' : hp st2 st1.heap.length = _ := a1
    have m0 := hp_lt a0'
    have m1 := hp_lt a1'
    refine go (bw3 hl2 hFi hPi) fnil ?_
    have hx1 : HExt st2.heap (setVar (st2.push (.var [iv 0,iv 0,.nilslice,.nilslice])) st2.heap.length (.var [iv (wideL c).room,iv (wideL c).depth,F,P])).heap := (((Fr.refl st2.heap.length st2).push (Nat.le_refl _)).setVar (Nat.le_refl _)).hext
    refine ⟨rfl,hx1,by simp only [lo_push,lo_setVar];omega,by simp only [lo_push,lo_setVar,len_push,len_setVar];omega,?_⟩
    refine wp_gen (fun tm3 s2 => tm3.length = 51 ∧ tg tm3 1 = .ptr st.heap.length 0 ∧ tg tm3 7 = .ptr st1.heap.length 0 ∧ tg tm3 8 = .ptr st2.heap.length 0 ∧ s2.heap.length = st2.heap.length + 1 ∧ st.heap.length ≤ s2.lo ∧ s2.lo ≤ s2.heap.length ∧ hp s2 st.heap.length = some (.var [iv (sizesL c).sum,iv c.depth,F]) ∧ hp s2 st1.heap.length = some (.var [iv (roomT c ((rightsL (wideL c)).take i))]) ∧ hp s2 st2.heap.length = some (.var [iv (wideL c).room,iv (wideL c).depth,F,P]) ∧ hp s2 s1.heap.length = some (.loop tm2 [34] _ _ .busy none) ∧ KeepV (fun l => l = s1.heap.length) (setVar (st2.push (.var [iv 0,iv 0,.nilslice,.nilslice])) st2.heap.length (.var [iv (wideL c).room,iv (wideL c).depth,F,P])).heap s2.heap)
     ⟨by simp only [go_sem,hl2],by simp only [go_sem,hl2,q1],by simp only [go_sem,hl2,q7],by simp only [go_sem,hl2],by simp only [go_sem],by simp only [lo_push,lo_setVar];omega,by simp only [lo_push,lo_setVar,len_push,len_setVar];omega,hp_set_other (hx1.hp a0') (by omega),hp_set_other (hx1.hp a1') (by omega),hp_set_other (by simp only [go_sem]) (by omega),by simp only [go_sem,neL lL,neA lL,ltL lL,ltA lL];rfl,⟨by simp only [len_push,len_setVar];omega,fun l o ho _ hn => hp_set_other ho hn⟩⟩ ?_
    rintro tm3 s2 ⟨hl3,p1,p7,p8,hsl2,hlo3,hwf3,b0,b1,b8,bL,hk2⟩
    have n0 := hp_lt b0
    have n1 := hp_lt b1
    have n8 := hp_lt b8
    refine go (bw9 hl3 p1 p7 p8 b0 (neL n0) (neA n0) (ltL n0) (ltA n0)) fnil ?_
    refine wp_range d [9] (fun k vs st' => vs = [iv (needsT c (rightsL (wideL c))[i] k)] ∧ HExt s2.heap st'.heap ∧ st.heap.length ≤ st'.lo ∧ st'.lo ≤ st'.heap.length) (by omega) (by simp only [go_sem,hl3]) (by simp only [go_sem,hl3,hd]) (by simp only [go_sem,hl3]) (by decide) ⟨by simp only [go_sem,hl3];rfl,.refl _,hlo3,hwf3⟩ ?_ ?_
    ·rintro k hk tm4 st4 ⟨hv4,hx4,hlo4,hwf4⟩ hS hka
     simp only [List.map_cons,List.map_nil,List.cons.injEq,and_true] at hv4
     have hl4 : tm4.length = 51 := (by rw [hS.1];simp only [put_len,hl3]);have t8 : tg tm4 8 = .ptr st2.heap.length 0 := (by rw [hS.2 8 (by decide)];simp only [go_sem,hl3,p8]);clear hS
     have b84 := hx4.hp b8
     have n84 := hp_lt b84
     refine go (bw9 hl4 t8 hka hv4 b84 (neL n84) (neA n84) (ltL n84) (ltA n84)) fnil ?_
     have hly := c111 (wideL c) F P (rightsL (wideL c))[i] k hFw hP (by show c.figs.length < 1000;omega) hpl st4
     refine wops_callR rfl rfl (by simp only [go_sem,hl4];first | done | rfl) (by simp only [go_sem,hl4];exact hly) ?_
     intro w st5 hR
     have r1 := hR.lo
     have r2 := hR.len
     refine go (bw3 hl4 hv4 @mm2) (bw (c110' hcw _ _ w (slI hR)) fnil) ?_
     rw [needsT_succ]
     exact ⟨by simp only [go_sem,hl4];rfl,hx4.trans hR.fr.hext,by omega,by omega⟩
    ·rintro tm4 st4 ⟨hv4,hx4,hlo4,hwf4⟩ hS
     simp only [List.map_cons,List.map_nil,List.cons.injEq,and_true] at hv4
     have hl4 : tm4.length = 51 := (by rw [hS.1];simp only [put_len,hl3]);have t7 : tg tm4 7 = .ptr st1.heap.length 0 := (by rw [hS.2 7 (by decide)];simp only [go_sem,hl3,p7]);clear hS
     have b14 := hx4.hp b1
     have n14 := hp_lt b14
     refine go (bw9 hl4 t7 hv4 b14 @mm2' (neL n14) (neA n14) (ltL n14) (ltA n14)) fnil ?_
     have b04 := hx4.hp b0
     have bL4 := hx4.hp bL
     refine ⟨hp_set_other bL4 (by omega),⟨?_,fun l o ho hko hn => ?_⟩,by simp only [lo_setVar];omega,by simp only [lo_setVar,len_setVar];omega,hp_set_other b04 (by omega),?_⟩
     ·have h1 := hk2.1;have h2 := hx4.1;simp only [len_push,len_setVar] at h1 ⊢;omega
     ·have h1 : hp s2 l = some o := hk2.2 l o ho hko (fun h => hn (.inr h))
      exact hp_set_other (hx4.hp h1) (fun h => hn (.inl h))
     ·rw [roomT_take c _ hi]
      have hnd : needsL c (rightsL (wideL c))[i] = needsT c (rightsL (wideL c))[i] d := by rw [needsL,hd];rfl
      rw [hnd]
      have : hp (setVar st4 st1.heap.length (.var [iv (min (roomT c (List.take i (rightsL (wideL c)))) (needsT c (rightsL (wideL c))[i] d))])) st1.heap.length = some (.var [iv (min (roomT c (List.take i (rightsL (wideL c)))) (needsT c (rightsL (wideL c))[i] d))]) := by simp only [go_sem,neL n14,neA n14,ltL n14,ltA n14]
      exact this
   ·rintro s2 ⟨a0,a1⟩ hk2 he2 hwf2
    rw [List.take_length] at a1
    have a1' : hp s2 st1.heap.length = _ := a1
    have m1 := hp_lt a1'
    apply inBlock_normal
    refine go (bw7 hl2 q7 a1' (neL m1) (neA m1) (ltL m1) (ltA m1)) fnil ?_
    exact fnq_tuple (by simp only [results,rdResL,rdRes_tmp];simp only [go_sem,hl2]) he2 (by rfl)
end Go.Den.Ch
end

/- Part of the proofs of laws of the package version. Texts: VnIn, VwA, VwE. -/
import Derived.Test.YtehdcjbdhkkipaaGreatDoorVAAo
import Derived.Test.YtehdcjbdhkkipaaGreatDoorVAAm
set_option linter.unusedSimpArgs false
set_option linter.unusedVariables false
section
namespace Go.Den.Ve
set_option maxRecDepth 100000
open Go.Proofs Go.ChangeShapes Go.WideShapes
section
variable {H : Type} {enc : TypeId × Value → H} {W : World} {base fuel : Nat} {d : DataW H} {ps : List MemPlace}
theorem cells_get {a : Addr} {k : Nat} {cs : List Value} (h : W.cells? 0 a k = some cs) : cs.length = k ∧ ∀ (j : Nat) (v : Value),cs[j]? = some v → W.cell? (a.add j) = some v := by
 unfold World.cells? at h
 simp only [Nat.zero_le,if_true] at h
 have hl := mapM_some_length h
 rw [List.length_range] at hl
 refine ⟨hl,fun j v hj => ?_⟩
 have hjl := (List.getElem?_eq_some_iff.1 hj).1
 have := mapM_some_get h j j (by rw [List.getElem?_range (by omega)])
 rw [this,hj]
theorem add_spot {a : Addr} {v : Value} (h : W.cell? ((a.add 0).add 0) = some v) : a.spot = none := by
 have := World.cell?_spot h
 simpa [Addr.add] using this
theorem in_slice {α : Type} {en : α → List PV} {t e : TypeId} {k : Nat} (hu : Tryz.prog.underlying t = some (.slice e)) (hk : Tryz.prog.cellsOf e = k) (hk1 : 0 < k) (hen : ∀ a,(en a).length = k)
  (hel : ∀ (n : Nat) (cs : List Value) (y : DataW H × List MemPlace),DataW.trod enc Tryz.prog W 0 (fun _ => true) true n e cs = some y → ∃ a : α,VRL (gh0 W) W (en a) cs)
  {v : Value} {x : DataW H × List MemPlace} (h : DataW.trod enc Tryz.prog W 0 (fun _ => true) true fuel t [v] = some x) : ∃ F l,VR (gh0 W) W F v ∧ SlOf k en F l := by
 rcases DataW.trod_slice hu h with ⟨hv,_⟩ | ⟨a,len,cap,elems,rest,n,_,hv,_,_,hl,_,hlen,hel',hrest,_⟩
 ·simp at hv
  subst hv
  exact ⟨.nilslice,[],by simp only [VR],rfl,fun _ h => by cases h⟩
 ·simp at hv
  subst hv
  rw [hk] at hel' hrest
  by_cases hcap : cap = 0
  ·subst hcap
   have hl0 : len = 0 := by omega
   subst hl0
   refine ⟨.slice .shared 0 [],[],?_,rfl,fun _ h => by cases h⟩
   simp only [VR]
   exact .inr ⟨by trivial,by trivial,by trivial,a,rfl⟩
  ·have hsp : a.spot = none := by
    have key : ∀ (o : Option (DataW H × List MemPlace)) (i : Nat),i = 0 → o.isSome = true → (W.cells? 0 (a.add (i * k)) k).bind (DataW.trod enc Tryz.prog W 0 (fun _ => true) true n e) = o → a.spot = none := fun o i hi ho h1 => by
     obtain ⟨y,rfl⟩ := Option.isSome_iff_exists.1 ho
     obtain ⟨cs,h2,h3⟩ := Option.bind_eq_some_iff.1 h1
     obtain ⟨h4,h5⟩ := cells_get h2
     have hc0 : 0 < cs.length := by omega
     have h6 := h5 0 cs[0] (List.getElem?_eq_getElem hc0)
     rw [hi,Nat.zero_mul] at h6
     exact add_spot h6
    by_cases hlen0 : 0 < len
    ·refine key elems[0]? 0 rfl (by rw [List.getElem?_eq_getElem (by omega)];rfl) (hel' 0 hlen0)
    ·obtain ⟨h1,h2⟩ := hrest rfl
     exact key rest[0]? (len + 0) (by omega) (by rw [List.getElem?_eq_getElem (by omega)];rfl) (h2 0 (by omega))
   obtain ⟨b,off,sp⟩ := a
   simp only at hsp
   subst hsp
   have hadd : ∀ o j,((⟨b,o,none⟩ : Addr).add j) = ⟨b,o + j,none⟩ := fun o j => by
    unfold Addr.add
    by_cases h0 : j = 0
    ·rw [if_pos h0,h0];rfl
    ·rw [if_neg h0]
   obtain ⟨l,hll,hlq⟩ := list_of (α := α) (Q := fun i a => ∀ (j : Nat) (p : PV),(en a)[j]? = some p → ∃ v,W.cell? ⟨b,off + i * k + j,none⟩ = some v ∧ VR (gh0 W) W p v) len (fun i hi => by
    have h1 := hel' i hi
    rw [hadd,List.getElem?_eq_getElem (by omega : i < elems.length)] at h1
    obtain ⟨cs,h2,h3⟩ := Option.bind_eq_some_iff.1 h1
    obtain ⟨h4,h5⟩ := cells_get h2
    obtain ⟨x,hx⟩ := hel n cs _ h3
    refine ⟨x,fun j p hj => ?_⟩
    obtain ⟨v,g1,g2⟩ := hx.get hj
    have := h5 j v g1
    rw [hadd] at this
    exact ⟨v,this,g2⟩)
   refine ⟨.slice .shared len (l.flatMap en),l,vr_slice0 hl fun j p hj => ?_,by simp only [PV.sl,hll],fun a _ => hen a⟩
   have hjl := (List.getElem?_eq_some_iff.1 hj).1
   have hfl : (l.flatMap en).length = l.length * k := flatMap_len (fun a _ => hen a)
   have hi : j / k < l.length := by
    rw [hfl] at hjl
    exact (Nat.div_lt_iff_lt_mul hk1).2 hjl
   have hdr : (l.flatMap en).drop (j / k * k) = (l.drop (j / k)).flatMap en := flatMap_drop (j / k) (fun a _ => hen a)
   have hdm : j / k * k + j % k = j := by rw [Nat.mul_comm];exact Nat.div_add_mod j k
   have hj2 : ((l.flatMap en).drop (j / k * k))[j % k]? = some p := by
    rw [List.getElem?_drop,← hj,hdm]
   rw [hdr,List.drop_eq_getElem_cons hi,List.flatMap_cons,List.getElem?_append_left (by rw [hen];exact Nat.mod_lt _ hk1)] at hj2
   obtain ⟨v,g1,g2⟩ := hlq (j / k) _ (List.getElem?_eq_getElem hi) (j % k) p hj2
   refine ⟨v,?_,g2⟩
   rw [← g1]
   congr 2
   omega
theorem e3' : Tryz.prog.cellsOf 3 = 1 := by kernel_rfl
theorem e4' : Tryz.prog.cellsOf 4 = 1 := by kernel_rfl
theorem e22' : Tryz.prog.cellsOf 22 = 1 := by kernel_rfl
theorem e24' : Tryz.prog.cellsOf 24 = 2 := by kernel_rfl
theorem e25' : Tryz.prog.cellsOf 25 = 1 := by kernel_rfl
theorem e76' : Tryz.prog.cellsOf 76 = 2 := by kernel_rfl
theorem e77' : Tryz.prog.cellsOf 77 = 1 := by kernel_rfl
theorem trod_one {t n : Nat} {cs : List Value} {y : DataW H × List MemPlace} (h : DataW.trod enc Tryz.prog W 0 (fun _ => true) true n t cs = some y) (hs : (∃ e,Tryz.prog.underlying t = some (.slice e))) : ∃ v,cs = [v] := by
 obtain ⟨e,hu⟩ := hs
 rcases DataW.trod_slice hu h with ⟨hv,_⟩ | ⟨a,len,cap,elems,rest,n,_,hv,_⟩
 ·exact ⟨_,hv⟩
 ·exact ⟨_,hv⟩
theorem in_ints1 {v : Value} {x : DataW H × List MemPlace} (h : DataW.trod enc Tryz.prog W 0 (fun _ => true) true fuel 25 [v] = some x) : ∃ F l,VR (gh0 W) W F v ∧ SlOf 1 encI F l :=
 in_slice Tryz.underlying25 e3' (by decide) (fun _ => rfl) (fun n cs y h => by
  obtain ⟨k,rfl,_,_⟩ := DataW.trod_int Tryz.underlying3 h
  exact ⟨k,VRL.cons (by simp only [VR]) (VRL.nil_iff.2 rfl)⟩) h
theorem in_line {n : Nat} {cs : List Value} {y : DataW H × List MemPlace} (h : DataW.trod enc Tryz.prog W 0 (fun _ => true) true n 76 cs = some y) : ∃ a : LP,VRL (gh0 W) W (encLP a) cs := by
 obtain ⟨xs,n,_,_,hl,hxl,hf⟩ := DataW.trod_struct Tryz.underlying76 h
 rw [e76'] at hl
 match cs,hl with
 | [a,b],_ =>
  have f0 : DataW.trod enc Tryz.prog W 0 (fun _ => true) true n 4 (List.take (Tryz.prog.cellsOf 4) [a,b]) = xs[0]? := hf 0 _ rfl
  have f1 : DataW.trod enc Tryz.prog W 0 (fun _ => true) true n 25 (List.take (Tryz.prog.cellsOf 25) [b]) = xs[1]? := hf 1 _ rfl
  rw [e4'] at f0
  rw [e25'] at f1
  have hx : xs.length = 2 := hxl
  match xs,hx with
  | [x0,x1],_ =>
   obtain ⟨k,k0,_⟩ := DataW.trod_bool Tryz.underlying4 f0
   simp at k0
   subst k0
   obtain ⟨F,l,h1,h2⟩ := in_ints1 (x := x1) f1
   exact ⟨⟨k,F,l,h2⟩,VRL.cons (by simp only [VR]) (VRL.cons h1 (VRL.nil_iff.2 rfl))⟩
theorem in_copy {n : Nat} {cs : List Value} {y : DataW H × List MemPlace} (h : DataW.trod enc Tryz.prog W 0 (fun _ => true) true n 77 cs = some y) : ∃ a : CP,VRL (gh0 W) W (encCP a) cs := by
 obtain ⟨v,rfl⟩ := trod_one h ⟨_,Tryz.underlying77⟩
 obtain ⟨F,l,h1,h2⟩ := in_slice (en := encLP) Tryz.underlying77 e76' (by decide) (fun _ => rfl) (fun n cs y h => in_line h) h
 exact ⟨⟨F,l,h2⟩,VRL.cons h1 (VRL.nil_iff.2 rfl)⟩
theorem in_book {v : Value} (hok : Value.okWide Tryz.prog W .any base 24 v) (h : DataW.Trod enc Tryz.prog W 0 (fun _ => true) true 24 v d ps) : ∃ b : BP,VR (gh0 W) W b.pv v := by
 obtain ⟨fuel,h⟩ := h
 unfold Value.okWide at hok
 rw [Tryz.underlying24] at hok
 obtain ⟨cs,rfl,_⟩ := hok
 obtain ⟨xs,n,_,_,hl,hxl,hf⟩ := DataW.trod_struct Tryz.underlying24 h
 rw [e24'] at hl
 have hcs : (Value.agg cs).cells.toList = cs.toList := rfl
 rw [hcs] at hl hf
 obtain ⟨l⟩ := cs
 match l,hl with
 | [a,b],_ =>
  have f0 : DataW.trod enc Tryz.prog W 0 (fun _ => true) true n 3 (List.take (Tryz.prog.cellsOf 3) [a,b]) = xs[0]? := hf 0 _ rfl
  have f1 : DataW.trod enc Tryz.prog W 0 (fun _ => true) true n 22 (List.take (Tryz.prog.cellsOf 22) [b]) = xs[1]? := hf 1 _ rfl
  rw [e3'] at f0
  rw [e22'] at f1
  have hx : xs.length = 2 := hxl
  match xs,hx with
  | [x0,x1],_ =>
   obtain ⟨k,k0,_,_⟩ := DataW.trod_int Tryz.underlying3 f0
   simp at k0
   subst k0
   obtain ⟨F,l,h1,h2⟩ := in_slice (en := encCP) (x := x1) Tryz.underlying22 e77' (by decide) (fun _ => rfl) (fun n cs y h => in_copy h) f1
   refine ⟨⟨k,F,l,h2⟩,?_⟩
   simp only [VR]
   exact ⟨_,rfl,VRL.cons (by simp only [VR]) (VRL.cons h1 (VRL.nil_iff.2 rfl))⟩
end
end Go.Den.Ve
end
section
namespace Go.Den.Ve
theorem bef_end {l m : List Int} {i : Nat} (ht : l.take i = m.take i) (h1 : i ≤ l.length) (h2 : i ≤ m.length) (h : i = l.length ∨ i = m.length) : bef l m = decide ((l.length : Int) < m.length) := by
 have hbd : bef l m = bef (l.drop i) (m.drop i) := by
  conv => lhs;rw [← List.take_append_drop i l,← List.take_append_drop i m,ht]
  exact bef_pre _ _ _
 have e1 : (l.drop i).length = l.length - i := List.length_drop
 have e2 : (m.drop i).length = m.length - i := List.length_drop
 rw [hbd]
 cases hl : l.drop i with
 | nil =>
  rw [hl] at e1
  cases hm : m.drop i with
  | nil => rw [hm] at e2;simp at e1 e2;simp [bef];omega
  | cons y m' => rw [hm] at e2;simp at e1 e2;simp [bef];omega
 | cons x l' =>
  rw [hl] at e1
  cases hm : m.drop i with
  | nil => rw [hm] at e2;simp at e1 e2;simp [bef];omega
  | cons y m' => rw [hm] at e2;simp at e1 e2;omega
theorem bef_at {l m : List Int} {i : Nat} (ht : l.take i = m.take i) (h1 : i < l.length) (h2 : i < m.length) (h : l[i] ≠ m[i]) : bef l m = decide (l[i] < m[i]) := by
 have hbd : bef l m = bef (l.drop i) (m.drop i) := by
  conv => lhs;rw [← List.take_append_drop i l,← List.take_append_drop i m,ht]
  exact bef_pre _ _ _
 rw [hbd,List.drop_eq_getElem_cons h1,List.drop_eq_getElem_cons h2,bef,if_neg h]
set_option maxHeartbeats 1000000 in
theorem c49 (F G : PV) (l m : List Int) (hF : SlOf 1 encI F l) (hG : SlOf 1 encI G m) (hN : l.length < 1000000) (st : St) : Cl EE (.func 49 [] []) [F,G] st (.ret (.bool (bef l m))) st := by
 have hFs := hF.slen
 have hGs := hG.slen
 refine cF2 pr49 fn49 (fun tm hl h0 h1 => ?_)
 refine go2 (bw3 hl h0 h1) fnil ?_
 refine wp_for [5] (fun i vs st1 => vs = [iv i] ∧ i ≤ l.length ∧ i ≤ m.length ∧ l.take i = m.take i ∧ st1 = { heap := st.heap,lo := st.heap.length }) (fun i => l.length - i) ⟨(sR hl),Nat.zero_le _,Nat.zero_le _,rfl,rfl⟩ ?_
 rintro i tm1 st1 ⟨hv,hi,hi2,ht,rfl⟩ hS
 simp only [List.map_cons,List.map_nil,List.cons.injEq,and_true] at hv
 have hl1 : tm1.length = 41 := lN hS hl;have i0 : tg tm1 0 = F := tQ hS (bw3 hl h0 h1);have i1 : tg tm1 1 = G := tQ hS (bw3 hl h0 h1);clear hS
 cases d1 : decide ((i : Int) < l.length)
 ·have := of_decide_eq_false d1
  refine go2 (bw5 hl1 hv i0 hFs d1) fnil ?_
  refine ⟨false,(sG hl1),fun _ => ?_,fun hb => by cases hb⟩
  rw [bef_end ht hi hi2 (by omega)]
  refine go2 (bw5 hl1 i0 i1 hFs hGs) fnil ?_
  exact fQ hl1
 have hlt : i < l.length := by have := of_decide_eq_true d1;omega
 cases d2 : decide ((i : Int) < m.length)
 ·have := of_decide_eq_false d2
  refine go2 (bw8 hl1 hv i0 i1 hFs hGs d1 d2) fnil ?_
  refine ⟨false,(sG hl1),fun _ => ?_,fun hb => by cases hb⟩
  rw [bef_end ht hi hi2 (by omega)]
  refine go2 (bw5 hl1 i0 i1 hFs hGs) fnil ?_
  exact fQ hl1
 have hlt2 : i < m.length := by have := of_decide_eq_true d2;omega
 have hw1 : IntKind.wrap .i64 ((i : Int) + 1) = ((i + 1 : Nat) : Int) := wrap_nat (n := i + 1) (by omega)
 refine go2 (bw8 hl1 hv i0 i1 hFs hGs d1 d2) fnil ?_
 refine ⟨true,(sG hl1),(fun hb => by cases hb),fun _ => ⟨by omega,?_⟩⟩
 cases hx : (l[i] != m[i])
 ·refine go2 (bw6 hl1 hv i0 i1 hw1 hx) fnil ?_
  exact ⟨(sG hl1),by omega,by omega,take_snoc_eq hlt hlt2 ht (bne_eq_false_iff_eq.1 hx),rfl⟩
 ·rw [bef_at ht hlt hlt2 (bne_iff_ne.1 hx)]
  refine go2 (bw5 hl1 hv i0 i1 hx) fnil ?_
  exact fQ hl1
theorem c89 (F G : PV) (l m : List Int) (hF : SlOf 1 encI F l) (hG : SlOf 1 encI G m) (hN : l.length < 1000000) (st : St) : Cl EE (.func 89 [] []) [F,G] st (.ret (.bool (before l m))) st := by
 have hFs := hF.slen
 have hGs := hG.slen
 have k49 := fun st => c49 F G l m hF hG hN st
 refine cF2 pr89 fn89 (fun tm hl h0 h1 => ?_)
 cases hd : ((l.length : Int) != (m.length : Int))
 ·have hlm : l.length = m.length := by have := bne_eq_false_iff_eq.1 hd;omega
  rw [before,if_pos hlm]
  refine go2 (bw6 hl h0 h1 hFs hGs hd) (bw k49 fnil) ?_
  exact fQ hl
 ·have hlm : l.length ≠ m.length := by have := bne_iff_ne.1 hd;omega
  have e : before l m = decide ((l.length : Int) < m.length) := by rw [before,if_neg hlm,decide_eq_decide];omega
  rw [e]
  refine go2 (bw6 hl h0 h1 hFs hGs hd) fnil ?_
  exact fQ hl
theorem levC (a b : Int) (l m : List Int) : lev (a :: l) (b :: m) = if a = b then lev l m else 1 + min (lev l m) (min (lev l (b :: m)) (lev (a :: l) m)) := by
 by_cases e : a = b
 ·subst e;rw [if_pos rfl,lev_keep]
 ·rw [if_neg e,lev_other e]
set_option maxHeartbeats 4000000 in
theorem c32n : ∀ (n : Nat) (L M : PV) (l m : List Int),SlOf 1 encI L l → SlOf 1 encI M m → l.length + m.length ≤ n → n ≤ 1000 → ∀ st,Cl EE (.func 32 [] []) [L,M] st (.ret (iv (lev l m : Nat))) st := by
 intro n
 induction n with
 | zero =>
  intro L M l m hL hM hn _ st
  have hLs := hL.slen
  have hMs := hM.slen
  have z1 : ((l.length : Int) == 0) = true := by simp;cases l <;> simp at hn ⊢
  have hl0 : l = [] := by cases l <;> simp at hn ⊢
  rw [hl0,lev_nil]
  refine cF2 pr32 fn32 (fun tm hl h0 h1 => ?_)
  refine go2 (bw6 hl h0 h1 hLs hMs z1) fnil ?_
  exact fQ hl
 | succ n ih =>
  intro L M l m hL hM hn hn2 st
  have hLs := hL.slen
  have hMs := hM.slen
  refine cF2 pr32 fn32 (fun tm hl h0 h1 => ?_)
  cases hz : ((l.length : Int) == 0)
  case true =>
   have hl0 : l = [] := by have := eq_of_beq hz;cases l with
    | nil => rfl
    | cons a l => simp at this;omega
   rw [hl0,lev_nil]
   refine go2 (bw6 hl h0 h1 hLs hMs hz) fnil ?_
   exact fQ hl
  cases hy : ((m.length : Int) == 0)
  case true =>
   have hm0 : m = [] := by have := eq_of_beq hy;cases m with
    | nil => rfl
    | cons a l => simp at this;omega
   rw [hm0,lev_len]
   refine go2 (bw7 hl h0 h1 hLs hMs hz hy) fnil ?_
   exact fQ hl
  have hl0 : 0 < l.length := by have := beq_eq_false_iff_ne.1 hz;omega
  have hm0 : 0 < m.length := by have := beq_eq_false_iff_ne.1 hy;omega
  have el : l = l[0] :: l.tail := by cases l with
   | nil => simp at hl0
   | cons a l => rfl
  have em : m = m[0] :: m.tail := by cases m with
   | nil => simp at hm0
   | cons a l => rfl
  have etl : (l.drop 1).take (l.length - 1) = l.tail := by rw [List.drop_one,List.take_of_length_le (by simp)]
  have etm : (m.drop 1).take (m.length - 1) = m.tail := by rw [List.drop_one,List.take_of_length_le (by simp)]
  have hlev := levC l[0] m[0] l.tail m.tail
  rw [← el,← em] at hlev
  have hltl : l.tail.length = l.length - 1 := by simp
  have hmtl : m.tail.length = m.length - 1 := by simp
  have hz0 : ((0 : Nat) : Int) = 0 := rfl
  refine go2 (bw7 hl h0 h1 hLs hMs hz hy) fnil ?_
  refine wopsD_slice (n := 1) (m := l.length) (by simp only [];omega) rfl rfl (sR hl) hL (by rfl) (by simp only [↓reduceIte,go_sem,hl,bound];first | done | rfl) (by omega) (by omega) ?_
  intro T1 hT1
  rw [etl] at hT1
  refine go2 (bw3 hl h0 h1) fnil ?_
  refine wopsD_slice (n := 1) (m := m.length) (by simp only [];omega) rfl rfl (sR hl) hM (by rfl) (by simp only [↓reduceIte,go_sem,hl,bound];first | done | rfl) (by omega) (by omega) ?_
  intro T2 hT2
  rw [etm] at hT2
  have k1 := fun st => ih T1 T2 l.tail m.tail hT1 hT2 (by omega) (by omega) st
  cases hx : (l[0] == m[0])
  ·have hne := beq_eq_false_iff_ne.1 hx
   rw [if_neg hne] at hlev
   have b1 := lev_max l.tail m.tail
   have b2 := lev_max l.tail m
   have b3 := lev_max l m.tail
   refine go2 (bw4 hl h0 h1 hx) (bw k1 fnil) ?_
   refine wopsD_slice (n := 1) (m := l.length) (by simp only [];omega) rfl rfl (sR hl) hL (by rfl) (by simp only [↓reduceIte,go_sem,hl,bound];first | done | rfl) (by omega) (by omega) ?_
   intro T3 hT3
   rw [etl] at hT3
   have k2 := fun st => ih T3 M l.tail m hT3 hM (by omega) (by omega) st
   refine go2 (bw3 hl h0 h1) (bw k2 fnil) ?_
   refine wopsD_slice (n := 1) (m := m.length) (by simp only [];omega) rfl rfl (sR hl) hM (by rfl) (by simp only [↓reduceIte,go_sem,hl,bound];first | done | rfl) (by omega) (by omega) ?_
   intro T4 hT4
   rw [etm] at hT4
   have k3 := fun st => ih L T4 l m.tail hL hT4 (by omega) (by omega) st
   have hw : IntKind.wrap .i64 (1 + ((min (lev l.tail m.tail) (min (lev l.tail m) (lev l m.tail)) : Nat) : Int)) = ((lev l m : Nat) : Int) := by
    rw [hlev]
    exact wrap1 (by omega)
   refine go2 (bw5 hl h0 h1 hw mm3N) (bw k3 fnil) ?_
   exact fQ hl
  ·rw [if_pos (eq_of_beq hx)] at hlev
   rw [hlev]
   refine go2 (bw4 hl h0 h1 hx) (bw k1 fnil) ?_
   exact fQ hl
theorem c32 (L M : PV) (l m : List Int) (hL : SlOf 1 encI L l) (hM : SlOf 1 encI M m) (hl : l.length ≤ 100) (hm : m.length ≤ 100) (st : St) : Cl EE (.func 32 [] []) [L,M] st (.ret (iv (lev l m : Nat))) st := c32n 200 L M l m hL hM (by omega) (by omega) st
end Go.Den.Ve
end
section
namespace Go.Den.Ve
theorem CP.okl {b : BP} (h : OkB b.bk) {c : CP} (hc : c ∈ b.cs) : c.ls.length = lines1 b.bk ∧ ∀ x ∈ c.ls,lineB b.words x.l = true ∧ (x.lost = true → x.l = []) := by
 obtain ⟨h1,h2⟩ := h.all c.c (List.mem_map.2 ⟨c,hc,rfl⟩)
 exact ⟨by simpa using h1,fun x hx => h2 x.ln (List.mem_map.2 ⟨x,hx,rfl⟩)⟩
theorem line4 {w : Int} {l : List Int} (h : lineB w l = true) : l.length ≤ 4 := (lineB_iff.1 h).1
theorem c26y (b : BP) (hB : OkB b.bk) (L1 L2 : PV) (l1 l2 : List Int) (hL1 : SlOf 1 encI L1 l1) (hL2 : SlOf 1 encI L2 l2) (h1 : lineB b.words l1 = true) (h2 : lineB b.words l2 = true) (st : St) : Cl EE (.func 26 [] []) [b.pv,L1,L2] st (.ret (.tuple [iv (lev l1 l2 : Nat),iv 0])) st := by
 have := c26 b hB.sm L1 L2 l1 l2 hL1 hL2 st
 rw [if_pos (by rw [bookB_iff.2 hB,h1,h2];rfl)] at this
 exact this
theorem lev4 {w : Int} {l m : List Int} (h1 : lineB w l = true) (h2 : lineB w m = true) : lev l m ≤ 4 := by
 have := lev_max l m
 have := line4 h1
 have := line4 h2
 omega
theorem c40 (b : BP) (hw : OkW b.words) (F : PV) (X : List (List Int)) (hF : SlOf 1 encL F X) (hX : ∀ x ∈ X,lineB b.words x = true) (hs : X.Pairwise (fun x y => before x y = true)) (hN : X.length ≤ 121) (st : St) : Cl EE (.func 40 [] []) [b.pv,F] st (.ret (.bool true)) st := by
 have hFs := hF.slen
 have hB := b.h
 refine cF2 pr40 fn40 (fun tm hl h0 h1 => ?_)
 refine go2 (bw hl h0) fnil ?_
 refine wp_for [5] (fun i vs S => vs = [iv i] ∧ i ≤ X.length ∧ S = ({ heap := st.heap,lo := st.heap.length } : St).push (.var [iv b.words,b.v])) (fun i => X.length - i) ⟨(sR hl),Nat.zero_le _,rfl⟩ ?_
 rintro i tm1 S ⟨hv,hi,rfl⟩ hS
 simp only [List.map_cons,List.map_nil,List.cons.injEq,and_true] at hv
 have hl1 : tm1.length = 43 := lN hS hl;have i1 : tg tm1 1 = F := tQ hS (bw hl h1);have i2 : tg tm1 2 = .ptr st.heap.length 0 := tQ hS (bw hl h1);clear hS
 cases d1 : decide ((i : Int) < X.length)
 ·refine go2 (bw5 hl1 hv i1 hFs d1) fnil ?_
  refine ⟨false,(sG hl1),fun _ => ?_,fun hb => by cases hb⟩
  have d3 : decide ((X.length : Int) ≤ 121) = true := decide_eq_true (by omega)
  refine go2 (bw4 hl1 i1 hFs d3) fnil ?_
  exact fQ hl1
 have hlt : i < X.length := by have := of_decide_eq_true d1;omega
 have d2 : decide ((i : Int) < 200) = true := decide_eq_true (by omega)
 have hw1 : IntKind.wrap .i64 ((i : Int) + 1) = ((i + 1 : Nat) : Int) := wrap_nat (n := i + 1) (by omega)
 refine go2 (bw6 hl1 hv i1 hFs d1 d2) fnil ?_
 refine ⟨true,(sG hl1),(fun hb => by cases hb),fun _ => ⟨by omega,?_⟩⟩
 have hx := hX _ (List.getElem_mem hlt)
 have k24 := fun st => c24 b.words b.v b.cells b.isCell hw (elL X[i]) X[i] (el_sl _) (by have := line4 hx;omega) st
 rw [hx] at k24
 cases d4 : decide ((i : Int) > 0)
 ·refine go2 (bw6 hl1 hv i1 i2 d4 hw1) (bw k24 fnil) ?_
  exact ⟨(sG hl1),by omega,rfl⟩
 ·have h0i : 0 < i := by have := of_decide_eq_true d4;omega
  have hw2 : IntKind.wrap .i64 ((i : Int) - 1) = ((i - 1 : Nat) : Int) := by rw [wrap_in (by unfold inI;omega)];omega
  have hlt' : i - 1 < X.length := by omega
  have hb' : before X[i - 1] X[i] = true := by
   rw [List.pairwise_iff_getElem] at hs
   exact hs (i - 1) i hlt' hlt (by omega)
  have hx' := hX _ (List.getElem_mem hlt')
  have k89 := fun st => c89 (elL X[i - 1]) (elL X[i]) X[i - 1] X[i] (el_sl _) (el_sl _) (by have := line4 hx';omega) st
  rw [hb'] at k89
  refine go2 (bw7 hl1 hv i1 i2 d4 hw1 hw2) (bw3 k24 k89 fnil) ?_
  exact ⟨(sG hl1),by omega,rfl⟩
theorem c41 (F L : PV) (X : List (List Int)) (l : List Int) (hF : SlOf 1 encL F X) (hL : SlOf 1 encI L l) (hN : X.length < 1000000) (hNX : ∀ x ∈ X,x.length < 1000000) (st : St) : Cl EE (.func 41 [] []) [F,L] st (.ret (.bool (X.any fun x => x == l))) st := by
 have hFs := hF.slen
 refine cF2 pr41 fn41 (fun tm hl h0 h1 => ?_)
 refine go2 (bw hl h0) fnil ?_
 refine wp_for [5] (fun i vs S => vs = [iv i] ∧ i ≤ X.length ∧ (∀ x ∈ X.take i,(x == l) = false) ∧ S = { heap := st.heap,lo := st.heap.length }) (fun i => X.length - i) ⟨(sR hl),Nat.zero_le _,by simp,rfl⟩ ?_
 rintro i tm1 S ⟨hv,hi,hall,rfl⟩ hS
 simp only [List.map_cons,List.map_nil,List.cons.injEq,and_true] at hv
 have hl1 : tm1.length = 18 := lN hS hl;have i0 : tg tm1 0 = F := tQ hS (bw3 hl h0 h1);have i1 : tg tm1 1 = L := tQ hS (bw3 hl h0 h1);clear hS
 refine go2 (bw4 hl1 hv i0 hFs) fnil ?_
 refine ⟨decide ((i : Int) < X.length),(sG hl1),fun hb => ?_,fun hb => ?_⟩
 ·have hlt := of_decide_eq_false hb
  have hin : i = X.length := by omega
  rw [hin,List.take_length] at hall
  have e : (X.any fun x => x == l) = false := List.any_eq_false.2 fun x hx => by rw [hall x hx];simp
  rw [e]
  refine go2 hl1 fnil ?_
  exact fQ hl1
 ·have hlt : i < X.length := by have := of_decide_eq_true hb;omega
  have hw1 : IntKind.wrap .i64 ((i : Int) + 1) = ((i + 1 : Nat) : Int) := wrap_nat (n := i + 1) (by omega)
  refine ⟨by omega,?_⟩
  have k27 := fun st => c27 (elL X[i]) L X[i] l (el_sl _) hL (hNX _ (List.getElem_mem hlt)) st
  cases hx : (X[i] == l)
  ·rw [hx] at k27
   refine go2 (bw6 hl1 hv i0 i1 hw1 hx) (bw k27 fnil) ?_
   refine ⟨(sG hl1),by omega,fun x hm => ?_,rfl⟩
   rw [List.take_succ_eq_append_getElem hlt] at hm
   rcases List.mem_append.1 hm with hm | hm
   ·exact hall x hm
   ·rw [List.mem_singleton.1 hm];exact hx
  ·have e : (X.any fun x => x == l) = true := List.any_eq_true.2 ⟨X[i],List.getElem_mem hlt,hx⟩
   rw [e]
   rw [hx] at k27
   refine go2 (bw5 hl1 hv i0 i1 hx) (bw k27 fnil) ?_
   exact fQ hl1
def costK (b : BK) (i : Nat) (l : List Int) (k : Nat) : Int := ((b.copies.take k).map fun c => takenI l (c.getD i ⟨true,[]⟩)).sum
theorem costK_all (b : BK) (i : Nat) (l : List Int) : costK b i l b.copies.length = cost1 b i l := by rw [costK,List.take_length];rfl
theorem costK_succ (b : BP) (i : Nat) (l : List Int) {k : Nat} (hk : k < b.cs.length) (hi : i < b.cs[k].ls.length) : costK b.bk i l (k + 1) = costK b.bk i l k + takenI l b.cs[k].ls[i].ln := by
 unfold costK
 have hk' : k < b.bk.copies.length := by simpa using hk
 rw [List.take_succ_eq_append_getElem hk',List.map_append,List.sum_append_int,List.map_singleton,List.sum_singleton]
 congr 2
 have : b.bk.copies[k] = b.cs[k].c := by simp
 rw [this,List.getD_eq_getElem?_getD,List.getElem?_map,List.getElem?_eq_getElem hi];rfl
theorem taken4 {w : Int} {l : List Int} {x : LP} (h1 : lineB w l = true) (h2 : lineB w x.l = true) : 0 ≤ takenI l x.ln ∧ takenI l x.ln ≤ 4 := by
 refine ⟨taken_nn _ _,?_⟩
 unfold takenI
 have := lev4 h1 h2
 split
 ·omega
 ·show ((lev l x.l : Nat) : Int) ≤ 4
  omega
theorem costK_in (b : BP) (hB : OkB b.bk) {i : Nat} (hi : i < lines1 b.bk) {l : List Int} (hl : lineB b.words l = true) : ∀ {k : Nat},k ≤ b.cs.length → 0 ≤ costK b.bk i l k ∧ costK b.bk i l k ≤ 4 * k
 | 0,_ => by simp [costK]
 | k + 1,hk => by
  have h1 := costK_in b hB hi hl (k := k) (by omega)
  have hc := CP.okl hB (List.getElem_mem (h := show k < b.cs.length by omega))
  have hik : i < b.cs[k].ls.length := by omega
  have h2 := taken4 (x := b.cs[k].ls[i]) hl (hc.2 _ (List.getElem_mem hik)).1
  rw [costK_succ b i l (by omega) hik]
  omega
def briefS (X : List SI) : Bool := decide (X.length ≤ 6) && X.all fun x => decide (x.l.length ≤ 6)
theorem ints_lowC (l : List Int) (m : Nat) (c : PV) (hc : c ∈ l.flatMap encI) : PV.low m c = true := encI_low _ _ _ hc
end Go.Den.Ve
end

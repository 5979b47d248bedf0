/- Part of the proofs of laws of the package chest. Texts: DenArr, DenForeign, DenAny, DenAuto. -/
import Derived.Test.YtoeigapilcgelaaGreatDoorK8Ai
import Derived.Test.YtoeigapilcgelaaGreatDoorK8Ag
set_option linter.unusedSimpArgs false
set_option linter.unusedVariables false
section
namespace Go.Den
def OwnH (m : Nat) (st : St) (sz : Nat) (v : PV) (n : Nat) (cs : List PV) : Prop :=
 cs.length = n * sz ∧ ((n = 0 ∧ v = .nilslice) ∨ ∃ t,v = .hslice t sz n ∧ m ≤ t ∧ hp st t = some (.arr cs))
theorem OwnH.keep {m : Nat} {st st' : St} {sz : Nat} {v : PV} {n : Nat} {cs : List PV} (h : OwnH m st sz v n cs) (hk : ∀ t cs,m ≤ t → hp st t = some (.arr cs) → hp st' t = some (.arr cs)) : OwnH m st' sz v n cs :=
 ⟨h.1,h.2.imp id fun ⟨t,h2,h3,h4⟩ => ⟨t,h2,h3,hk t _ h3 h4⟩⟩
theorem OwnH.cells {m : Nat} {st : St} {sz : Nat} {v : PV} {n : Nat} {cs : List PV} (h : OwnH m st sz v n cs) : v.cells = [v] ∧ v.isCell = true ∧ v.slen = some n := by
 obtain ⟨_,⟨rfl,rfl⟩ | ⟨t,rfl,_,_⟩⟩ := h <;> exact ⟨rfl,rfl,rfl⟩
section
variable {E : Env} {Q : Ex → List PV → St → Prop} {tm : List PV} {st : St}
theorem wops_appendH {sz : Nat} {x y : Opd} {dst : Option Nat} {g : Option (Nat × Bool)} {os : List DOper} {b : Bool} {m n k : Nat} {v w : PV} {cs ys : List PV} (hw : wants tm g = b) (hb : b = true) (hx : x.ev tm = v) (hy : y.ev tm = w) (ho : OwnH m st sz v n cs) (hyl : w.sl = some (k,ys)) (hm : m ≤ st.heap.length) (hk : k ≠ 0) (hl : ys.length = k * sz) (hc : ys.all PV.isCell = true) (hn : n + k ≤ maxList)
  (h : ∀ st',hp st' st.heap.length = some (.arr (cs ++ ys)) → st'.heap.length = st.heap.length + 1 → Fr m st st' → (∀ l o,hp st l = some o → isKept o = true → hp st' l = some o) → WOps E os Q (put tm dst (.hslice st.heap.length sz (n + k))) st') : WOps E (⟨.append true sz x y,dst,g⟩ :: os) Q tm st := by
 obtain ⟨o,rfl⟩ : ∃ o,w = .slice o k ys := by
  cases w <;> simp only [PV.sl,Option.some.injEq,Prod.mk.injEq,reduceCtorEq] at hyl
  ·obtain ⟨rfl,rfl⟩ := hyl;exact ⟨_,rfl⟩
  ·omega
 obtain ⟨h0,⟨rfl,rfl⟩ | ⟨t,rfl,h3,h4⟩⟩ := ho
 ·have hcs : cs = [] := by simpa using h0
  subst hcs
  refine wops_one (v := .hslice st.heap.length sz (0 + k)) (st1 := st.push (.arr ys)) (hw.trans hb) (fun rec => ?_) (h _ (by rw [hp_push,if_pos rfl];rfl) (len_push _ _) ((Fr.refl m st).push hm) (fun l o hl _ => (HExt.push st _).hp hl))
  simp only [stepOp,hx,hy]
  delta doAppend
  simp only [hl,hc,and_self,if_true,hk,if_false]
  rw [if_pos (by omega),Nat.zero_add]
  rfl
 ·have ht := hp_lt h4
  refine wops_one (v := .hslice st.heap.length sz (n + k)) (st1 := (setVar st t (.tag false)).push (.arr (cs ++ ys))) (hw.trans hb) (fun rec => ?_) (h _ (by rw [hp_push,if_pos (by rw [len_setVar])]) (by rw [len_push,len_setVar]) (((Fr.refl m st).setVar h3).push (by rw [len_setVar];exact hm)) (fun l o hl hko => ?_))
  ·simp only [stepOp,hx,hy]
   delta doAppend
   have h5 : st.heap[t]? = some (.arr cs) := h4
   simp only [hl,hc,and_self,if_true,hk,if_false,h5]
   rw [if_pos ⟨trivial,h0,hn⟩]
   rfl
  ·refine (HExt.push (setVar st t (.tag false)) _).hp (hp_set_other hl ?_)
   rintro rfl
   rw [h4] at hl
   cases hl
   cases hko
end
theorem op_indexAddr {E : Env} {rec : Rec} {tm : List PV} {st : St} {sz : Nat} {x i : Opd} {l n : Nat} {k : IntKind} {j : Nat} (hx : x.ev tm = .hslice l sz n) (hi : i.ev tm = .int k j) (hj : j < n) : stepOp E rec tm st (.indexAddr sz x i) = some (.val (.aptr l (j * sz)) st) := by
 simp only [stepOp,hx,hi]
 rw [if_pos ⟨trivial,by omega,by omega⟩]
 simp
theorem finish_hT {st st1 : St} {sz : Nat} {v : PV} {vs : List PV} {n : Nat} {cs : List PV} (hv : OwnH st.heap.length st1 sz v n cs) (hvs : vs.all PV.flat = true) (hlo : st.heap.length ≤ st1.lo) (hi : cs.all PV.isCell = true) (hc : ∀ m,lowL m (cs.map PV.share) = true) : ∃ v',(finishCall st st1 (.tuple (v :: vs))).1 = .tuple (v' :: vs) ∧ RetW st n (cs.map PV.share) v' (finishCall st st1 (.tuple (v :: vs))).2 := by
 obtain ⟨h0,⟨rfl,rfl⟩ | ⟨t,rfl,h3,h4⟩⟩ := hv
 ·have hcs : cs = [] := by simpa using h0
  subst hcs
  exact finish_slT rfl hvs hlo (fun m => rfl)
 ·have h5 : st1.heap[t]? = some (.arr cs) := h4
  unfold finishCall
  rw [if_pos hlo]
  have : letGo st.heap.length st1.heap (.tuple (.hslice t sz n :: vs)) = some (.tuple (.slice (.tag st.heap.length sz) n (cs.map PV.share) :: vs),1) := by
   have ht := hp_lt h4
   simp only [letGo,freezeL,freeze1,Nat.not_lt.2 h3,if_false,h5,hi,if_true,flats_freeze hvs,retagL,retag1,hc,List.contains_nil,Bool.false_eq_true]
   have : (st1.heap.set t (.tag true))[t]? = some (.tag true) := by simp [ht]
   simp only [this,List.contains_nil,Bool.false_eq_true,if_false,flats_retag hvs]
   simp
  rw [this]
  exact ⟨_,rfl,rfl,.inr rfl⟩
end Go.Den
namespace Go.Den
def idxR (sz : Nat) (x i : PV) (st : St) : Option OpR := match x,i with
 | .slice _ n cs,.int _ i => if 0 ≤ i ∧ i < n then some (.val (.cptr ((cs.drop (i.toNat * sz)).take sz)) st) else none
 | .hslice l sz' n,.int _ i => if sz' = sz ∧ 0 ≤ i ∧ i < n then some (.val (.aptr l (i.toNat * sz)) st) else none
 | _,_ => none
theorem op_indexAddrM {E : Env} {rec : Rec} {tm : List PV} {st : St} {sz : Nat} {x i : Opd} : stepOp E rec tm st (.indexAddr sz x i) = idxR sz (x.ev tm) (i.ev tm) st := by
 simp only [stepOp,idxR]
 cases x.ev tm <;> cases i.ev tm <;> rfl
theorem idxR_h {sz l n : Nat} {k : IntKind} {j : Nat} {st : St} : idxR sz (.hslice l sz n) (.int k j) st = if j < n then some (.val (.aptr l (j * sz)) st) else none := by
 simp only [idxR,true_and,Int.toNat_natCast]
 by_cases h : j < n
 ·rw [if_pos ⟨by omega,by omega⟩,if_pos h]
 ·rw [if_neg (by omega),if_neg h]
end Go.Den
namespace Go.Den
theorem footOk_q {fs : List Foot} {free : List (Nat × List Nat)} (h : ∀ p ∈ free,∀ j ∈ p.2,fs[j]? = some .quiet ∨ fs[j]? = none) : footOk fs free = true := by
 simp only [footOk,List.all_eq_true]
 intro p hp
 split
 ·simp only [List.all_eq_true]
  intro j hj
  rcases h p hp j hj with h1 | h1 <;> rw [h1] <;> rfl
 ·rfl
theorem HExt.fr {a b c : St} (h : HExt a.heap b.heap) (hf : Fr a.heap.length b c) : HExt a.heap c.heap := ⟨Nat.le_trans h.1 hf.len,fun l hl => (hf.old l hl).trans (h.2 l hl)⟩
theorem HExt.setVar {a : List HObj} {b : St} {l : Nat} {o : HObj} (h : HExt a b.heap) (hl : a.length ≤ l) : HExt a (setVar b l o).heap := ⟨by rw [len_setVar];exact h.1,fun i hi => by
 have := hp_setVar b l i o
 rw [if_neg (by omega)] at this
 exact this.trans (h.2 i hi)⟩
theorem HExt.set {a b : List HObj} {l : Nat} {o : HObj} (h : HExt a b) (hl : a.length ≤ l) : HExt a (b.set l o) := ⟨by rw [List.length_set];exact h.1,fun i hi => by
 rw [List.getElem?_set_ne (by omega)];exact h.2 i hi⟩
end Go.Den
namespace Go.Den
theorem wopsD_append' {E : Env} {QD : Ex → List PV → St → List Foot → Prop} {tm : List PV} {st : St} {sz : Nat} {x y : Opd} {dst : Option Nat} {g : Option (Nat × Bool)} {os : List DOper} {b : Bool} {m n k : Nat} {v w : PV} {cs ys : List PV} (hlo : st.lo ≤ st.heap.length) (hw : wants tm g = b) (hb : b = true) (hx : x.ev tm = v) (hy : y.ev tm = w) (ho : OwnS m st sz v n cs) (hyl : w.sl = some (k,ys)) (hm : m ≤ st.heap.length) (hl : ys.length = k * sz) (hc : ys.all PV.isCell = true) (hn : n + k ≤ maxList)
  (h : ∀ v' st' ft,(∀ l,l < m → clash l ft = false) → OwnS m st' sz v' (n + k) (cs ++ ys.map PV.share) → Fr m st st' → (∀ l o,hp st l = some o → (∀ b,o ≠ .tag b) → hp st' l = some o) → WOpsD E os (fun e tm' st'' fs => QD e tm' st'' (ft :: fs)) (put tm dst v') st') : WOpsD E (⟨.append false sz x y,dst,g⟩ :: os) QD tm st := by
 have ho' : OwnS m { st with lo := st.heap.length } sz v n cs := ho.keep fun _ _ h => h
 obtain ⟨v',st1,h1,h2,h3,h4⟩ := ho'.append hm hl hc hn
 have h5 := h3.lo
 simp only at h5
 refine wopsD_cons (v := v') (st1 := st1) (hw.trans hb) 0 (fun n _ => ?_) ?_
 ·simp only [stepOp,hx,hy]
  cases w <;> simp only [PV.sl,Option.some.injEq,Prod.mk.injEq,reduceCtorEq] at hyl
  ·obtain ⟨rfl,rfl⟩ := hyl;exact h1
  ·obtain ⟨rfl,rfl⟩ := hyl;exact h1
 ·refine h v' { st1 with lo := min st.lo st1.lo } _ (fun l hl => ?_) (h2.keep fun _ _ h => h) ⟨h3.len,?_,h3.old,Nat.min_le_left _ _⟩ h4
  ·simp only [footOf]
   split
   ·rfl
   ·simp only [clash,decide_eq_false_iff_not];omega
  ·show min m st.lo ≤ min st.lo st1.lo
   omega
theorem wopsD_callR {E : Env} {QD : Ex → List PV → St → List Foot → Prop} {tm : List PV} {st : St} {f : Opd} {args : List Opd} {dst : Option Nat} {g : Option (Nat × Bool)} {os : List DOper} {b : Bool} {fv : PV} {P : PV → St → Prop} (hw : wants tm g = b) (hb : b = true) (hf : f.ev tm = fv) (hc : ClR E fv (evs tm args) { st with lo := st.heap.length } P)
  (h : ∀ v st1,P v st1 → ∀ ft,WOpsD E os (fun e tm' st' fs => QD e tm' st' (ft :: fs)) (put tm dst v) { st1 with lo := min st.lo st1.lo }) : WOpsD E (⟨.call f args,dst,g⟩ :: os) QD tm st := by
 obtain ⟨v,st1,⟨N,hN⟩,hP⟩ := hc
 exact wopsD_cons (v := v) (st1 := st1) (hw.trans hb) N (fun n hn => by simp only [stepOp,hf,hN n hn]) (h v st1 hP _)
end Go.Den
end
section
namespace Go.Den
variable {P : Program}
structure Foreign (B0 : Nat) (G : Gh) (w w' : World) (X : Nat → Prop) : Prop where
 size : w.heap.size ≤ w'.heap.size
 same : ∀ b,b < w.heap.size → ¬ X b → w'.heap[b]? = w.heap[b]?
 free : ∀ b,X b → B0 ≤ b ∧ (∀ l,G.be l ≠ some b) ∧ (∀ t e,G.tg t ≠ some (b,e)) ∧ G.cm b = none
 out : w'.os = w.os ∧ w'.output = w.output
 row : ∀ b (arr : Array Value) (T : TypeId) (fr : Nat × Nat),X b → w.heap[b]? = some (Obj.cells arr T fr) → ∃ arr' : Array Value,w'.heap[b]? = some (Obj.cells arr' T fr) ∧ arr'.size = arr.size
theorem Foreign.pres {B0 w0 G h w w' X} (f : Foreign B0 G w w' X) (r : WR P B0 w0 G h w) : Pres G w G w' := by
 refine ⟨id,id,fun x => ⟨_,Nat.le_refl _,x⟩,fun {b arr T fr} x => ?_,fun {b n o} x y => ?_⟩
 ·by_cases hx : X b
  ·exact f.row b arr T fr hx x
  ·exact ⟨arr,by rw [f.same b (lt_of_heap x) hx];exact x,rfl⟩
 ·exact cell_of_heap (f.same b (r.cmLt x) (fun hx => by rw [(f.free b hx).2.2.2] at x;cases x)) o
theorem Foreign.wr {B0 w0 G h w w' X} (f : Foreign B0 G w w' X) (r : WR P B0 w0 G h w) : WR P B0 w0 G h w' := by
 have hp := f.pres r
 refine ⟨r.dom,fun {l b} x => ?_,r.inj,fun {t b e} x => ?_,r.tinj,fun x => hp.hasRow (r.com x),?_,by rw [f.out.1,f.out.2];exact r.out⟩
 ·obtain ⟨a,b1,c,d,o,g1,g2⟩ := r.obj x
  have hb := f.same b b1 (fun hx => (f.free b hx).2.1 l x)
  exact ⟨a,Nat.lt_of_lt_of_le b1 f.size,c,d,o,g1,g2.mono hp hb⟩
 ·obtain ⟨a,b1,c⟩ := r.tag x
  have hb := f.same b b1 (fun hx => (f.free b hx).2.2.1 t e x)
  exact ⟨a,Nat.lt_of_lt_of_le b1 f.size,c.mono hp (fun he => by rw [he] at c;exact c.1) (fun cs he => by rw [he] at c;exact ⟨c.1,hb⟩)⟩
 ·refine ⟨Nat.le_trans r.low.1 f.size,fun b hb => ?_⟩
  rw [f.same b (Nat.lt_of_lt_of_le hb r.low.1) (fun hx => by have := (f.free b hx).1;omega)]
  exact r.low.2 b hb
theorem Foreign.grow {B0 G} {w w' : World} (hs : w.heap.size ≤ w'.heap.size) (h : ∀ b,b < w.heap.size → w'.heap[b]? = w.heap[b]?) (ho : w'.os = w.os ∧ w'.output = w.output) : Foreign B0 G w w' (fun _ => False) :=
 ⟨hs,fun b hb _ => h b hb,fun _ hx => hx.elim,ho,fun _ _ _ _ hx => hx.elim⟩
theorem Ext.foreign {B0 w0 G h w G' h' w2 w3 lo X} (x : Ext G h w G' h' w2 lo) (r : WR P B0 w0 G' h' w2) (f : Foreign B0 G' w2 w3 X) (hX : ∀ b,X b → w.heap.size ≤ b) : Ext G h w G' h' w3 lo := by
 have hp := f.pres r
 have hb : ∀ b,b < w.heap.size → w3.heap[b]? = w2.heap[b]? := fun b hb => f.same b (Nat.lt_of_lt_of_le hb x.size) (fun hx => by have := hX b hx;omega)
 have hlt : ∀ {b} {o : Obj},w.heap[b]? = some o → b < w.heap.size := fun h => lt_of_heap h
 refine ⟨x.pres.trans hp,x.len,x.pre,Nat.le_trans x.size f.size,fun {b} hlt' a b1 c => (hb b hlt').trans (x.frame hlt' a b1 c),fun {l b} hl y => ?_,fun {t b e cs} ht y z => ?_,fun {b rr} hh => ?_,x.nbe,x.ntg,x.ncm⟩
 ·have hy := x.pres.be y
  have hnx : ¬ X b := fun hx => (f.free b hx).2.1 l hy
  rw [f.same b (r.obj hy).2.1 hnx]
  exact x.keep hl y
 ·have hy := x.pres.tg y
  have hnx : ¬ X b := fun hx => (f.free b hx).2.2.1 t e hy
  rw [f.same b (r.tag hy).2.1 hnx]
  exact x.keepT ht y z
 ·obtain ⟨r',h1,h2⟩ := x.loops hh
  exact ⟨r',by rw [hb b (hlt hh)];exact h1,h2⟩
theorem Ext.grow {B0 w0 G h w w' lo} (r : WR P B0 w0 G h w) (f : Foreign B0 G w w' (fun _ => False)) : Ext G h w G h w' lo :=
 (Ext.refl G h w lo).foreign r f (fun _ hx => hx.elim)
theorem shared_row {B0 w0 G h w} (r : WR P B0 w0 G h w) (cs : List PV) (arr : Array Value) (T : TypeId) (hl : cs.length = arr.size) (hlow : ∀ m,lowL m cs = true)
  (hc : ∀ G' w',w'.heap[w.heap.size]? = some (Obj.cells arr T (0,0)) → VRC G' w' cs w.heap.size 0) (n cap : Nat) (hcap : n ≤ cap) :
  ∃ G',WR P B0 w0 G' h (w.alloc (Obj.cells arr T (0,0))) ∧ (∀ lo,Ext G h w G' h (w.alloc (Obj.cells arr T (0,0))) lo) ∧ VR G' (w.alloc (Obj.cells arr T (0,0))) (.slice .shared n cs) (.slice (some ⟨w.heap.size,0,none⟩) n cap) := by
 obtain ⟨h1,h2,h3⟩ := alloc_row r false cs arr T (0,0) (by omega) (Thawed.zero _) (fun G' w' _ hw => hc G' w' hw)
 obtain ⟨k1,k2⟩ := cut_ok (S := []) r (h2 h.length) (Nat.le_refl _) (Fz.refl h1) ⟨by simp,by simp⟩
 refine ⟨_,by simpa using k1,fun lo => by simpa using k2 lo,VR.restr (restr_cut r (h2 h.length) (Fz.refl h1) []) (by simp only [PV.low];exact hlow _) ?_⟩
 simp only [VR]
 refine ⟨w.heap.size,0,cap,rfl,hcap,fun _ => ⟨cs.length,?_,by omega⟩,trivial,h3⟩
 simp only [Bool.false_eq_true,if_false]
 exact upd_same _ _ _
end Go.Den
end
section
namespace Go.Den
def ClA (E : Env) (f : PV) (args : List PV) (st : St) (P : CR → St → Prop) : Prop := ∃ r st',Cl E f args st r st' ∧ P r st'
def FnA (rs : List DRes) (st : St) (P : CR → St → Prop) : Ex → List PV → St → Prop := fun e tm1 st1 => match e with
 | .normal | .ret => ∃ v,results tm1 st1.heap rs = some v ∧ P (.ret (finishCall st st1 v).1) (finishCall st st1 v).2
 | .panic v => P (.panic v) { heap := st1.heap,lo := min st.lo st1.lo }
 | .exit _ => False
theorem cla_fn {E : Env} {st : St} {g : Nat} {a c args : List PV} {n : Nat} {rs : List DRes} {b : DCode} {P : CR → St → Prop} (hp : ∀ rec,E.prim g rec (a ++ args ++ c) st = none) (hf : E.fn g = some ⟨n,rs,b⟩) (k : Nat) (hk : (a ++ args ++ c).length = k) (hkn : k ≤ n)
  (h : ∀ tm,tm.length = n → (∀ i,i < k → tg tm i = (a ++ args ++ c).getD i undef) → Wp E b (FnA rs st P) tm { heap := st.heap,lo := st.heap.length }) : ClA E (.func g a c) args st P := by
 have := h ((a ++ args ++ c) ++ List.replicate (n - (a ++ args ++ c).length) undef) (by simp at hk ⊢;omega) (fun i hi => by
  unfold tg
  rw [List.getD_eq_getElem?_getD,List.getD_eq_getElem?_getD,List.getElem?_append_left (by omega)])
 unfold Wp at this
 obtain ⟨N,e,tm1,st1,h1,h2⟩ := this
 have key : ∀ v,(e = .normal ∨ e = .ret) → results tm1 st1.heap rs = some v → P (.ret (finishCall st st1 v).1) (finishCall st st1 v).2 → ClA E (.func g a c) args st P := by
  intro v he h3 h4
  refine ⟨_,_,cl_of_wp (r := .ret (finishCall st st1 v).1) (st' := (finishCall st st1 v).2) hp hf ?_,h4⟩
  unfold Wp
  refine ⟨N,e,tm1,st1,h1,?_⟩
  rcases he with rfl | rfl <;> exact ⟨v,h3,_,rfl,rfl⟩
 unfold FnA at h2
 cases e with
 | normal => obtain ⟨v,h3,h4⟩ := h2;exact key v (.inl rfl) h3 h4
 | ret => obtain ⟨v,h3,h4⟩ := h2;exact key v (.inr rfl) h3 h4
 | exit i => exact h2.elim
 | panic u =>
  refine ⟨_,_,cl_of_wp (r := .panic u) (st' := { heap := st1.heap,lo := min st.lo st1.lo }) hp hf ?_,h2⟩
  unfold Wp
  exact ⟨N,.panic u,tm1,st1,h1,rfl,rfl⟩
theorem fna_ret {rs : List DRes} {st : St} {P : CR → St → Prop} {tm1 : List PV} {st1 : St} {v : PV} (hr : results tm1 st1.heap rs = some v) (h : P (.ret (finishCall st st1 v).1) (finishCall st st1 v).2) : FnA rs st P .ret tm1 st1 := ⟨v,hr,h⟩
theorem fna_normal {rs : List DRes} {st : St} {P : CR → St → Prop} {tm1 : List PV} {st1 : St} {v : PV} (hr : results tm1 st1.heap rs = some v) (h : P (.ret (finishCall st st1 v).1) (finishCall st st1 v).2) : FnA rs st P .normal tm1 st1 := ⟨v,hr,h⟩
theorem fna_panic {rs : List DRes} {st : St} {P : CR → St → Prop} {tm1 : List PV} {st1 : St} {v : PV} (h : P (.panic v) { heap := st1.heap,lo := min st.lo st1.lo }) : FnA rs st P (.panic v) tm1 st1 := h
attribute [irreducible] FnA
section
variable {E : Env} {Q : Ex → List PV → St → Prop} {tm : List PV} {st : St}
theorem wops_callA {f : Opd} {args : List Opd} {dst : Option Nat} {g : Option (Nat × Bool)} {os : List DOper} {b : Bool} {fv : PV} {P : CR → St → Prop} (hw : wants tm g = b) (hb : b = true) (hf : f.ev tm = fv) (hc : ClA E fv (evs tm args) st P) (h : ∀ v st1,P (.ret v) st1 → WOps E os Q (put tm dst v) st1) (hx : ∀ v st1,P (.panic v) st1 → Q (.panic v) tm st1) : WOps E (⟨.call f args,dst,g⟩ :: os) Q tm st := by
 obtain ⟨r,st1,hcl,hP⟩ := hc
 cases r with
 | ret v => exact wops_call (hw.trans hb) hf hcl (h v st1 hP)
 | panic v =>
  obtain ⟨N,hN⟩ := hcl
  unfold WOps
  refine ⟨N,_,_,_,fun n hn => ?_,hx v st1 hP⟩
  simp only [stepOps,hw,hb,if_true,stepOp,hf,hN n hn]
theorem wopsD_callA {QD : Ex → List PV → St → List Foot → Prop} {f : Opd} {args : List Opd} {dst : Option Nat} {g : Option (Nat × Bool)} {b : Bool} {fv : PV} {P : CR → St → Prop} (hw : wants tm g = b) (hb : b = true) (hf : f.ev tm = fv) (hc : ClA E fv (evs tm args) { st with lo := st.heap.length } P)
  (h : ∀ v st1,P (.ret v) st1 → QD .normal (put tm dst v) { st1 with lo := min st.lo st1.lo } [footOf tm (.call f args) st.heap.length st1.lo]) (hx : ∀ v st1,P (.panic v) st1 → QD (.panic v) tm { st1 with lo := min st.lo st1.lo } [footOf tm (.call f args) st.heap.length st1.lo]) : WOpsD E [⟨.call f args,dst,g⟩] QD tm st := by
 obtain ⟨r,st1,⟨N,hN⟩,hP⟩ := hc
 unfold WOpsD
 cases r with
 | ret v =>
  refine ⟨N,_,_,_,_,fun n hn => ?_,h v st1 hP⟩
  simp only [stepOpsD,hw,hb,if_true,stepOp,hf,hN n hn]
 | panic v =>
  refine ⟨N,_,_,_,_,fun n hn => ?_,hx v st1 hP⟩
  simp only [stepOpsD,hw,hb,if_true,stepOp,hf,hN n hn,List.isEmpty_nil]
theorem step_next {rec : Rec} {x : Opd} {l pos : Nat} {s : ByteArray} (hx : x.ev tm = .ptr l 0) (hl : hp st l = some (.iter s pos)) (hp : pos < s.size) : stepOp E rec tm st (.nextStr x) = some (.val (.tuple [.bool true,.int .i64 pos,.int .i32 (Utf8.decode s pos).1]) (setVar st l (.iter s (pos + (Utf8.decode s pos).2)))) := by
 have h : st.heap[l]? = some (.iter s pos) := hl
 simp only [stepOp,hx,h,hp,if_true]
theorem step_end {rec : Rec} {x : Opd} {l pos : Nat} {s : ByteArray} (hx : x.ev tm = .ptr l 0) (hl : hp st l = some (.iter s pos)) (hp : ¬ pos < s.size) : stepOp E rec tm st (.nextStr x) = some (.val (.tuple [.bool false]) st) := by
 have h : st.heap[l]? = some (.iter s pos) := hl
 simp only [stepOp,hx,h,hp,if_false]
theorem op_rangeStr {rec : Rec} {x : Opd} : stepOp E rec tm st (.rangeStr x) = match x.ev tm with
  | .str s => some (.val (.ptr st.heap.length 0) (st.push (.iter s 0)))
  | _ => none := rfl
end
theorem decode_low (s : ByteArray) (i : Nat) (h : (s.get! i).toNat < 128) : Utf8.decode s i = ((s.get! i).toNat,1) := by
 unfold Utf8.decode
 simp only [Nat.add_zero]
 rw [if_pos h]
theorem decode_high (s : ByteArray) (i : Nat) (h : 128 ≤ (s.get! i).toNat) : 128 ≤ (Utf8.decode s i).1 := by
 unfold Utf8.decode
 simp only [Nat.add_zero]
 rw [if_neg (by omega)]
 have e : 128 ≤ Utf8.runeError := by decide
 split
 ·split
  ·rename_i h;simpa using h
  ·exact e
 ·split
  ·split
   ·rename_i h
    simp only [Bool.and_eq_true,decide_eq_true_eq] at h
    show 128 ≤ _
    omega
   ·exact e
  ·split
   ·split
    ·rename_i h
     simp only [Bool.and_eq_true,decide_eq_true_eq] at h
     show 128 ≤ _
     omega
    ·exact e
   ·exact e
end Go.Den
end
section
namespace Go.Den
attribute [go_sem] Nat.reduceEqDiff Nat.reduceLT Nat.reduceLeDiff Nat.reduceAdd Nat.reduceMul Nat.reduceSub Int.reduceLE Int.reduceLT Int.reduceToNat Int.reduceNeg reduceCtorEq
attribute [go_sem] reduceIte
def Hid (R : Prop) : Prop := R
theorem Hid.out {R : Prop} (h : Hid R) : R := h
theorem Hid.mk {R : Prop} (h : R) : Hid R := h
attribute [irreducible] Hid
theorem fnil : True := trivial
theorem bw {a b : Prop} (x : a) (y : b) : a ∧ b := ⟨x,y⟩
theorem bw3 {a0 a1 a2 : Prop} (x0 : a0) (x1 : a1) (x2 : a2) : a0 ∧ a1 ∧ a2 := ⟨x0,x1,x2⟩
theorem bw4 {a0 a1 a2 a3 : Prop} (x0 : a0) (x1 : a1) (x2 : a2) (x3 : a3) : a0 ∧ a1 ∧ a2 ∧ a3 := ⟨x0,x1,x2,x3⟩
theorem bw5 {a0 a1 a2 a3 a4 : Prop} (x0 : a0) (x1 : a1) (x2 : a2) (x3 : a3) (x4 : a4) : a0 ∧ a1 ∧ a2 ∧ a3 ∧ a4 := ⟨x0,x1,x2,x3,x4⟩
theorem bw6 {a0 a1 a2 a3 a4 a5 : Prop} (x0 : a0) (x1 : a1) (x2 : a2) (x3 : a3) (x4 : a4) (x5 : a5) : a0 ∧ a1 ∧ a2 ∧ a3 ∧ a4 ∧ a5 := ⟨x0,x1,x2,x3,x4,x5⟩
theorem bw7 {a0 a1 a2 a3 a4 a5 a6 : Prop} (x0 : a0) (x1 : a1) (x2 : a2) (x3 : a3) (x4 : a4) (x5 : a5) (x6 : a6) : a0 ∧ a1 ∧ a2 ∧ a3 ∧ a4 ∧ a5 ∧ a6 := ⟨x0,x1,x2,x3,x4,x5,x6⟩
theorem bw8 {a0 a1 a2 a3 a4 a5 a6 a7 : Prop} (x0 : a0) (x1 : a1) (x2 : a2) (x3 : a3) (x4 : a4) (x5 : a5) (x6 : a6) (x7 : a7) : a0 ∧ a1 ∧ a2 ∧ a3 ∧ a4 ∧ a5 ∧ a6 ∧ a7 := ⟨x0,x1,x2,x3,x4,x5,x6,x7⟩
theorem bw9 {a0 a1 a2 a3 a4 a5 a6 a7 a8 : Prop} (x0 : a0) (x1 : a1) (x2 : a2) (x3 : a3) (x4 : a4) (x5 : a5) (x6 : a6) (x7 : a7) (x8 : a8) : a0 ∧ a1 ∧ a2 ∧ a3 ∧ a4 ∧ a5 ∧ a6 ∧ a7 ∧ a8 := ⟨x0,x1,x2,x3,x4,x5,x6,x7,x8⟩
theorem bw10 {a0 a1 a2 a3 a4 a5 a6 a7 a8 a9 : Prop} (x0 : a0) (x1 : a1) (x2 : a2) (x3 : a3) (x4 : a4) (x5 : a5) (x6 : a6) (x7 : a7) (x8 : a8) (x9 : a9) : a0 ∧ a1 ∧ a2 ∧ a3 ∧ a4 ∧ a5 ∧ a6 ∧ a7 ∧ a8 ∧ a9 := ⟨x0,x1,x2,x3,x4,x5,x6,x7,x8,x9⟩
theorem bw11 {a0 a1 a2 a3 a4 a5 a6 a7 a8 a9 a10 : Prop} (x0 : a0) (x1 : a1) (x2 : a2) (x3 : a3) (x4 : a4) (x5 : a5) (x6 : a6) (x7 : a7) (x8 : a8) (x9 : a9) (x10 : a10) : a0 ∧ a1 ∧ a2 ∧ a3 ∧ a4 ∧ a5 ∧ a6 ∧ a7 ∧ a8 ∧ a9 ∧ a10 := ⟨x0,x1,x2,x3,x4,x5,x6,x7,x8,x9,x10⟩
theorem bw12 {a0 a1 a2 a3 a4 a5 a6 a7 a8 a9 a10 a11 : Prop} (x0 : a0) (x1 : a1) (x2 : a2) (x3 : a3) (x4 : a4) (x5 : a5) (x6 : a6) (x7 : a7) (x8 : a8) (x9 : a9) (x10 : a10) (x11 : a11) : a0 ∧ a1 ∧ a2 ∧ a3 ∧ a4 ∧ a5 ∧ a6 ∧ a7 ∧ a8 ∧ a9 ∧ a10 ∧ a11 := ⟨x0,x1,x2,x3,x4,x5,x6,x7,x8,x9,x10,x11⟩
theorem bw13 {a0 a1 a2 a3 a4 a5 a6 a7 a8 a9 a10 a11 a12 : Prop} (x0 : a0) (x1 : a1) (x2 : a2) (x3 : a3) (x4 : a4) (x5 : a5) (x6 : a6) (x7 : a7) (x8 : a8) (x9 : a9) (x10 : a10) (x11 : a11) (x12 : a12) : a0 ∧ a1 ∧ a2 ∧ a3 ∧ a4 ∧ a5 ∧ a6 ∧ a7 ∧ a8 ∧ a9 ∧ a10 ∧ a11 ∧ a12 := ⟨x0,x1,x2,x3,x4,x5,x6,x7,x8,x9,x10,x11,x12⟩
theorem bw14 {a0 a1 a2 a3 a4 a5 a6 a7 a8 a9 a10 a11 a12 a13 : Prop} (x0 : a0) (x1 : a1) (x2 : a2) (x3 : a3) (x4 : a4) (x5 : a5) (x6 : a6) (x7 : a7) (x8 : a8) (x9 : a9) (x10 : a10) (x11 : a11) (x12 : a12) (x13 : a13) : a0 ∧ a1 ∧ a2 ∧ a3 ∧ a4 ∧ a5 ∧ a6 ∧ a7 ∧ a8 ∧ a9 ∧ a10 ∧ a11 ∧ a12 ∧ a13 := ⟨x0,x1,x2,x3,x4,x5,x6,x7,x8,x9,x10,x11,x12,x13⟩
theorem bw15 {a0 a1 a2 a3 a4 a5 a6 a7 a8 a9 a10 a11 a12 a13 a14 : Prop} (x0 : a0) (x1 : a1) (x2 : a2) (x3 : a3) (x4 : a4) (x5 : a5) (x6 : a6) (x7 : a7) (x8 : a8) (x9 : a9) (x10 : a10) (x11 : a11) (x12 : a12) (x13 : a13) (x14 : a14) : a0 ∧ a1 ∧ a2 ∧ a3 ∧ a4 ∧ a5 ∧ a6 ∧ a7 ∧ a8 ∧ a9 ∧ a10 ∧ a11 ∧ a12 ∧ a13 ∧ a14 := ⟨x0,x1,x2,x3,x4,x5,x6,x7,x8,x9,x10,x11,x12,x13,x14⟩
theorem bw16 {a0 a1 a2 a3 a4 a5 a6 a7 a8 a9 a10 a11 a12 a13 a14 a15 : Prop} (x0 : a0) (x1 : a1) (x2 : a2) (x3 : a3) (x4 : a4) (x5 : a5) (x6 : a6) (x7 : a7) (x8 : a8) (x9 : a9) (x10 : a10) (x11 : a11) (x12 : a12) (x13 : a13) (x14 : a14) (x15 : a15) : a0 ∧ a1 ∧ a2 ∧ a3 ∧ a4 ∧ a5 ∧ a6 ∧ a7 ∧ a8 ∧ a9 ∧ a10 ∧ a11 ∧ a12 ∧ a13 ∧ a14 ∧ a15 := ⟨x0,x1,x2,x3,x4,x5,x6,x7,x8,x9,x10,x11,x12,x13,x14,x15⟩
theorem bw17 {a0 a1 a2 a3 a4 a5 a6 a7 a8 a9 a10 a11 a12 a13 a14 a15 a16 : Prop} (x0 : a0) (x1 : a1) (x2 : a2) (x3 : a3) (x4 : a4) (x5 : a5) (x6 : a6) (x7 : a7) (x8 : a8) (x9 : a9) (x10 : a10) (x11 : a11) (x12 : a12) (x13 : a13) (x14 : a14) (x15 : a15) (x16 : a16) : a0 ∧ a1 ∧ a2 ∧ a3 ∧ a4 ∧ a5 ∧ a6 ∧ a7 ∧ a8 ∧ a9 ∧ a10 ∧ a11 ∧ a12 ∧ a13 ∧ a14 ∧ a15 ∧ a16 := ⟨x0,x1,x2,x3,x4,x5,x6,x7,x8,x9,x10,x11,x12,x13,x14,x15,x16⟩
theorem bw18 {a0 a1 a2 a3 a4 a5 a6 a7 a8 a9 a10 a11 a12 a13 a14 a15 a16 a17 : Prop} (x0 : a0) (x1 : a1) (x2 : a2) (x3 : a3) (x4 : a4) (x5 : a5) (x6 : a6) (x7 : a7) (x8 : a8) (x9 : a9) (x10 : a10) (x11 : a11) (x12 : a12) (x13 : a13) (x14 : a14) (x15 : a15) (x16 : a16) (x17 : a17) : a0 ∧ a1 ∧ a2 ∧ a3 ∧ a4 ∧ a5 ∧ a6 ∧ a7 ∧ a8 ∧ a9 ∧ a10 ∧ a11 ∧ a12 ∧ a13 ∧ a14 ∧ a15 ∧ a16 ∧ a17 := ⟨x0,x1,x2,x3,x4,x5,x6,x7,x8,x9,x10,x11,x12,x13,x14,x15,x16,x17⟩
theorem bw19 {a0 a1 a2 a3 a4 a5 a6 a7 a8 a9 a10 a11 a12 a13 a14 a15 a16 a17 a18 : Prop} (x0 : a0) (x1 : a1) (x2 : a2) (x3 : a3) (x4 : a4) (x5 : a5) (x6 : a6) (x7 : a7) (x8 : a8) (x9 : a9) (x10 : a10) (x11 : a11) (x12 : a12) (x13 : a13) (x14 : a14) (x15 : a15) (x16 : a16) (x17 : a17) (x18 : a18) : a0 ∧ a1 ∧ a2 ∧ a3 ∧ a4 ∧ a5 ∧ a6 ∧ a7 ∧ a8 ∧ a9 ∧ a10 ∧ a11 ∧ a12 ∧ a13 ∧ a14 ∧ a15 ∧ a16 ∧ a17 ∧ a18 := ⟨x0,x1,x2,x3,x4,x5,x6,x7,x8,x9,x10,x11,x12,x13,x14,x15,x16,x17,x18⟩
theorem bw20 {a0 a1 a2 a3 a4 a5 a6 a7 a8 a9 a10 a11 a12 a13 a14 a15 a16 a17 a18 a19 : Prop} (x0 : a0) (x1 : a1) (x2 : a2) (x3 : a3) (x4 : a4) (x5 : a5) (x6 : a6) (x7 : a7) (x8 : a8) (x9 : a9) (x10 : a10) (x11 : a11) (x12 : a12) (x13 : a13) (x14 : a14) (x15 : a15) (x16 : a16) (x17 : a17) (x18 : a18) (x19 : a19) : a0 ∧ a1 ∧ a2 ∧ a3 ∧ a4 ∧ a5 ∧ a6 ∧ a7 ∧ a8 ∧ a9 ∧ a10 ∧ a11 ∧ a12 ∧ a13 ∧ a14 ∧ a15 ∧ a16 ∧ a17 ∧ a18 ∧ a19 := ⟨x0,x1,x2,x3,x4,x5,x6,x7,x8,x9,x10,x11,x12,x13,x14,x15,x16,x17,x18,x19⟩
theorem bw21 {a0 a1 a2 a3 a4 a5 a6 a7 a8 a9 a10 a11 a12 a13 a14 a15 a16 a17 a18 a19 a20 : Prop} (x0 : a0) (x1 : a1) (x2 : a2) (x3 : a3) (x4 : a4) (x5 : a5) (x6 : a6) (x7 : a7) (x8 : a8) (x9 : a9) (x10 : a10) (x11 : a11) (x12 : a12) (x13 : a13) (x14 : a14) (x15 : a15) (x16 : a16) (x17 : a17) (x18 : a18) (x19 : a19) (x20 : a20) : a0 ∧ a1 ∧ a2 ∧ a3 ∧ a4 ∧ a5 ∧ a6 ∧ a7 ∧ a8 ∧ a9 ∧ a10 ∧ a11 ∧ a12 ∧ a13 ∧ a14 ∧ a15 ∧ a16 ∧ a17 ∧ a18 ∧ a19 ∧ a20 := ⟨x0,x1,x2,x3,x4,x5,x6,x7,x8,x9,x10,x11,x12,x13,x14,x15,x16,x17,x18,x19,x20⟩
theorem bw23 {a0 a1 a2 a3 a4 a5 a6 a7 a8 a9 a10 a11 a12 a13 a14 a15 a16 a17 a18 a19 a20 a21 a22 : Prop} (x0 : a0) (x1 : a1) (x2 : a2) (x3 : a3) (x4 : a4) (x5 : a5) (x6 : a6) (x7 : a7) (x8 : a8) (x9 : a9) (x10 : a10) (x11 : a11) (x12 : a12) (x13 : a13) (x14 : a14) (x15 : a15) (x16 : a16) (x17 : a17) (x18 : a18) (x19 : a19) (x20 : a20) (x21 : a21) (x22 : a22) : a0 ∧ a1 ∧ a2 ∧ a3 ∧ a4 ∧ a5 ∧ a6 ∧ a7 ∧ a8 ∧ a9 ∧ a10 ∧ a11 ∧ a12 ∧ a13 ∧ a14 ∧ a15 ∧ a16 ∧ a17 ∧ a18 ∧ a19 ∧ a20 ∧ a21 ∧ a22 := ⟨x0,x1,x2,x3,x4,x5,x6,x7,x8,x9,x10,x11,x12,x13,x14,x15,x16,x17,x18,x19,x20,x21,x22⟩
theorem bw24 {a0 a1 a2 a3 a4 a5 a6 a7 a8 a9 a10 a11 a12 a13 a14 a15 a16 a17 a18 a19 a20 a21 a22 a23 : Prop} (x0 : a0) (x1 : a1) (x2 : a2) (x3 : a3) (x4 : a4) (x5 : a5) (x6 : a6) (x7 : a7) (x8 : a8) (x9 : a9) (x10 : a10) (x11 : a11) (x12 : a12) (x13 : a13) (x14 : a14) (x15 : a15) (x16 : a16) (x17 : a17) (x18 : a18) (x19 : a19) (x20 : a20) (x21 : a21) (x22 : a22) (x23 : a23) : a0 ∧ a1 ∧ a2 ∧ a3 ∧ a4 ∧ a5 ∧ a6 ∧ a7 ∧ a8 ∧ a9 ∧ a10 ∧ a11 ∧ a12 ∧ a13 ∧ a14 ∧ a15 ∧ a16 ∧ a17 ∧ a18 ∧ a19 ∧ a20 ∧ a21 ∧ a22 ∧ a23 := ⟨x0,x1,x2,x3,x4,x5,x6,x7,x8,x9,x10,x11,x12,x13,x14,x15,x16,x17,x18,x19,x20,x21,x22,x23⟩
theorem bw25 {a0 a1 a2 a3 a4 a5 a6 a7 a8 a9 a10 a11 a12 a13 a14 a15 a16 a17 a18 a19 a20 a21 a22 a23 a24 : Prop} (x0 : a0) (x1 : a1) (x2 : a2) (x3 : a3) (x4 : a4) (x5 : a5) (x6 : a6) (x7 : a7) (x8 : a8) (x9 : a9) (x10 : a10) (x11 : a11) (x12 : a12) (x13 : a13) (x14 : a14) (x15 : a15) (x16 : a16) (x17 : a17) (x18 : a18) (x19 : a19) (x20 : a20) (x21 : a21) (x22 : a22) (x23 : a23) (x24 : a24) : a0 ∧ a1 ∧ a2 ∧ a3 ∧ a4 ∧ a5 ∧ a6 ∧ a7 ∧ a8 ∧ a9 ∧ a10 ∧ a11 ∧ a12 ∧ a13 ∧ a14 ∧ a15 ∧ a16 ∧ a17 ∧ a18 ∧ a19 ∧ a20 ∧ a21 ∧ a22 ∧ a23 ∧ a24 := ⟨x0,x1,x2,x3,x4,x5,x6,x7,x8,x9,x10,x11,x12,x13,x14,x15,x16,x17,x18,x19,x20,x21,x22,x23,x24⟩
theorem bw27 {a0 a1 a2 a3 a4 a5 a6 a7 a8 a9 a10 a11 a12 a13 a14 a15 a16 a17 a18 a19 a20 a21 a22 a23 a24 a25 a26 : Prop} (x0 : a0) (x1 : a1) (x2 : a2) (x3 : a3) (x4 : a4) (x5 : a5) (x6 : a6) (x7 : a7) (x8 : a8) (x9 : a9) (x10 : a10) (x11 : a11) (x12 : a12) (x13 : a13) (x14 : a14) (x15 : a15) (x16 : a16) (x17 : a17) (x18 : a18) (x19 : a19) (x20 : a20) (x21 : a21) (x22 : a22) (x23 : a23) (x24 : a24) (x25 : a25) (x26 : a26) : a0 ∧ a1 ∧ a2 ∧ a3 ∧ a4 ∧ a5 ∧ a6 ∧ a7 ∧ a8 ∧ a9 ∧ a10 ∧ a11 ∧ a12 ∧ a13 ∧ a14 ∧ a15 ∧ a16 ∧ a17 ∧ a18 ∧ a19 ∧ a20 ∧ a21 ∧ a22 ∧ a23 ∧ a24 ∧ a25 ∧ a26 := ⟨x0,x1,x2,x3,x4,x5,x6,x7,x8,x9,x10,x11,x12,x13,x14,x15,x16,x17,x18,x19,x20,x21,x22,x23,x24,x25,x26⟩
theorem bw28 {a0 a1 a2 a3 a4 a5 a6 a7 a8 a9 a10 a11 a12 a13 a14 a15 a16 a17 a18 a19 a20 a21 a22 a23 a24 a25 a26 a27 : Prop} (x0 : a0) (x1 : a1) (x2 : a2) (x3 : a3) (x4 : a4) (x5 : a5) (x6 : a6) (x7 : a7) (x8 : a8) (x9 : a9) (x10 : a10) (x11 : a11) (x12 : a12) (x13 : a13) (x14 : a14) (x15 : a15) (x16 : a16) (x17 : a17) (x18 : a18) (x19 : a19) (x20 : a20) (x21 : a21) (x22 : a22) (x23 : a23) (x24 : a24) (x25 : a25) (x26 : a26) (x27 : a27) : a0 ∧ a1 ∧ a2 ∧ a3 ∧ a4 ∧ a5 ∧ a6 ∧ a7 ∧ a8 ∧ a9 ∧ a10 ∧ a11 ∧ a12 ∧ a13 ∧ a14 ∧ a15 ∧ a16 ∧ a17 ∧ a18 ∧ a19 ∧ a20 ∧ a21 ∧ a22 ∧ a23 ∧ a24 ∧ a25 ∧ a26 ∧ a27 := ⟨x0,x1,x2,x3,x4,x5,x6,x7,x8,x9,x10,x11,x12,x13,x14,x15,x16,x17,x18,x19,x20,x21,x22,x23,x24,x25,x26,x27⟩
theorem bw29 {a0 a1 a2 a3 a4 a5 a6 a7 a8 a9 a10 a11 a12 a13 a14 a15 a16 a17 a18 a19 a20 a21 a22 a23 a24 a25 a26 a27 a28 : Prop} (x0 : a0) (x1 : a1) (x2 : a2) (x3 : a3) (x4 : a4) (x5 : a5) (x6 : a6) (x7 : a7) (x8 : a8) (x9 : a9) (x10 : a10) (x11 : a11) (x12 : a12) (x13 : a13) (x14 : a14) (x15 : a15) (x16 : a16) (x17 : a17) (x18 : a18) (x19 : a19) (x20 : a20) (x21 : a21) (x22 : a22) (x23 : a23) (x24 : a24) (x25 : a25) (x26 : a26) (x27 : a27) (x28 : a28) : a0 ∧ a1 ∧ a2 ∧ a3 ∧ a4 ∧ a5 ∧ a6 ∧ a7 ∧ a8 ∧ a9 ∧ a10 ∧ a11 ∧ a12 ∧ a13 ∧ a14 ∧ a15 ∧ a16 ∧ a17 ∧ a18 ∧ a19 ∧ a20 ∧ a21 ∧ a22 ∧ a23 ∧ a24 ∧ a25 ∧ a26 ∧ a27 ∧ a28 := ⟨x0,x1,x2,x3,x4,x5,x6,x7,x8,x9,x10,x11,x12,x13,x14,x15,x16,x17,x18,x19,x20,x21,x22,x23,x24,x25,x26,x27,x28⟩
theorem bw31 {a0 a1 a2 a3 a4 a5 a6 a7 a8 a9 a10 a11 a12 a13 a14 a15 a16 a17 a18 a19 a20 a21 a22 a23 a24 a25 a26 a27 a28 a29 a30 : Prop} (x0 : a0) (x1 : a1) (x2 : a2) (x3 : a3) (x4 : a4) (x5 : a5) (x6 : a6) (x7 : a7) (x8 : a8) (x9 : a9) (x10 : a10) (x11 : a11) (x12 : a12) (x13 : a13) (x14 : a14) (x15 : a15) (x16 : a16) (x17 : a17) (x18 : a18) (x19 : a19) (x20 : a20) (x21 : a21) (x22 : a22) (x23 : a23) (x24 : a24) (x25 : a25) (x26 : a26) (x27 : a27) (x28 : a28) (x29 : a29) (x30 : a30) : a0 ∧ a1 ∧ a2 ∧ a3 ∧ a4 ∧ a5 ∧ a6 ∧ a7 ∧ a8 ∧ a9 ∧ a10 ∧ a11 ∧ a12 ∧ a13 ∧ a14 ∧ a15 ∧ a16 ∧ a17 ∧ a18 ∧ a19 ∧ a20 ∧ a21 ∧ a22 ∧ a23 ∧ a24 ∧ a25 ∧ a26 ∧ a27 ∧ a28 ∧ a29 ∧ a30 := ⟨x0,x1,x2,x3,x4,x5,x6,x7,x8,x9,x10,x11,x12,x13,x14,x15,x16,x17,x18,x19,x20,x21,x22,x23,x24,x25,x26,x27,x28,x29,x30⟩
theorem go {P C G R : Prop} (ff : P) (cc : C) (r : R) (k : P → C → Hid R → G := by
 intro ff cc hR
 (repeat (first
  | apply wp_seq | apply wp_region_ops | apply wp_dregion_ops | apply wp_block_seq | apply wp_block_region | apply wp_block_cond | apply wp_block_dregion | apply wp_scope | apply wp_ret | apply wp_skip | apply wp_exit | apply andThen_normal | apply andThen_ret | apply andThen_exit | apply andThen_panic | apply inBlock_panic | apply inBlock_normal | apply inBlock_ret | apply inBlock_same | (apply inBlock_other (by decide)) | apply wops_nil
  | (refine wops_one' (by simp only [↓reduceIte,go_sem,ff];first | done | rfl) (by with_reducible rfl) (fun rec => by simp only [↓reduceIte,go_sem,ff];with_reducible rfl) (by with_reducible rfl) ?_)
  | (refine wops_index (by simp only [↓reduceIte,go_sem,ff];first | done | rfl) (by with_reducible rfl) (by simp only [↓reduceIte,go_sem,ff];first | done | rfl) (by assumption) (by simp only [↓reduceIte,go_sem,ff];first | done | rfl) (by first | assumption | omega) ?_)
  | (refine wops_indexI (by simp only [↓reduceIte,go_sem,ff];first | done | rfl) (by with_reducible rfl) (by simp only [↓reduceIte,go_sem,ff];first | done | rfl) (by assumption) (by simp only [↓reduceIte,go_sem,ff];first | done | rfl) (by first | assumption | omega) (by first | assumption | omega) ?_)
  | (refine wopsD_pure' (by first | omega | (simp only [lo_push,lo_setVar,len_push,len_setVar];omega)) (by simp only [↓reduceIte,go_sem,ff];first | done | rfl) (by with_reducible rfl) (fun rec st1 he hh => by simp only [↓reduceIte,go_sem,ff,he,hh];with_reducible rfl) ?_)
  | (refine wopsD_push (by first | omega | (simp only [lo_push,lo_setVar,len_push,len_setVar];omega)) (by simp only [↓reduceIte,go_sem,ff];first | done | rfl) (by with_reducible rfl) (fun rec st1 he => by simp only [↓reduceIte,go_sem,ff,he];with_reducible rfl) ?_)
  | (refine wopsD_index (by first | omega | (simp only [lo_push,lo_setVar,len_push,len_setVar];omega)) (by simp only [↓reduceIte,go_sem,ff];first | done | rfl) (by with_reducible rfl) (by simp only [↓reduceIte,go_sem,ff];first | done | rfl) (by assumption) (by simp only [↓reduceIte,go_sem,ff];first | done | rfl) (by first | assumption | omega) ?_)
  | (refine wopsD_indexI (by first | omega | (simp only [lo_push,lo_setVar,len_push,len_setVar];omega)) (by simp only [↓reduceIte,go_sem,ff];first | done | rfl) (by with_reducible rfl) (by simp only [↓reduceIte,go_sem,ff];first | done | rfl) (by assumption) (by simp only [↓reduceIte,go_sem,ff];first | done | rfl) (by first | assumption | omega) (by first | assumption | omega) ?_)
  | (refine wopsD_skip' (by simp only [↓reduceIte,go_sem,ff];first | done | rfl) (by with_reducible rfl) ?_) | (apply wopsD_nil;refine ⟨footOk_quiet (by rfl),?_⟩)
  | (refine wops_panic (by simp only [↓reduceIte,go_sem,ff];first | done | rfl) (by with_reducible rfl) (by simp only [↓reduceIte,go_sem,ff];first | done | rfl) ?_)
  | (refine wops_skip' (by simp only [↓reduceIte,go_sem,ff];first | done | rfl) (by with_reducible rfl) ?_) | (refine wp_condT (by simp only [↓reduceIte,go_sem,ff];first | done | rfl) ?_) | (refine wp_condF (by simp only [↓reduceIte,go_sem,ff];first | done | rfl) ?_)
  | (refine wopsD_call (by first | omega | (simp only [lo_push,lo_setVar,len_push,len_setVar];omega)) (by simp only [↓reduceIte,go_sem,ff];first | done | rfl) (by with_reducible rfl) (by simp only [↓reduceIte,go_sem,ff];first | done | rfl) (fun st1 he => by simp only [↓reduceIte,go_sem,ff];first | (apply cc.1 <;> first | assumption | omega | decide) | (apply cc.2.1 <;> first | assumption | omega | decide) | (apply cc.2.2.1 <;> first | assumption | omega | decide) | (apply cc.2.2.2.1 <;> first | assumption | omega | decide) | (apply cc.2.2.2.2.1 <;> first | assumption | omega | decide) | (apply cc.2.2.2.2.2.1 <;> first | assumption | omega | decide) | (apply cc.2.2.2.2.2.2.1 <;> first | assumption | omega | decide) | (apply cc.2.2.2.2.2.2.2.1 <;> first | assumption | omega | decide) | (apply cc.2.2.2.2.2.2.2.2.1 <;> first | assumption | omega | decide)) ?_)
  | (refine wops_call' (by simp only [↓reduceIte,go_sem,ff];first | done | rfl) (by with_reducible rfl) (by simp only [↓reduceIte,go_sem,ff];first | done | rfl) (by simp only [↓reduceIte,go_sem,ff];first | (apply cc.1 <;> first | assumption | omega | decide) | (apply cc.2.1 <;> first | assumption | omega | decide) | (apply cc.2.2.1 <;> first | assumption | omega | decide) | (apply cc.2.2.2.1 <;> first | assumption | omega | decide) | (apply cc.2.2.2.2.1 <;> first | assumption | omega | decide) | (apply cc.2.2.2.2.2.1 <;> first | assumption | omega | decide) | (apply cc.2.2.2.2.2.2.1 <;> first | assumption | omega | decide) | (apply cc.2.2.2.2.2.2.2.1 <;> first | assumption | omega | decide) | (apply cc.2.2.2.2.2.2.2.2.1 <;> first | assumption | omega | decide)) ?_)))
 exact hR.out) : G := k ff cc (.mk r)
theorem isS {α : Type} (a : α) : (some a).isSome = true := rfl
theorem isN {α : Type} : (none : Option α).isSome = false := rfl
end Go.Den
end

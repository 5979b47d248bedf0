/- Part of the proofs of laws of the package version. Texts: DenArr, DenForeign, DenAny, DenAuto, DenGo, DenShort. -/
import Derived.Test.YtehdcjbdhkkipaaGreatDoorDAl
import Derived.Test.YtehdcjbdhkkipaaGreatDoorDAj
set_option linter.unusedSimpArgs false
set_option linter.unusedVariables false
section
namespace Go.Den
def OwnH (m : Nat) (st : St) (sz : Nat) (v : PV) (n : Nat) (cs : List PV) : Prop :=
 cs.length = n * sz ∧ ((n = 0 ∧ v = .nilslice) ∨ ∃ t,v = .hslice t sz n ∧ m ≤ t ∧ hp st t = some (.arr cs))
theorem OwnH.keep {m : Nat} {st st' : St} {sz : Nat} {v : PV} {n : Nat} {cs : List PV} (h : OwnH m st sz v n cs) (hk : ∀ t cs,m ≤ t → hp st t = some (.arr cs) → hp st' t = some (.arr cs)) : OwnH m st' sz v n cs :=
 ⟨h.1,h.2.imp id fun ⟨t,h2,h3,h4⟩ => ⟨t,h2,h3,hk t _ h3 h4⟩⟩
theorem OwnH.cells {m : Nat} {st : St} {sz : Nat} {v : PV} {n : Nat} {cs : List PV} (h : OwnH m st sz v n cs) : v.cells = [v] ∧ v.isCell = true ∧ v.slen = some n := by
 obtain ⟨_,⟨rfl,rfl⟩ | ⟨t,rfl,_,_⟩⟩ := h <;> exact ⟨rfl,rfl,rfl⟩
section
variable {E : Env} {Q : Ex → List PV → St → Prop} {tm : List PV} {st : St}
theorem wops_appendH {sz : Nat} {x y : Opd} {dst : Option Nat} {g : Option (Nat × Bool)} {os : List DOper} {b : Bool} {m n k : Nat} {v w : PV} {cs ys : List PV} (hw : wants tm g = b) (hb : b = true) (hx : x.ev tm = v) (hy : y.ev tm = w) (ho : OwnH m st sz v n cs) (hyl : w.sl = some (k,ys)) (hm : m ≤ st.heap.length) (hk : k ≠ 0) (hl : ys.length = k * sz) (hc : ys.all PV.isCell = true) (hn : n + k ≤ maxList)
  (h : ∀ st',hp st' st.heap.length = some (.arr (cs ++ ys)) → st'.heap.length = st.heap.length + 1 → Fr m st st' → (∀ l o,hp st l = some o → isKept o = true → hp st' l = some o) → WOps E os Q (put tm dst (.hslice st.heap.length sz (n + k))) st') : WOps E (⟨.append true sz x y,dst,g⟩ :: os) Q tm st := by
 obtain ⟨o,rfl⟩ : ∃ o,w = .slice o k ys := by
  cases w <;> simp only [PV.sl,Option.some.injEq,Prod.mk.injEq,reduceCtorEq] at hyl
  ·obtain ⟨rfl,rfl⟩ := hyl;exact ⟨_,rfl⟩
  ·omega
 obtain ⟨h0,⟨rfl,rfl⟩ | ⟨t,rfl,h3,h4⟩⟩ := ho
 ·have hcs : cs = [] := by simpa using h0
  subst hcs
  refine wops_one (v := .hslice st.heap.length sz (0 + k)) (st1 := st.push (.arr ys)) (hw.trans hb) (fun rec => ?_) (h _ (by rw [hp_push,if_pos rfl];rfl) (len_push _ _) ((Fr.refl m st).push hm) (fun l o hl _ => (HExt.push st _).hp hl))
  simp only [stepOp,hx,hy]
  delta doAppend
  simp only [hl,hc,and_self,if_true,hk,if_false]
  rw [if_pos (by omega),Nat.zero_add]
  rfl
 ·have ht := hp_lt h4
  refine wops_one (v := .hslice st.heap.length sz (n + k)) (st1 := (setVar st t (.tag false)).push (.arr (cs ++ ys))) (hw.trans hb) (fun rec => ?_) (h _ (by rw [hp_push,if_pos (by rw [len_setVar])]) (by rw [len_push,len_setVar]) (((Fr.refl m st).setVar h3).push (by rw [len_setVar];exact hm)) (fun l o hl hko => ?_))
  ·simp only [stepOp,hx,hy]
   delta doAppend
   have h5 : st.heap[t]? = some (.arr cs) := h4
   simp only [hl,hc,and_self,if_true,hk,if_false,h5]
   rw [if_pos ⟨trivial,h0,hn⟩]
   rfl
  ·refine (HExt.push (setVar st t (.tag false)) _).hp (hp_set_other hl ?_)
   rintro rfl
   rw [h4] at hl
   cases hl
   cases hko
end
theorem op_indexAddr {E : Env} {rec : Rec} {tm : List PV} {st : St} {sz : Nat} {x i : Opd} {l n : Nat} {k : IntKind} {j : Nat} (hx : x.ev tm = .hslice l sz n) (hi : i.ev tm = .int k j) (hj : j < n) : stepOp E rec tm st (.indexAddr sz x i) = some (.val (.aptr l (j * sz)) st) := by
 simp only [stepOp,hx,hi]
 rw [if_pos ⟨trivial,by omega,by omega⟩]
 simp
end Go.Den
namespace Go.Den
def idxR (sz : Nat) (x i : PV) (st : St) : Option OpR := match x,i with
 | .slice _ n cs,.int _ i => if 0 ≤ i ∧ i < n then some (.val (.cptr ((cs.drop (i.toNat * sz)).take sz)) st) else none
 | .hslice l sz' n,.int _ i => if sz' = sz ∧ 0 ≤ i ∧ i < n then some (.val (.aptr l (i.toNat * sz)) st) else none
 | _,_ => none
theorem op_indexAddrM {E : Env} {rec : Rec} {tm : List PV} {st : St} {sz : Nat} {x i : Opd} : stepOp E rec tm st (.indexAddr sz x i) = idxR sz (x.ev tm) (i.ev tm) st := by
 simp only [stepOp,idxR]
 cases x.ev tm <;> cases i.ev tm <;> rfl
theorem idxR_h {sz l n : Nat} {k : IntKind} {j : Nat} {st : St} : idxR sz (.hslice l sz n) (.int k j) st = if j < n then some (.val (.aptr l (j * sz)) st) else none := by
 simp only [idxR,true_and,Int.toNat_natCast]
 by_cases h : j < n
 ·rw [if_pos ⟨by omega,by omega⟩,if_pos h]
 ·rw [if_neg (by omega),if_neg h]
end Go.Den
namespace Go.Den
theorem HExt.fr {a b c : St} (h : HExt a.heap b.heap) (hf : Fr a.heap.length b c) : HExt a.heap c.heap := ⟨Nat.le_trans h.1 hf.len,fun l hl => (hf.old l hl).trans (h.2 l hl)⟩
theorem HExt.setVar {a : List HObj} {b : St} {l : Nat} {o : HObj} (h : HExt a b.heap) (hl : a.length ≤ l) : HExt a (setVar b l o).heap := ⟨by rw [len_setVar];exact h.1,fun i hi => by
 have := hp_setVar b l i o
 rw [if_neg (by omega)] at this
 exact this.trans (h.2 i hi)⟩
theorem HExt.set {a b : List HObj} {l : Nat} {o : HObj} (h : HExt a b) (hl : a.length ≤ l) : HExt a (b.set l o) := ⟨by rw [List.length_set];exact h.1,fun i hi => by
 rw [List.getElem?_set_ne (by omega)];exact h.2 i hi⟩
end Go.Den
namespace Go.Den
theorem wopsD_append' {E : Env} {QD : Ex → List PV → St → List Foot → Prop} {tm : List PV} {st : St} {sz : Nat} {x y : Opd} {dst : Option Nat} {g : Option (Nat × Bool)} {os : List DOper} {b : Bool} {m n k : Nat} {v w : PV} {cs ys : List PV} (hlo : st.lo ≤ st.heap.length) (hw : wants tm g = b) (hb : b = true) (hx : x.ev tm = v) (hy : y.ev tm = w) (ho : OwnS m st sz v n cs) (hyl : w.sl = some (k,ys)) (hm : m ≤ st.heap.length) (hl : ys.length = k * sz) (hc : ys.all PV.isCell = true) (hn : n + k ≤ maxList)
  (h : ∀ v' st' ft,(∀ l,l < m → clash l ft = false) → OwnS m st' sz v' (n + k) (cs ++ ys.map PV.share) → Fr m st st' → (∀ l o,hp st l = some o → (∀ b,o ≠ .tag b) → hp st' l = some o) → WOpsD E os (fun e tm' st'' fs => QD e tm' st'' (ft :: fs)) (put tm dst v') st') : WOpsD E (⟨.append false sz x y,dst,g⟩ :: os) QD tm st := by
 have ho' : OwnS m { st with lo := st.heap.length } sz v n cs := ho.keep fun _ _ h => h
 obtain ⟨v',st1,h1,h2,h3,h4⟩ := ho'.append hm hl hc hn
 have h5 := h3.lo
 simp only at h5
 refine wopsD_cons (v := v') (st1 := st1) (hw.trans hb) 0 (fun n _ => ?_) ?_
 ·simp only [stepOp,hx,hy]
  cases w <;> simp only [PV.sl,Option.some.injEq,Prod.mk.injEq,reduceCtorEq] at hyl
  ·obtain ⟨rfl,rfl⟩ := hyl;exact h1
  ·obtain ⟨rfl,rfl⟩ := hyl;exact h1
 ·refine h v' { st1 with lo := min st.lo st1.lo } _ (fun l hl => ?_) (h2.keep fun _ _ h => h) ⟨h3.len,?_,h3.old,Nat.min_le_left _ _⟩ h4
  ·simp only [footOf]
   split
   ·rfl
   ·simp only [clash,decide_eq_false_iff_not];omega
  ·show min m st.lo ≤ min st.lo st1.lo
   omega
theorem wopsD_callR {E : Env} {QD : Ex → List PV → St → List Foot → Prop} {tm : List PV} {st : St} {f : Opd} {args : List Opd} {dst : Option Nat} {g : Option (Nat × Bool)} {os : List DOper} {b : Bool} {fv : PV} {P : PV → St → Prop} (hw : wants tm g = b) (hb : b = true) (hf : f.ev tm = fv) (hc : ClR E fv (evs tm args) { st with lo := st.heap.length } P)
  (h : ∀ v st1,P v st1 → ∀ ft,WOpsD E os (fun e tm' st' fs => QD e tm' st' (ft :: fs)) (put tm dst v) { st1 with lo := min st.lo st1.lo }) : WOpsD E (⟨.call f args,dst,g⟩ :: os) QD tm st := by
 obtain ⟨v,st1,⟨N,hN⟩,hP⟩ := hc
 exact wopsD_cons (v := v) (st1 := st1) (hw.trans hb) N (fun n hn => by simp only [stepOp,hf,hN n hn]) (h v st1 hP _)
end Go.Den
end
section
namespace Go.Den
variable {P : Program}
theorem shared_row {B0 w0 G h w} (r : WR P B0 w0 G h w) (cs : List PV) (arr : Array Value) (T : TypeId) (hl : cs.length = arr.size) (hlow : ∀ m,lowL m cs = true)
  (hc : ∀ G' w',w'.heap[w.heap.size]? = some (Obj.cells arr T (0,0)) → VRC G' w' cs w.heap.size 0) (n cap : Nat) (hcap : n ≤ cap) :
  ∃ G',WR P B0 w0 G' h (w.alloc (Obj.cells arr T (0,0))) ∧ (∀ lo,Ext G h w G' h (w.alloc (Obj.cells arr T (0,0))) lo) ∧ VR G' (w.alloc (Obj.cells arr T (0,0))) (.slice .shared n cs) (.slice (some ⟨w.heap.size,0,none⟩) n cap) := by
 obtain ⟨h1,h2,h3⟩ := alloc_row r false cs arr T (0,0) (by omega) (Thawed.zero _) (fun G' w' _ hw => hc G' w' hw)
 obtain ⟨k1,k2⟩ := cut_ok (S := []) r (h2 h.length) (Nat.le_refl _) (Fz.refl h1) ⟨by simp,by simp⟩
 refine ⟨_,by simpa using k1,fun lo => by simpa using k2 lo,VR.restr (restr_cut r (h2 h.length) (Fz.refl h1) []) (by simp only [PV.low];exact hlow _) ?_⟩
 simp only [VR]
 refine .inl ⟨w.heap.size,0,cap,rfl,hcap,fun _ => ⟨cs.length,?_,by omega⟩,trivial,h3⟩
 simp only [Bool.false_eq_true,if_false]
 exact upd_same _ _ _
end Go.Den
end
section
namespace Go.Den
def ClA (E : Env) (f : PV) (args : List PV) (st : St) (P : CR → St → Prop) : Prop := ∃ r st',Cl E f args st r st' ∧ P r st'
def FnA (rs : List DRes) (st : St) (P : CR → St → Prop) : Ex → List PV → St → Prop := fun e tm1 st1 => match e with
 | .normal | .ret => ∃ v,results tm1 st1.heap rs = some v ∧ P (.ret (finishCall st st1 v).1) (finishCall st st1 v).2
 | .panic v => P (.panic v) { heap := st1.heap,lo := min st.lo st1.lo }
 | .exit _ => False
theorem cla_fn {E : Env} {st : St} {g : Nat} {a c args : List PV} {n : Nat} {rs : List DRes} {b : DCode} {P : CR → St → Prop} (hp : ∀ rec,E.prim g rec (a ++ args ++ c) st = none) (hf : E.fn g = some ⟨n,rs,b⟩) (k : Nat) (hk : (a ++ args ++ c).length = k) (hkn : k ≤ n)
  (h : ∀ tm,tm.length = n → (∀ i,i < k → tg tm i = (a ++ args ++ c).getD i undef) → Wp E b (FnA rs st P) tm { heap := st.heap,lo := st.heap.length }) : ClA E (.func g a c) args st P := by
 have := h ((a ++ args ++ c) ++ List.replicate (n - (a ++ args ++ c).length) undef) (by simp at hk ⊢;omega) (fun i hi => by
  unfold tg
  rw [List.getD_eq_getElem?_getD,List.getD_eq_getElem?_getD,List.getElem?_append_left (by omega)])
 unfold Wp at this
 obtain ⟨N,e,tm1,st1,h1,h2⟩ := this
 have key : ∀ v,(e = .normal ∨ e = .ret) → results tm1 st1.heap rs = some v → P (.ret (finishCall st st1 v).1) (finishCall st st1 v).2 → ClA E (.func g a c) args st P := by
  intro v he h3 h4
  refine ⟨_,_,cl_of_wp (r := .ret (finishCall st st1 v).1) (st' := (finishCall st st1 v).2) hp hf ?_,h4⟩
  unfold Wp
  refine ⟨N,e,tm1,st1,h1,?_⟩
  rcases he with rfl | rfl <;> exact ⟨v,h3,_,rfl,rfl⟩
 unfold FnA at h2
 cases e with
 | normal => obtain ⟨v,h3,h4⟩ := h2;exact key v (.inl rfl) h3 h4
 | ret => obtain ⟨v,h3,h4⟩ := h2;exact key v (.inr rfl) h3 h4
 | exit i => exact h2.elim
 | panic u =>
  refine ⟨_,_,cl_of_wp (r := .panic u) (st' := { heap := st1.heap,lo := min st.lo st1.lo }) hp hf ?_,h2⟩
  unfold Wp
  exact ⟨N,.panic u,tm1,st1,h1,rfl,rfl⟩
theorem fna_ret {rs : List DRes} {st : St} {P : CR → St → Prop} {tm1 : List PV} {st1 : St} {v : PV} (hr : results tm1 st1.heap rs = some v) (h : P (.ret (finishCall st st1 v).1) (finishCall st st1 v).2) : FnA rs st P .ret tm1 st1 := ⟨v,hr,h⟩
theorem fna_normal {rs : List DRes} {st : St} {P : CR → St → Prop} {tm1 : List PV} {st1 : St} {v : PV} (hr : results tm1 st1.heap rs = some v) (h : P (.ret (finishCall st st1 v).1) (finishCall st st1 v).2) : FnA rs st P .normal tm1 st1 := ⟨v,hr,h⟩
theorem fna_panic {rs : List DRes} {st : St} {P : CR → St → Prop} {tm1 : List PV} {st1 : St} {v : PV} (h : P (.panic v) { heap := st1.heap,lo := min st.lo st1.lo }) : FnA rs st P (.panic v) tm1 st1 := h
attribute [irreducible] FnA
section
variable {E : Env} {Q : Ex → List PV → St → Prop} {tm : List PV} {st : St}
theorem wops_callA {f : Opd} {args : List Opd} {dst : Option Nat} {g : Option (Nat × Bool)} {os : List DOper} {b : Bool} {fv : PV} {P : CR → St → Prop} (hw : wants tm g = b) (hb : b = true) (hf : f.ev tm = fv) (hc : ClA E fv (evs tm args) st P) (h : ∀ v st1,P (.ret v) st1 → WOps E os Q (put tm dst v) st1) (hx : ∀ v st1,P (.panic v) st1 → Q (.panic v) tm st1) : WOps E (⟨.call f args,dst,g⟩ :: os) Q tm st := by
 obtain ⟨r,st1,hcl,hP⟩ := hc
 cases r with
 | ret v => exact wops_call (hw.trans hb) hf hcl (h v st1 hP)
 | panic v =>
  obtain ⟨N,hN⟩ := hcl
  unfold WOps
  refine ⟨N,_,_,_,fun n hn => ?_,hx v st1 hP⟩
  simp only [stepOps,hw,hb,if_true,stepOp,hf,hN n hn]
theorem wopsD_callA {QD : Ex → List PV → St → List Foot → Prop} {f : Opd} {args : List Opd} {dst : Option Nat} {g : Option (Nat × Bool)} {b : Bool} {fv : PV} {P : CR → St → Prop} (hw : wants tm g = b) (hb : b = true) (hf : f.ev tm = fv) (hc : ClA E fv (evs tm args) { st with lo := st.heap.length } P)
  (h : ∀ v st1,P (.ret v) st1 → QD .normal (put tm dst v) { st1 with lo := min st.lo st1.lo } [footOf tm (.call f args) st.heap.length st1.lo]) (hx : ∀ v st1,P (.panic v) st1 → QD (.panic v) tm { st1 with lo := min st.lo st1.lo } [footOf tm (.call f args) st.heap.length st1.lo]) : WOpsD E [⟨.call f args,dst,g⟩] QD tm st := by
 obtain ⟨r,st1,⟨N,hN⟩,hP⟩ := hc
 unfold WOpsD
 cases r with
 | ret v =>
  refine ⟨N,_,_,_,_,_,fun n hn => ?_,(Finer.refl []).cons (f' := fineOf (.call f args) (footOf tm (.call f args) st.heap.length st1.lo) st.heap st1.heap) (fun l hc => fine_le hc) (fun l hc => fine_ld hc),h v st1 hP⟩
  simp only [stepOpsD,hw,hb,if_true,stepOp,hf,hN n hn]
 | panic v =>
  refine ⟨N,_,_,_,_,_,fun n hn => ?_,(Finer.refl []).cons (f' := fineOf (.call f args) (footOf tm (.call f args) st.heap.length st1.lo) st.heap st1.heap) (fun l hc => fine_le hc) (fun l hc => fine_ld hc),hx v st1 hP⟩
  simp only [stepOpsD,hw,hb,if_true,stepOp,hf,hN n hn,List.isEmpty_nil]
theorem step_next {rec : Rec} {x : Opd} {l pos : Nat} {s : ByteArray} (hx : x.ev tm = .ptr l 0) (hl : hp st l = some (.iter s pos)) (hp : pos < s.size) : stepOp E rec tm st (.nextStr x) = some (.val (.tuple [.bool true,.int .i64 pos,.int .i32 (Utf8.decode s pos).1]) (setVar st l (.iter s (pos + (Utf8.decode s pos).2)))) := by
 have h : st.heap[l]? = some (.iter s pos) := hl
 simp only [stepOp,hx,h,hp,if_true]
theorem step_end {rec : Rec} {x : Opd} {l pos : Nat} {s : ByteArray} (hx : x.ev tm = .ptr l 0) (hl : hp st l = some (.iter s pos)) (hp : ¬ pos < s.size) : stepOp E rec tm st (.nextStr x) = some (.val (.tuple [.bool false]) st) := by
 have h : st.heap[l]? = some (.iter s pos) := hl
 simp only [stepOp,hx,h,hp,if_false]
theorem op_rangeStr {rec : Rec} {x : Opd} : stepOp E rec tm st (.rangeStr x) = match x.ev tm with
  | .str s => some (.val (.ptr st.heap.length 0) (st.push (.iter s 0)))
  | _ => none := rfl
end
theorem decode_low (s : ByteArray) (i : Nat) (h : (s.get! i).toNat < 128) : Utf8.decode s i = ((s.get! i).toNat,1) := by
 unfold Utf8.decode
 simp only [Nat.add_zero]
 rw [if_pos h]
theorem decode_high (s : ByteArray) (i : Nat) (h : 128 ≤ (s.get! i).toNat) : 128 ≤ (Utf8.decode s i).1 := by
 unfold Utf8.decode
 simp only [Nat.add_zero]
 rw [if_neg (by omega)]
 have e : 128 ≤ Utf8.runeError := by decide
 split
 ·split
  ·rename_i h;simpa using h
  ·exact e
 ·split
  ·split
   ·rename_i h
    simp only [Bool.and_eq_true,decide_eq_true_eq] at h
    show 128 ≤ _
    omega
   ·exact e
  ·split
   ·split
    ·rename_i h
     simp only [Bool.and_eq_true,decide_eq_true_eq] at h
     show 128 ≤ _
     omega
    ·exact e
   ·exact e
end Go.Den
end
section
namespace Go.Den
attribute [go_sem] Nat.reduceEqDiff Nat.reduceLT Nat.reduceLeDiff Nat.reduceAdd Nat.reduceMul Nat.reduceSub Int.reduceLE Int.reduceLT Int.reduceToNat Int.reduceNeg reduceCtorEq
attribute [go_sem] reduceIte
def Hid (R : Prop) : Prop := R
theorem Hid.out {R : Prop} (h : Hid R) : R := h
theorem Hid.mk {R : Prop} (h : R) : Hid R := h
attribute [irreducible] Hid
theorem fnil : True := trivial
theorem bw {a b : Prop} (x : a) (y : b) : a ∧ b := ⟨x,y⟩
theorem bw3 {a0 a1 a2 : Prop} (x0 : a0) (x1 : a1) (x2 : a2) : a0 ∧ a1 ∧ a2 := ⟨x0,x1,x2⟩
theorem bw4 {a0 a1 a2 a3 : Prop} (x0 : a0) (x1 : a1) (x2 : a2) (x3 : a3) : a0 ∧ a1 ∧ a2 ∧ a3 := ⟨x0,x1,x2,x3⟩
theorem bw5 {a0 a1 a2 a3 a4 : Prop} (x0 : a0) (x1 : a1) (x2 : a2) (x3 : a3) (x4 : a4) : a0 ∧ a1 ∧ a2 ∧ a3 ∧ a4 := ⟨x0,x1,x2,x3,x4⟩
theorem bw6 {a0 a1 a2 a3 a4 a5 : Prop} (x0 : a0) (x1 : a1) (x2 : a2) (x3 : a3) (x4 : a4) (x5 : a5) : a0 ∧ a1 ∧ a2 ∧ a3 ∧ a4 ∧ a5 := ⟨x0,x1,x2,x3,x4,x5⟩
theorem bw7 {a0 a1 a2 a3 a4 a5 a6 : Prop} (x0 : a0) (x1 : a1) (x2 : a2) (x3 : a3) (x4 : a4) (x5 : a5) (x6 : a6) : a0 ∧ a1 ∧ a2 ∧ a3 ∧ a4 ∧ a5 ∧ a6 := ⟨x0,x1,x2,x3,x4,x5,x6⟩
theorem bw8 {a0 a1 a2 a3 a4 a5 a6 a7 : Prop} (x0 : a0) (x1 : a1) (x2 : a2) (x3 : a3) (x4 : a4) (x5 : a5) (x6 : a6) (x7 : a7) : a0 ∧ a1 ∧ a2 ∧ a3 ∧ a4 ∧ a5 ∧ a6 ∧ a7 := ⟨x0,x1,x2,x3,x4,x5,x6,x7⟩
theorem bw9 {a0 a1 a2 a3 a4 a5 a6 a7 a8 : Prop} (x0 : a0) (x1 : a1) (x2 : a2) (x3 : a3) (x4 : a4) (x5 : a5) (x6 : a6) (x7 : a7) (x8 : a8) : a0 ∧ a1 ∧ a2 ∧ a3 ∧ a4 ∧ a5 ∧ a6 ∧ a7 ∧ a8 := ⟨x0,x1,x2,x3,x4,x5,x6,x7,x8⟩
theorem bw10 {a0 a1 a2 a3 a4 a5 a6 a7 a8 a9 : Prop} (x0 : a0) (x1 : a1) (x2 : a2) (x3 : a3) (x4 : a4) (x5 : a5) (x6 : a6) (x7 : a7) (x8 : a8) (x9 : a9) : a0 ∧ a1 ∧ a2 ∧ a3 ∧ a4 ∧ a5 ∧ a6 ∧ a7 ∧ a8 ∧ a9 := ⟨x0,x1,x2,x3,x4,x5,x6,x7,x8,x9⟩
theorem bw11 {a0 a1 a2 a3 a4 a5 a6 a7 a8 a9 a10 : Prop} (x0 : a0) (x1 : a1) (x2 : a2) (x3 : a3) (x4 : a4) (x5 : a5) (x6 : a6) (x7 : a7) (x8 : a8) (x9 : a9) (x10 : a10) : a0 ∧ a1 ∧ a2 ∧ a3 ∧ a4 ∧ a5 ∧ a6 ∧ a7 ∧ a8 ∧ a9 ∧ a10 := ⟨x0,x1,x2,x3,x4,x5,x6,x7,x8,x9,x10⟩
theorem bw12 {a0 a1 a2 a3 a4 a5 a6 a7 a8 a9 a10 a11 : Prop} (x0 : a0) (x1 : a1) (x2 : a2) (x3 : a3) (x4 : a4) (x5 : a5) (x6 : a6) (x7 : a7) (x8 : a8) (x9 : a9) (x10 : a10) (x11 : a11) : a0 ∧ a1 ∧ a2 ∧ a3 ∧ a4 ∧ a5 ∧ a6 ∧ a7 ∧ a8 ∧ a9 ∧ a10 ∧ a11 := ⟨x0,x1,x2,x3,x4,x5,x6,x7,x8,x9,x10,x11⟩
theorem bw13 {a0 a1 a2 a3 a4 a5 a6 a7 a8 a9 a10 a11 a12 : Prop} (x0 : a0) (x1 : a1) (x2 : a2) (x3 : a3) (x4 : a4) (x5 : a5) (x6 : a6) (x7 : a7) (x8 : a8) (x9 : a9) (x10 : a10) (x11 : a11) (x12 : a12) : a0 ∧ a1 ∧ a2 ∧ a3 ∧ a4 ∧ a5 ∧ a6 ∧ a7 ∧ a8 ∧ a9 ∧ a10 ∧ a11 ∧ a12 := ⟨x0,x1,x2,x3,x4,x5,x6,x7,x8,x9,x10,x11,x12⟩
theorem bw14 {a0 a1 a2 a3 a4 a5 a6 a7 a8 a9 a10 a11 a12 a13 : Prop} (x0 : a0) (x1 : a1) (x2 : a2) (x3 : a3) (x4 : a4) (x5 : a5) (x6 : a6) (x7 : a7) (x8 : a8) (x9 : a9) (x10 : a10) (x11 : a11) (x12 : a12) (x13 : a13) : a0 ∧ a1 ∧ a2 ∧ a3 ∧ a4 ∧ a5 ∧ a6 ∧ a7 ∧ a8 ∧ a9 ∧ a10 ∧ a11 ∧ a12 ∧ a13 := ⟨x0,x1,x2,x3,x4,x5,x6,x7,x8,x9,x10,x11,x12,x13⟩
theorem bw15 {a0 a1 a2 a3 a4 a5 a6 a7 a8 a9 a10 a11 a12 a13 a14 : Prop} (x0 : a0) (x1 : a1) (x2 : a2) (x3 : a3) (x4 : a4) (x5 : a5) (x6 : a6) (x7 : a7) (x8 : a8) (x9 : a9) (x10 : a10) (x11 : a11) (x12 : a12) (x13 : a13) (x14 : a14) : a0 ∧ a1 ∧ a2 ∧ a3 ∧ a4 ∧ a5 ∧ a6 ∧ a7 ∧ a8 ∧ a9 ∧ a10 ∧ a11 ∧ a12 ∧ a13 ∧ a14 := ⟨x0,x1,x2,x3,x4,x5,x6,x7,x8,x9,x10,x11,x12,x13,x14⟩
theorem bw16 {a0 a1 a2 a3 a4 a5 a6 a7 a8 a9 a10 a11 a12 a13 a14 a15 : Prop} (x0 : a0) (x1 : a1) (x2 : a2) (x3 : a3) (x4 : a4) (x5 : a5) (x6 : a6) (x7 : a7) (x8 : a8) (x9 : a9) (x10 : a10) (x11 : a11) (x12 : a12) (x13 : a13) (x14 : a14) (x15 : a15) : a0 ∧ a1 ∧ a2 ∧ a3 ∧ a4 ∧ a5 ∧ a6 ∧ a7 ∧ a8 ∧ a9 ∧ a10 ∧ a11 ∧ a12 ∧ a13 ∧ a14 ∧ a15 := ⟨x0,x1,x2,x3,x4,x5,x6,x7,x8,x9,x10,x11,x12,x13,x14,x15⟩
theorem bw17 {a0 a1 a2 a3 a4 a5 a6 a7 a8 a9 a10 a11 a12 a13 a14 a15 a16 : Prop} (x0 : a0) (x1 : a1) (x2 : a2) (x3 : a3) (x4 : a4) (x5 : a5) (x6 : a6) (x7 : a7) (x8 : a8) (x9 : a9) (x10 : a10) (x11 : a11) (x12 : a12) (x13 : a13) (x14 : a14) (x15 : a15) (x16 : a16) : a0 ∧ a1 ∧ a2 ∧ a3 ∧ a4 ∧ a5 ∧ a6 ∧ a7 ∧ a8 ∧ a9 ∧ a10 ∧ a11 ∧ a12 ∧ a13 ∧ a14 ∧ a15 ∧ a16 := ⟨x0,x1,x2,x3,x4,x5,x6,x7,x8,x9,x10,x11,x12,x13,x14,x15,x16⟩
theorem bw18 {a0 a1 a2 a3 a4 a5 a6 a7 a8 a9 a10 a11 a12 a13 a14 a15 a16 a17 : Prop} (x0 : a0) (x1 : a1) (x2 : a2) (x3 : a3) (x4 : a4) (x5 : a5) (x6 : a6) (x7 : a7) (x8 : a8) (x9 : a9) (x10 : a10) (x11 : a11) (x12 : a12) (x13 : a13) (x14 : a14) (x15 : a15) (x16 : a16) (x17 : a17) : a0 ∧ a1 ∧ a2 ∧ a3 ∧ a4 ∧ a5 ∧ a6 ∧ a7 ∧ a8 ∧ a9 ∧ a10 ∧ a11 ∧ a12 ∧ a13 ∧ a14 ∧ a15 ∧ a16 ∧ a17 := ⟨x0,x1,x2,x3,x4,x5,x6,x7,x8,x9,x10,x11,x12,x13,x14,x15,x16,x17⟩
theorem bw20 {a0 a1 a2 a3 a4 a5 a6 a7 a8 a9 a10 a11 a12 a13 a14 a15 a16 a17 a18 a19 : Prop} (x0 : a0) (x1 : a1) (x2 : a2) (x3 : a3) (x4 : a4) (x5 : a5) (x6 : a6) (x7 : a7) (x8 : a8) (x9 : a9) (x10 : a10) (x11 : a11) (x12 : a12) (x13 : a13) (x14 : a14) (x15 : a15) (x16 : a16) (x17 : a17) (x18 : a18) (x19 : a19) : a0 ∧ a1 ∧ a2 ∧ a3 ∧ a4 ∧ a5 ∧ a6 ∧ a7 ∧ a8 ∧ a9 ∧ a10 ∧ a11 ∧ a12 ∧ a13 ∧ a14 ∧ a15 ∧ a16 ∧ a17 ∧ a18 ∧ a19 := ⟨x0,x1,x2,x3,x4,x5,x6,x7,x8,x9,x10,x11,x12,x13,x14,x15,x16,x17,x18,x19⟩
theorem bw22 {a0 a1 a2 a3 a4 a5 a6 a7 a8 a9 a10 a11 a12 a13 a14 a15 a16 a17 a18 a19 a20 a21 : Prop} (x0 : a0) (x1 : a1) (x2 : a2) (x3 : a3) (x4 : a4) (x5 : a5) (x6 : a6) (x7 : a7) (x8 : a8) (x9 : a9) (x10 : a10) (x11 : a11) (x12 : a12) (x13 : a13) (x14 : a14) (x15 : a15) (x16 : a16) (x17 : a17) (x18 : a18) (x19 : a19) (x20 : a20) (x21 : a21) : a0 ∧ a1 ∧ a2 ∧ a3 ∧ a4 ∧ a5 ∧ a6 ∧ a7 ∧ a8 ∧ a9 ∧ a10 ∧ a11 ∧ a12 ∧ a13 ∧ a14 ∧ a15 ∧ a16 ∧ a17 ∧ a18 ∧ a19 ∧ a20 ∧ a21 := ⟨x0,x1,x2,x3,x4,x5,x6,x7,x8,x9,x10,x11,x12,x13,x14,x15,x16,x17,x18,x19,x20,x21⟩
theorem bw24 {a0 a1 a2 a3 a4 a5 a6 a7 a8 a9 a10 a11 a12 a13 a14 a15 a16 a17 a18 a19 a20 a21 a22 a23 : Prop} (x0 : a0) (x1 : a1) (x2 : a2) (x3 : a3) (x4 : a4) (x5 : a5) (x6 : a6) (x7 : a7) (x8 : a8) (x9 : a9) (x10 : a10) (x11 : a11) (x12 : a12) (x13 : a13) (x14 : a14) (x15 : a15) (x16 : a16) (x17 : a17) (x18 : a18) (x19 : a19) (x20 : a20) (x21 : a21) (x22 : a22) (x23 : a23) : a0 ∧ a1 ∧ a2 ∧ a3 ∧ a4 ∧ a5 ∧ a6 ∧ a7 ∧ a8 ∧ a9 ∧ a10 ∧ a11 ∧ a12 ∧ a13 ∧ a14 ∧ a15 ∧ a16 ∧ a17 ∧ a18 ∧ a19 ∧ a20 ∧ a21 ∧ a22 ∧ a23 := ⟨x0,x1,x2,x3,x4,x5,x6,x7,x8,x9,x10,x11,x12,x13,x14,x15,x16,x17,x18,x19,x20,x21,x22,x23⟩
theorem bw31 {a0 a1 a2 a3 a4 a5 a6 a7 a8 a9 a10 a11 a12 a13 a14 a15 a16 a17 a18 a19 a20 a21 a22 a23 a24 a25 a26 a27 a28 a29 a30 : Prop} (x0 : a0) (x1 : a1) (x2 : a2) (x3 : a3) (x4 : a4) (x5 : a5) (x6 : a6) (x7 : a7) (x8 : a8) (x9 : a9) (x10 : a10) (x11 : a11) (x12 : a12) (x13 : a13) (x14 : a14) (x15 : a15) (x16 : a16) (x17 : a17) (x18 : a18) (x19 : a19) (x20 : a20) (x21 : a21) (x22 : a22) (x23 : a23) (x24 : a24) (x25 : a25) (x26 : a26) (x27 : a27) (x28 : a28) (x29 : a29) (x30 : a30) : a0 ∧ a1 ∧ a2 ∧ a3 ∧ a4 ∧ a5 ∧ a6 ∧ a7 ∧ a8 ∧ a9 ∧ a10 ∧ a11 ∧ a12 ∧ a13 ∧ a14 ∧ a15 ∧ a16 ∧ a17 ∧ a18 ∧ a19 ∧ a20 ∧ a21 ∧ a22 ∧ a23 ∧ a24 ∧ a25 ∧ a26 ∧ a27 ∧ a28 ∧ a29 ∧ a30 := ⟨x0,x1,x2,x3,x4,x5,x6,x7,x8,x9,x10,x11,x12,x13,x14,x15,x16,x17,x18,x19,x20,x21,x22,x23,x24,x25,x26,x27,x28,x29,x30⟩
theorem isS {α : Type} (a : α) : (some a).isSome = true := rfl
theorem isN {α : Type} : (none : Option α).isSome = false := rfl
end Go.Den
end
section
namespace Go.Den
def calm : DOp → Bool
 | .load .. => false
 | .lookup .. => false
 | .bytesToStr .. => false
 | .store .. => false
 | _ => true
theorem foot_calm {tm : List PV} {o : DOp} {m : Nat} (h : calm o = true) : footOf tm o m m = .quiet := by
 cases o <;> first | (simp [footOf];done) | cases h
theorem clash_q (l : Nat) : clash l .quiet = false := rfl
theorem clash_l (l m : Nat) : clash l (.ld m) = false := rfl
theorem clash_s (l m : Nat) : clash l (.st m) = (l == m) := rfl
theorem clash_w (l m : Nat) : clash l (.wr m) = decide (m ≤ l) := rfl
theorem hp_lo (s : St) (x l : Nat) : hp { heap := s.heap,lo := x } l = hp s l := rfl
attribute [go_sem] hp_lo
section
variable {E : Env} {tm : List PV} {st : St} {QD : Ex → List PV → St → List Foot → Prop} {dst : Option Nat} {g : Option (Nat × Bool)} {os : List DOper} {b : Bool} {v : PV}
theorem wopsD_light {o : DOp} (hc : calm o = true) (hlo : st.lo ≤ st.heap.length) (hw : wants tm g = b) (hb : b = true) (ho : ∀ rec (st1 : St),st1.heap = st.heap → (∀ l,hp st1 l = hp st l) → stepOp E rec tm st1 o = some (.val v st1))
  (h : WOpsD E os (fun e tm' st' fs => QD e tm' st' (.quiet :: fs)) (put tm dst v) st) : WOpsD E (⟨o,dst,g⟩ :: os) QD tm st :=
 wopsD_pure' hlo hw hb ho (by rw [foot_calm hc];exact h)
theorem wopsD_pushF {o : DOp} {ob : HObj} (hc : calm o = true) (hlo : st.lo ≤ st.heap.length) (hw : wants tm g = b) (hb : b = true) (ho : ∀ rec (st1 : St),st1.heap = st.heap → stepOp E rec tm st1 o = some (.val v (st1.push ob)))
  (h : WOpsD E os (fun e tm' st' fs => QD e tm' st' (.quiet :: fs)) (put tm dst v) (st.push ob)) : WOpsD E (⟨o,dst,g⟩ :: os) QD tm st :=
 wopsD_push hlo hw hb ho (by rw [foot_calm hc];exact h)
theorem wopsD_ldC {agg : Bool} {sz : Nat} {a : Opd} {cs : List PV} (hlo : st.lo ≤ st.heap.length) (hw : wants tm g = b) (hb : b = true) (ha : a.ev tm = .cptr cs) (hv : rdPart agg sz cs = some v)
  (h : WOpsD E os (fun e tm' st' fs => QD e tm' st' (.quiet :: fs)) (put tm dst v) st) : WOpsD E (⟨.load agg sz a,dst,g⟩ :: os) QD tm st :=
 wopsD_pure' (v := v) hlo hw hb (fun rec st1 _ _ => by simp only [stepOp,ha,hv,Option.map_some]) (by simp only [footOf,ha];exact h)
theorem wopsD_ldP {agg : Bool} {sz : Nat} {a : Opd} {l off : Nat} {cs : List PV} (hlo : st.lo ≤ st.heap.length) (hw : wants tm g = b) (hb : b = true) (ha : a.ev tm = .ptr l off) (hh : hp st l = some (.var cs)) (ht : decide (off ≤ cs.length) = true) (hv : rdPart agg sz (cs.drop off) = some v)
  (h : WOpsD E os (fun e tm' st' fs => QD e tm' st' (.ld l :: fs)) (put tm dst v) st) : WOpsD E (⟨.load agg sz a,dst,g⟩ :: os) QD tm st :=
 wopsD_pure' (v := v) hlo hw hb (fun rec st1 _ h1 => by
  have h2 : st1.heap[l]? = some (.var cs) := (h1 l).trans hh
  simp only [stepOp,ha,h2,of_decide_eq_true ht,if_true,hv,Option.map_some]) (by simp only [footOf,ha];exact h)
theorem wopsD_store {sz : Nat} {a x : Opd} {l off : Nat} {cs p cs' : List PV} (hlo : st.lo ≤ st.heap.length) (hw : wants tm g = b) (hb : b = true) (ha : a.ev tm = .ptr l off) (hx : (x.ev tm).cells = p) (hh : hp st l = some (.var cs)) (hp : (decide (p.length = sz) && (decide (off + sz ≤ cs.length) && p.all PV.isCell)) = true) (hs : splice cs off p = cs')
  (h : WOpsD E os (fun e tm' st' fs => QD e tm' st' (.st l :: fs)) (put tm dst undef) (setVar st l (.var cs'))) : WOpsD E (⟨.store sz a x,dst,g⟩ :: os) QD tm st := by
 simp only [Bool.and_eq_true,decide_eq_true_eq] at hp
 refine wopsD_set (v := undef) (l := l) (ob := .var cs') hlo (Nat.le_of_lt (hp_lt hh)) hw hb (fun rec st1 _ h1 => ?_) (by simp only [footOf,ha];exact h)
 have h2 : st1.heap[l]? = some (.var cs) := (h1 l).trans hh
 simp only [stepOp,ha,h2,hx,hp,and_self,if_true,hs]
end
theorem go2 {P C G R : Prop} (ff : P) (cc : C) (r : R) (k : P → C → Hid R → G := by
 intro ff cc hR
 (repeat (first
  | apply wp_seq | apply wp_region_ops | apply wp_dregion_ops | apply wp_block_seq | apply wp_block_region | apply wp_block_cond | apply wp_block_dregion | apply wp_scope | apply wp_ret | apply wp_skip | apply wp_exit | apply andThen_normal | apply andThen_ret | apply andThen_exit | apply andThen_panic | apply inBlock_panic | apply inBlock_normal | apply inBlock_ret | apply inBlock_same | (apply inBlock_other (by decide)) | apply wops_nil
  | (refine wops_one' (by simp only [↓reduceIte,go_sem,ff];first | done | rfl) (by with_reducible rfl) (fun rec => by simp only [↓reduceIte,go_sem,ff];with_reducible rfl) (by with_reducible rfl) ?_)
  | (refine wops_index (by simp only [↓reduceIte,go_sem,ff];first | done | rfl) (by with_reducible rfl) (by simp only [↓reduceIte,go_sem,ff];first | done | rfl) (by assumption) (by simp only [↓reduceIte,go_sem,ff];first | done | rfl) (by first | assumption | omega) ?_)
  | (refine wops_indexI (by simp only [↓reduceIte,go_sem,ff];first | done | rfl) (by with_reducible rfl) (by simp only [↓reduceIte,go_sem,ff];first | done | rfl) (by assumption) (by simp only [↓reduceIte,go_sem,ff];first | done | rfl) (by first | assumption | omega) (by first | assumption | omega) ?_)
  | (refine wopsD_light rfl (by first | omega | (simp only [lo_push,lo_setVar,len_push,len_setVar];omega)) (by simp only [↓reduceIte,go_sem,ff];first | done | rfl) (by with_reducible rfl) (fun rec st1 he hh => by simp only [↓reduceIte,go_sem,ff,he,hh];with_reducible rfl) ?_)
  | (refine wopsD_ldC (by first | omega | (simp only [lo_push,lo_setVar,len_push,len_setVar];omega)) (by simp only [↓reduceIte,go_sem,ff];first | done | rfl) (by with_reducible rfl) (by simp only [↓reduceIte,go_sem,ff];first | done | rfl) (by simp only [↓reduceIte,go_sem,ff];with_reducible rfl) ?_)
  | (refine wopsD_ldP (by first | omega | (simp only [lo_push,lo_setVar,len_push,len_setVar];omega)) (by simp only [↓reduceIte,go_sem,ff];first | done | rfl) (by with_reducible rfl) (by simp only [↓reduceIte,go_sem,ff];first | done | rfl) (by simp only [↓reduceIte,go_sem,ff];first | done | rfl) (by simp only [↓reduceIte,go_sem,ff];first | done | rfl) (by simp only [↓reduceIte,go_sem,ff];with_reducible rfl) ?_)
  | (refine wopsD_store (by first | omega | (simp only [lo_push,lo_setVar,len_push,len_setVar];omega)) (by simp only [↓reduceIte,go_sem,ff];first | done | rfl) (by with_reducible rfl) (by simp only [↓reduceIte,go_sem,ff];first | done | rfl) (by simp only [↓reduceIte,go_sem,ff];first | done | rfl) (by simp only [↓reduceIte,go_sem,ff];first | done | rfl) (by simp only [↓reduceIte,go_sem,ff];first | done | rfl) (by simp only [↓reduceIte,go_sem,ff];with_reducible rfl) ?_)
  | (refine wopsD_pushF rfl (by first | omega | (simp only [lo_push,lo_setVar,len_push,len_setVar];omega)) (by simp only [↓reduceIte,go_sem,ff];first | done | rfl) (by with_reducible rfl) (fun rec st1 he => by simp only [↓reduceIte,go_sem,ff,he];with_reducible rfl) ?_)
  | (refine wopsD_index (by first | omega | (simp only [lo_push,lo_setVar,len_push,len_setVar];omega)) (by simp only [↓reduceIte,go_sem,ff];first | done | rfl) (by with_reducible rfl) (by simp only [↓reduceIte,go_sem,ff];first | done | rfl) (by assumption) (by simp only [↓reduceIte,go_sem,ff];first | done | rfl) (by first | assumption | omega) ?_)
  | (refine wopsD_indexI (by first | omega | (simp only [lo_push,lo_setVar,len_push,len_setVar];omega)) (by simp only [↓reduceIte,go_sem,ff];first | done | rfl) (by with_reducible rfl) (by simp only [↓reduceIte,go_sem,ff];first | done | rfl) (by assumption) (by simp only [↓reduceIte,go_sem,ff];first | done | rfl) (by first | assumption | omega) (by first | assumption | omega) ?_)
  | (refine wopsD_skip' (by simp only [↓reduceIte,go_sem,ff];first | done | rfl) (by with_reducible rfl) ?_) | (apply wopsD_nil;refine ⟨by first | exact footOk_quiet (by rfl) | (simp only [footOk,clash_q,clash_l,clash_s,clash_w,List.all_cons,List.all_nil,List.getElem?_cons_zero,List.getElem?_cons_succ,Bool.and_true,Bool.not_false,Bool.not_eq_true',beq_eq_false_iff_ne,decide_eq_false_iff_not,Bool.and_eq_true,ff];first | done | omega | (simp;done)),?_⟩)
  | (refine wops_panic (by simp only [↓reduceIte,go_sem,ff];first | done | rfl) (by with_reducible rfl) (by simp only [↓reduceIte,go_sem,ff];first | done | rfl) ?_)
  | (refine wops_skip' (by simp only [↓reduceIte,go_sem,ff];first | done | rfl) (by with_reducible rfl) ?_) | (refine wp_condT (by simp only [↓reduceIte,go_sem,ff];first | done | rfl) ?_) | (refine wp_condF (by simp only [↓reduceIte,go_sem,ff];first | done | rfl) ?_)
  | (refine wopsD_call (by first | omega | (simp only [lo_push,lo_setVar,len_push,len_setVar];omega)) (by simp only [↓reduceIte,go_sem,ff];first | done | rfl) (by with_reducible rfl) (by simp only [↓reduceIte,go_sem,ff];first | done | rfl) (fun st1 he => by simp only [↓reduceIte,go_sem,ff];first | (apply cc.1 <;> first | assumption | omega | decide) | (apply cc.2.1 <;> first | assumption | omega | decide) | (apply cc.2.2.1 <;> first | assumption | omega | decide) | (apply cc.2.2.2.1 <;> first | assumption | omega | decide) | (apply cc.2.2.2.2.1 <;> first | assumption | omega | decide) | (apply cc.2.2.2.2.2.1 <;> first | assumption | omega | decide) | (apply cc.2.2.2.2.2.2.1 <;> first | assumption | omega | decide) | (apply cc.2.2.2.2.2.2.2.1 <;> first | assumption | omega | decide) | (apply cc.2.2.2.2.2.2.2.2.1 <;> first | assumption | omega | decide)) ?_)
  | (refine wops_call' (by simp only [↓reduceIte,go_sem,ff];first | done | rfl) (by with_reducible rfl) (by simp only [↓reduceIte,go_sem,ff];first | done | rfl) (by simp only [↓reduceIte,go_sem,ff];first | (apply cc.1 <;> first | assumption | omega | decide) | (apply cc.2.1 <;> first | assumption | omega | decide) | (apply cc.2.2.1 <;> first | assumption | omega | decide) | (apply cc.2.2.2.1 <;> first | assumption | omega | decide) | (apply cc.2.2.2.2.1 <;> first | assumption | omega | decide) | (apply cc.2.2.2.2.2.1 <;> first | assumption | omega | decide) | (apply cc.2.2.2.2.2.2.1 <;> first | assumption | omega | decide) | (apply cc.2.2.2.2.2.2.2.1 <;> first | assumption | omega | decide) | (apply cc.2.2.2.2.2.2.2.2.1 <;> first | assumption | omega | decide)) ?_)))
 exact hR.out) : G := k ff cc (.mk r)
end Go.Den
end
section
namespace Go.Den
theorem sG {P G : Prop} (ff : P) (k : P → G := by intro ff;simp only [↓reduceIte,go_sem,ff]) : G := k ff
theorem sR {P G : Prop} (ff : P) (k : P → G := by intro ff;simp only [↓reduceIte,go_sem,ff];first | done | rfl) : G := k ff
theorem fQ {P G : Prop} (ff : P) (k : P → G := by
 intro ff
 refine fnq_flat (results_one ?_) ?_ ?_
 ·rw [rdRes_tmp];simp only [↓reduceIte,go_sem,ff];first | done | rfl
 ·first | exact Nat.le_refl _ | omega | (simp only [lo_push,lo_setVar];omega)
 ·rfl) : G := k ff
theorem fY {P G : Prop} (ff : P) (k : P → G := by
 intro ff
 refine fnq_tuple ?_ ?_ ?_
 ·simp only [results,rdResL,rdRes_tmp,rdRes_c,rcR_p,↓reduceIte,go_sem,ff];first | done | rfl
 ·first | exact Nat.le_refl _ | omega | (simp only [lo_push,lo_setVar];omega)
 ·rfl) : G := k ff
theorem fX {P : Prop} {rs : List DRes} {st : St} {R : PV → St → Prop} {e : Ex} {tm1 : List PV} {st1 : St} (v : PV) (ff : P) (h : R (finishCall st st1 v).1 (finishCall st st1 v).2) (he : e = .ret ∨ e = .normal := by first | exact .inl rfl | exact .inr rfl) (k : P → results tm1 st1.heap rs = some v := by intro ff;simp only [results,rdResL,rdRes_tmp,rdRes_c,rcR_p,↓reduceIte,go_sem,ff];first | done | rfl) : FnR rs st R e tm1 st1 := by
 rcases he with rfl | rfl
 ·exact fnr_ret (k ff) h
 ·exact fnr_normal (k ff) h
theorem lN {P : Prop} {W : List Nat} {a b : List PV} {n : Nat} (hS : Same W a b) (ff : P) (k : P → a.length = n := by intro ff;simp only [put_len,ff]) : b.length = n := hS.1.trans (k ff)
theorem tQ {P : Prop} {W : List Nat} {a b : List PV} {i : Nat} {v : PV} (hS : Same W a b) (ff : P) (hi : W.contains i = false := by first | decide | rfl) (k : P → tg a i = v := by intro ff;simp only [↓reduceIte,go_sem,ff]) : tg b i = v := (hS.2 i hi).trans (k ff)
section
variable {E : Env} {st : St} {g : Nat} {a c args : List PV} {n : Nat} {rs : List DRes} {b : DCode} {x0 x1 x2 x3 x4 : PV}
section
variable {r : CR} {st' : St} (hp : ∀ r a s,E.prim g r a s = none) (hf : E.fn g = some ⟨n,rs,b⟩)
include hp hf
theorem cF0 (h : ∀ tm,tm.length = n → Wp E b (FnQ rs st r st') tm { heap := st.heap,lo := st.heap.length }) (hk : a ++ args ++ c = [] := by rfl) : Cl E (.func g a c) args st r st' :=
 cl_fn (hp · _ _) hf 0 (by rw [hk];rfl) (Nat.zero_le _) fun tm hl _ => h tm hl
theorem cF1 (h : ∀ tm,tm.length = n → tg tm 0 = x0 → Wp E b (FnQ rs st r st') tm { heap := st.heap,lo := st.heap.length }) (hk : a ++ args ++ c = [x0] := by rfl) (hn : 1 ≤ n := by decide) : Cl E (.func g a c) args st r st' :=
 cl_fn (hp · _ _) hf 1 (by rw [hk];rfl) hn fun tm hl hg => by rw [hk] at hg;exact h tm hl (hg 0 (by decide))
theorem cF2 (h : ∀ tm,tm.length = n → tg tm 0 = x0 → tg tm 1 = x1 → Wp E b (FnQ rs st r st') tm { heap := st.heap,lo := st.heap.length }) (hk : a ++ args ++ c = [x0,x1] := by rfl) (hn : 2 ≤ n := by decide) : Cl E (.func g a c) args st r st' :=
 cl_fn (hp · _ _) hf 2 (by rw [hk];rfl) hn fun tm hl hg => by rw [hk] at hg;exact h tm hl (hg 0 (by decide)) (hg 1 (by decide))
theorem cF3 (h : ∀ tm,tm.length = n → tg tm 0 = x0 → tg tm 1 = x1 → tg tm 2 = x2 → Wp E b (FnQ rs st r st') tm { heap := st.heap,lo := st.heap.length }) (hk : a ++ args ++ c = [x0,x1,x2] := by rfl) (hn : 3 ≤ n := by decide) : Cl E (.func g a c) args st r st' :=
 cl_fn (hp · _ _) hf 3 (by rw [hk];rfl) hn fun tm hl hg => by rw [hk] at hg;exact h tm hl (hg 0 (by decide)) (hg 1 (by decide)) (hg 2 (by decide))
theorem cF4 (h : ∀ tm,tm.length = n → tg tm 0 = x0 → tg tm 1 = x1 → tg tm 2 = x2 → tg tm 3 = x3 → Wp E b (FnQ rs st r st') tm { heap := st.heap,lo := st.heap.length }) (hk : a ++ args ++ c = [x0,x1,x2,x3] := by rfl) (hn : 4 ≤ n := by decide) : Cl E (.func g a c) args st r st' :=
 cl_fn (hp · _ _) hf 4 (by rw [hk];rfl) hn fun tm hl hg => by rw [hk] at hg;exact h tm hl (hg 0 (by decide)) (hg 1 (by decide)) (hg 2 (by decide)) (hg 3 (by decide))
end
section
variable {R : PV → St → Prop} (hp : ∀ r a s,E.prim g r a s = none) (hf : E.fn g = some ⟨n,rs,b⟩)
include hp hf
theorem cG0 (h : ∀ tm,tm.length = n → Wp E b (FnR rs st R) tm { heap := st.heap,lo := st.heap.length }) (hk : a ++ args ++ c = [] := by rfl) : ClR E (.func g a c) args st R :=
 clr_fn (hp · _ _) hf 0 (by rw [hk];rfl) (Nat.zero_le _) fun tm hl _ => h tm hl
theorem cG1 (h : ∀ tm,tm.length = n → tg tm 0 = x0 → Wp E b (FnR rs st R) tm { heap := st.heap,lo := st.heap.length }) (hk : a ++ args ++ c = [x0] := by rfl) (hn : 1 ≤ n := by decide) : ClR E (.func g a c) args st R :=
 clr_fn (hp · _ _) hf 1 (by rw [hk];rfl) hn fun tm hl hg => by rw [hk] at hg;exact h tm hl (hg 0 (by decide))
theorem cG2 (h : ∀ tm,tm.length = n → tg tm 0 = x0 → tg tm 1 = x1 → Wp E b (FnR rs st R) tm { heap := st.heap,lo := st.heap.length }) (hk : a ++ args ++ c = [x0,x1] := by rfl) (hn : 2 ≤ n := by decide) : ClR E (.func g a c) args st R :=
 clr_fn (hp · _ _) hf 2 (by rw [hk];rfl) hn fun tm hl hg => by rw [hk] at hg;exact h tm hl (hg 0 (by decide)) (hg 1 (by decide))
theorem cG3 (h : ∀ tm,tm.length = n → tg tm 0 = x0 → tg tm 1 = x1 → tg tm 2 = x2 → Wp E b (FnR rs st R) tm { heap := st.heap,lo := st.heap.length }) (hk : a ++ args ++ c = [x0,x1,x2] := by rfl) (hn : 3 ≤ n := by decide) : ClR E (.func g a c) args st R :=
 clr_fn (hp · _ _) hf 3 (by rw [hk];rfl) hn fun tm hl hg => by rw [hk] at hg;exact h tm hl (hg 0 (by decide)) (hg 1 (by decide)) (hg 2 (by decide))
end
section
variable {R : CR → St → Prop} (hp : ∀ r a s,E.prim g r a s = none) (hf : E.fn g = some ⟨n,rs,b⟩)
include hp hf
theorem cA1 (h : ∀ tm,tm.length = n → tg tm 0 = x0 → Wp E b (FnA rs st R) tm { heap := st.heap,lo := st.heap.length }) (hk : a ++ args ++ c = [x0] := by rfl) (hn : 1 ≤ n := by decide) : ClA E (.func g a c) args st R :=
 cla_fn (hp · _ _) hf 1 (by rw [hk];rfl) hn fun tm hl hg => by rw [hk] at hg;exact h tm hl (hg 0 (by decide))
theorem cA2 (h : ∀ tm,tm.length = n → tg tm 0 = x0 → tg tm 1 = x1 → Wp E b (FnA rs st R) tm { heap := st.heap,lo := st.heap.length }) (hk : a ++ args ++ c = [x0,x1] := by rfl) (hn : 2 ≤ n := by decide) : ClA E (.func g a c) args st R :=
 cla_fn (hp · _ _) hf 2 (by rw [hk];rfl) hn fun tm hl hg => by rw [hk] at hg;exact h tm hl (hg 0 (by decide)) (hg 1 (by decide))
end
end
theorem cR {P : Prop} {E : Env} {Q : Ex → List PV → St → Prop} {tm : List PV} {st : St} {f : Opd} {as : List Opd} {args : List PV} {dst : Option Nat} {g : Option (Nat × Bool)} {os : List DOper} {fv : PV} {R : PV → St → Prop} (ff : P) (hc : ClR E fv args st R) (h : ∀ v st1,R v st1 → WOps E os Q (put tm dst v) st1)
  (hw : P → wants tm g = true := by intro ff;first | exact wants_none _ | (simp only [↓reduceIte,go_sem,ff];first | done | rfl)) (hf : P → f.ev tm = fv := by intro ff;simp only [↓reduceIte,go_sem,ff];first | done | rfl) (ha : P → evs tm as = args := by intro ff;simp only [↓reduceIte,go_sem,ff];first | done | rfl) : WOps E (⟨.call f as,dst,g⟩ :: os) Q tm st :=
 wops_callR (hw ff) rfl (hf ff) (by rw [ha ff];exact hc) h
theorem aP {P : Prop} {E : Env} {Q : Ex → List PV → St → Prop} {tm : List PV} {st : St} {sz : Nat} {x y : Opd} {dst : Option Nat} {os : List DOper} {m n k : Nat} {v w : PV} {cs ys : List PV} (ff : P) (ho : OwnS m st sz v n cs)
  (h : ∀ v' st',OwnS m st' sz v' (n + k) (cs ++ ys.map PV.share) → Fr m st st' → (∀ l o,hp st l = some o → (∀ b,o ≠ .tag b) → hp st' l = some o) → WOps E os Q (put tm dst v') st')
  (hx : P → x.ev tm = v := by intro ff;simp only [↓reduceIte,go_sem,ff];first | done | rfl) (hy : P → y.ev tm = w := by intro ff;simp only [↓reduceIte,go_sem,ff];first | done | rfl) (hyl : w.sl = some (k,ys) := by rfl) (hm : m ≤ st.heap.length := by first | omega | (simp only [len_push,len_setVar];omega)) (hl : ys.length = k * sz := by rfl) (hc : ys.all PV.isCell = true := by rfl) (hn : n + k ≤ maxList := by simp only [maxList];omega) : WOps E (⟨.append false sz x y,dst,none⟩ :: os) Q tm st :=
 wops_append rfl rfl (hx ff) (hy ff) ho hyl hm hl hc hn h
theorem n4 {a b : Nat} (h : a < b) : ((a = b) = False) ∧ (∀ k,(a = b + k) = False) ∧ ((a < b) = True) ∧ ∀ k,(a < b + k) = True := ⟨neL h,neA h,ltL h,ltA h⟩
end Go.Den
end

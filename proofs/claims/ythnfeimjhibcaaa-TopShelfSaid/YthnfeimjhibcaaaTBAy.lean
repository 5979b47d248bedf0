/- Part of the proofs of laws of the package version. Texts: DenIterN. -/
import Derived.Test.YthnfeimjhibcaaaTBAk
set_option linter.unusedSimpArgs false
set_option linter.unusedVariables false
section
namespace Go.Den
structure YldN {α:Type} (E:Env) (y:PV) (X:List α) (Rep:PV→α→Prop) (W:Nat→Prop) (e w:Nat) (I:Nat→List HObj→Prop) (S:List HObj→Prop):Prop where
 stab:∀ i h h',I i h→HExt h h'→I i h'
 setI:∀ i h l cs cs',w<l→I i h→h[l]? = some (.var cs)→I i (h.set l (.var cs'))
 step:∀ i (hi:i<X.length) v st,Rep v X[i]→I i st.heap→e≤st.lo→st.lo≤st.heap.length→w<st.heap.length→∃ b st',Cl E y [v] st (.ret (.bool b)) st'∧KeepV W st.heap st'.heap∧e≤st'.lo∧st'.lo≤w∧(b=true→I (i+1) st'.heap)∧(b=false→S st'.heap)
def IterN {α:Type} (E:Env) (f:PV) (st0:St) (X:List α) (Rep:PV→α→Prop) (priv:Nat→Prop):Prop :=
 ∀ (y:PV) (W:Nat→Prop) (e w:Nat) (I:Nat→List HObj→Prop) (S:List HObj→Prop),YldN E y X Rep W e w I S→(∀ l,priv l→¬ W l)→(∀ l,W l→l≤w)→I 0 st0.heap→e≤st0.lo→st0.lo≤st0.heap.length→w<st0.heap.length→e≤w→y.isCell=true→y.cells=[y] →
  ∃ v st',Cl E f [y] st0 (.ret v) st'∧KeepV W st0.heap st'.heap∧e≤st'.lo∧st'.lo≤st'.heap.length∧(I X.length st'.heap∨S st'.heap)
section
variable {E:Env} {Q:Ex→List PV→St→Prop} {tm:List PV} {st:St}
theorem wp_rangeN {α:Type} {X:List α} {Rep:PV→α→Prop} {f:Opd} {g:Nat} {fa fc:List PV} {ps:List Nat} {assign body:DCode} {priv:Nat→Prop} (W:Nat→Prop) (e:Nat) (J:Nat→List HObj→Prop) (D:Jump→List HObj→Prop) (hf:f.ev tm = .func g fa fc) (hI:IterN E (.func g fa fc) (st.push (.loop tm ps assign body .ready none)) X Rep priv)
  (hW:∀ l,priv l→¬ W l∧l≠st.heap.length) (hWl:∀ l,W l→l≤st.heap.length) (he:e≤st.lo) (hwf:st.lo≤st.heap.length)
  (stab:∀ i h h',J i h→HExt h h'→J i h') (stabD:∀ j h h',D j h→HExt h h'→D j h')
  (stabL:∀ i h s p s' p',J i h→h[st.heap.length]? = some (.loop tm ps assign body s p)→J i (h.set st.heap.length (.loop tm ps assign body s' p'))) (stabDL:∀ j h s p s' p',D j h→h[st.heap.length]? = some (.loop tm ps assign body s p)→D j (h.set st.heap.length (.loop tm ps assign body s' p')))
  (stabN:∀ i h l cs cs',st.heap.length<l→J i h→h[l]? = some (.var cs)→J i (h.set l (.var cs')))
  (init:J 0 st.heap)
  (step:∀ i (hi:i<X.length) v st1,Rep v X[i]→J i st1.heap→e≤st1.lo→st1.lo≤st1.heap.length→hp st1 st.heap.length=some (.loop tm ps assign body .ready none) →
   ∃ tm0,setParams tm ps [v]=some tm0∧Wp E assign (fun ex tm1 st2=>ex = .normal∧HExt st1.heap st2.heap∧e≤st2.lo∧st2.lo≤st2.heap.length∧Wp E body (BodyQ st.heap.length tm ps assign body (fun l=>W l∨l=st.heap.length) e st2.heap (J (i+1)) D) tm1 (setVar st2 st.heap.length (.loop tm ps assign body .busy none))) tm0 st1)
  (done:∀ st',J X.length st'.heap→KeepV W st.heap st'.heap→e≤st'.lo→st'.lo≤st'.heap.length→Q .normal tm st')
  (stop:∀ j st',D j st'.heap→KeepV W st.heap st'.heap→e≤st'.lo→st'.lo≤st'.heap.length→Q (jumpEx j) tm st') :
  Wp E (.rangeFunc f ps assign body) Q tm st:=by
 have hp0:hp (st.push (.loop tm ps assign body .ready none)) st.heap.length=some (.loop tm ps assign body .ready none):=by rw [hp_push,if_pos rfl]
 have Y0:=yield_ok (E:=E) (X:=X) (Rep:=Rep) (W:=fun l=>W l∨l=st.heap.length) (e:=e) (L:=st.heap.length) (tm:=tm) (ps:=ps) (assign:=assign) (body:=body) (J:=J) (D:=D) (by omega) (.inr rfl) stab stabD stabL stabDL step
 have Y:YldN E (.yield st.heap.length) X Rep (fun l=>W l∨l=st.heap.length) e st.heap.length (fun i h=>J i h∧h[st.heap.length]? = some (.loop tm ps assign body .ready none)) (fun h=>∃ j,D j h∧h[st.heap.length]? = some (.loop tm ps assign body .done (some j))) :=
  ⟨Y0.stab,fun i h l cs cs' hl ⟨h1,h2⟩ hv=>⟨stabN i h l cs cs' hl h1 hv,by rw [List.getElem?_set_ne (by omega)];exact h2⟩,Y0.step⟩
 obtain ⟨v,st1,⟨N,hN⟩,hk,he1,hwf1,hfin⟩:=hI (.yield st.heap.length) (fun l=>W l∨l=st.heap.length) e st.heap.length _ _ Y (fun l hl h=>by obtain ⟨h1,h2⟩:=hW l hl;rcases h with h|h;exact h1 h;exact h2 h) (fun l hl=>by rcases hl with h|h;exact hWl l h;exact Nat.le_of_eq h) ⟨stab 0 _ _ init (.push st _),hp0⟩ he (by rw [lo_push,len_push];omega) (by rw [len_push];omega) (by omega) rfl rfl
 have hpush:({ heap:=st.heap++[.loop tm ps assign body .ready none],lo:=st.lo }:St)=st.push (.loop tm ps assign body .ready none):=rfl
 have hkeep:∀ s p,KeepV W st.heap (setVar st1 st.heap.length (.loop tm ps assign body s p)).heap:=by
  intro s p
  have h1:=hk.1
  rw [len_push] at h1
  refine ⟨by rw [len_setVar];omega,fun l o ho hko hn=>?_⟩
  have hl:=(List.getElem?_eq_some_iff.1 ho).1
  have h2:=hk.2 l o (by have:=hp_push st (.loop tm ps assign body .ready none) l;rw [if_neg (by omega)] at this;exact this.trans ho) hko (by rintro (h|h);exact hn h;omega)
  have:=hp_setVar st1 st.heap.length l (.loop tm ps assign body s p)
  rw [if_neg (by omega)] at this
  exact this.trans h2
 have hlen:st.heap.length<st1.heap.length:=by have:=hk.1;rw [len_push] at this;omega
 have hlo:∀ s p,e≤(setVar st1 st.heap.length (.loop tm ps assign body s p)).lo:=fun s p=>by rw [lo_setVar];omega
 have hwfs:∀ s p,(setVar st1 st.heap.length (.loop tm ps assign body s p)).lo≤(setVar st1 st.heap.length (.loop tm ps assign body s p)).heap.length:=fun s p=>by rw [lo_setVar,len_setVar];omega
 rcases hfin with ⟨hJ,hL⟩|⟨j,hD,hL⟩
 ·refine .of_step N (fun n hn=>?_) (done _ (stabL _ _ _ _ .over none hJ hL) (hkeep _ _) (hlo _ _) (hwfs _ _))
  simp only [stepCode,hf,hpush,hN n hn,setLoop,hL,id_eq]
 ·have hq:=stop j _ (stabDL _ _ _ _ .over (some j) hD hL) (hkeep _ _) (hlo _ _) (hwfs _ _)
  cases j with
  | ret =>
   refine .of_step N (fun n hn=>?_) hq
   simp only [stepCode,hf,hpush,hN n hn,setLoop,hL,id_eq,jumpEx]
  | exit i =>
   refine .of_step N (fun n hn=>?_) hq
   simp only [stepCode,hf,hpush,hN n hn,setLoop,hL,id_eq,jumpEx]
end
end Go.Den
end

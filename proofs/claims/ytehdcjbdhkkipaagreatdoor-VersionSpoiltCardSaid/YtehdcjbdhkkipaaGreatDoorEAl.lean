/- Part of the proofs of laws of the package version. Texts: DenIter, DenFin, DenArr, DenForeign, DenAny, DenAuto, DenGo. -/
import Derived.Test.YtehdcjbdhkkipaaGreatDoorEAk
import Derived.Test.YtehdcjbdhkkipaaGreatDoorEAi
set_option linter.unusedSimpArgs false
set_option linter.unusedVariables false
section
namespace Go.Den
def HExt (h h':List HObj):Prop:=h.length≤h'.length∧∀ l,l<h.length→h'[l]? = h[l]?
def isKept:HObj→Bool
 | .var _=>true
 | .loop .. => true
 | .map _=>true
 | _=>false
def KeepV (W:Nat→Prop) (h h':List HObj):Prop:=h.length≤h'.length∧∀ l o,h[l]? = some o→isKept o=true→¬ W l→h'[l]? = some o
theorem HExt.refl (h:List HObj):HExt h h:=⟨Nat.le_refl _,fun _ _=>rfl⟩
theorem HExt.trans {a b c:List HObj} (h:HExt a b) (h':HExt b c):HExt a c:=⟨Nat.le_trans h.1 h'.1,fun l hl=>(h'.2 l (by have:=h.1;omega)).trans (h.2 l hl)⟩
theorem HExt.push (st:St) (o:HObj):HExt st.heap (st.push o).heap:=⟨by rw [len_push];omega,fun l hl=>by
 have:=hp_push st o l
 rw [if_neg (by omega)] at this
 exact this⟩
theorem Fr.hext {a b:St} (h:Fr a.heap.length a b):HExt a.heap b.heap:=⟨h.len,h.old⟩
theorem HExt.hp {a b:St} (h:HExt a.heap b.heap) {l:Nat} {o:HObj} (ho:hp a l=some o):hp b l=some o:=(h.2 l (hp_lt ho)).trans ho
theorem HExt.keep {a b:List HObj} (W:Nat→Prop) (h:HExt a b):KeepV W a b:=⟨h.1,fun l o ho _ _=>by rw [h.2 l (List.getElem?_eq_some_iff.1 ho).1];exact ho⟩
theorem KeepV.refl (W:Nat→Prop) (h:List HObj):KeepV W h h:=⟨Nat.le_refl _,fun _ _ h _ _=>h⟩
theorem KeepV.trans {W:Nat→Prop} {a b c:List HObj} (h:KeepV W a b) (h':KeepV W b c):KeepV W a c:=⟨Nat.le_trans h.1 h'.1,fun l o ho hk hw=>h'.2 l o (h.2 l o ho hk hw) hk hw⟩
theorem KeepV.mono {W W':Nat→Prop} {a b:List HObj} (h:KeepV W a b) (hw:∀ l,W l→W' l):KeepV W' a b:=⟨h.1,fun l o ho hk hn=>h.2 l o ho hk (fun x=>hn (hw l x))⟩
theorem KeepV.hp {W:Nat→Prop} {a b:St} (h:KeepV W a.heap b.heap) {l:Nat} {cs:List PV} (ho:hp a l=some (.var cs)) (hw:¬ W l):hp b l=some (.var cs):=h.2 l _ ho rfl hw
structure Yld {α:Type} (E:Env) (y:PV) (X:List α) (Rep:PV→α→Prop) (W:Nat→Prop) (e w:Nat) (I:Nat→List HObj→Prop) (S:List HObj→Prop):Prop where
 stab:∀ i h h',I i h→HExt h h'→I i h'
 stabS:∀ h h',S h→HExt h h'→S h'
 step:∀ i (hi:i<X.length) v st,Rep v X[i]→I i st.heap→e≤st.lo→st.lo≤st.heap.length→w<st.heap.length→∃ b st',Cl E y [v] st (.ret (.bool b)) st'∧KeepV W st.heap st'.heap∧e≤st'.lo∧st'.lo≤w∧(b=true→I (i+1) st'.heap)∧(b=false→S st'.heap)
def Iter {α:Type} (E:Env) (f:PV) (st0:St) (X:List α) (Rep:PV→α→Prop) (priv:Nat→Prop):Prop :=
 ∀ (y:PV) (W:Nat→Prop) (e w:Nat) (I:Nat→List HObj→Prop) (S:List HObj→Prop),Yld E y X Rep W e w I S→(∀ l,priv l→¬ W l)→(∀ l,W l→l≤w)→I 0 st0.heap→e≤st0.lo→st0.lo≤st0.heap.length→w<st0.heap.length→e≤w→y.isCell=true→y.cells=[y] →
  ∃ v st',Cl E f [y] st0 (.ret v) st'∧KeepV W st0.heap st'.heap∧e≤st'.lo∧st'.lo≤st'.heap.length∧(I X.length st'.heap∨S st'.heap)
def IterM {α:Type} (E:Env) (f:PV) (st0:St) (X:List α) (Rep:PV→α→Prop) (priv:Nat→Prop) (mm:Nat):Prop :=
 ∀ (y:PV) (W:Nat→Prop) (e w:Nat) (I:Nat→List HObj→Prop) (S:List HObj→Prop),Yld E y X Rep W e w I S →
  (∀ i h es es',I i h→h[mm]? = some (.map es)→I i (h.set mm (.map es')))→(∀ h es es',S h→h[mm]? = some (.map es)→S (h.set mm (.map es')))→¬ W mm→e≤mm→mm≤w →
  (∀ l,priv l→¬ W l)→(∀ l,W l→l≤w)→I 0 st0.heap→e≤st0.lo→st0.lo≤st0.heap.length→w<st0.heap.length→e≤w→y.isCell=true→y.cells=[y] →
  ∃ v st',Cl E f [y] st0 (.ret v) st'∧KeepV (fun l=>W l∨l=mm) st0.heap st'.heap∧e≤st'.lo∧st'.lo≤st'.heap.length∧(I X.length st'.heap∨S st'.heap)
def jumpEx:Jump→Ex
 | .ret => .ret
 | .exit i => .exit i
section
variable {E:Env} {Q:Ex→List PV→St→Prop} {tm:List PV} {st:St}
def BodyQ (L:Nat) (tm:List PV) (ps:List Nat) (assign body:DCode) (W:Nat→Prop) (e:Nat) (h0:List HObj) (J:List HObj→Prop) (D:Jump→List HObj→Prop):Ex→List PV→St→Prop:=fun ex _ st3 =>
 hp st3 L=some (.loop tm ps assign body .busy none)∧KeepV W h0 st3.heap∧e≤st3.lo∧st3.lo≤st3.heap.length∧match ex with
  | .normal=>J st3.heap
  | .ret=>D .ret st3.heap
  | .exit x=>D (.exit x) st3.heap
  | .panic _=>False
end
end Go.Den
end
section
namespace Go.Den
def RetW (st:St) (n:Nat) (cs:List PV) (v:PV) (st':St):Prop:=v.sl=some (n,cs)∧(st'=st∨st'=st.push (.tag true))
theorem RetS.w {st st':St} {sz n:Nat} {cs:List PV} {v:PV} (h:RetS st sz n cs v st'):RetW st n cs v st':=⟨h.sl,h.st'⟩
theorem RetW.hp {st st':St} {n:Nat} {cs:List PV} {v:PV} (h:RetW st n cs v st') {l:Nat} {o:HObj} (hl:hp st l=some o):hp st' l=some o:=by
 rcases h.2 with rfl|rfl
 ·exact hl
 ·rw [hp_push,if_neg (by have:=hp_lt hl;omega)];exact hl
theorem RetW.lo {st st':St} {n:Nat} {cs:List PV} {v:PV} (h:RetW st n cs v st'):st'.lo=st.lo:=by
 rcases h.2 with rfl|rfl <;> rfl
theorem RetW.len {st st':St} {n:Nat} {cs:List PV} {v:PV} (h:RetW st n cs v st'):st.heap.length≤st'.heap.length:=by
 rcases h.2 with rfl|rfl
 ·omega
 ·rw [len_push];omega
theorem RetW.hext {st st':St} {n:Nat} {cs:List PV} {v:PV} (h:RetW st n cs v st'):HExt st.heap st'.heap:=by
 rcases h.2 with rfl|rfl
 ·exact .refl _
 ·exact .push _ _
theorem sl_freeze {m:Nat} {h:List HObj} {v:PV} {r:Nat×List PV} (hv:v.sl=some r):freeze1 m h v=(v,h):=by
 cases v <;> first|rfl|cases hv
theorem sl_retag {m:Nat} {h:List HObj} {v:PV} {n:Nat} {cs:List PV} (hv:v.sl=some (n,cs)) (hc:∀ m,lowL m cs=true):∃ v' s,retag1 h m [] v=some (v',s)∧v'.sl=some (n,cs)∧s.length≤1:=by
 cases v with
 | nilslice=>exact ⟨.nilslice,[],by simp [retag1,PV.low],hv,by simp⟩
 | slice o k ds =>
  simp only [PV.sl,Option.some.injEq,Prod.mk.injEq] at hv
  obtain ⟨rfl,rfl⟩:=hv
  cases o with
  | shared=>exact ⟨.slice .shared k ds,[],by simp [retag1,PV.low,hc],rfl,by simp⟩
  | tag t sz =>
   simp only [retag1,hc,if_true]
   by_cases ht:t<m
   ·rw [if_pos ht];exact ⟨_,_,rfl,rfl,by simp⟩
   ·rw [if_neg ht]
    split
    ·simp only [List.contains_nil,Bool.false_eq_true,if_false]
     exact ⟨_,_,rfl,rfl,by simp⟩
    ·exact ⟨_,_,rfl,rfl,by simp⟩
 | _=>cases hv
theorem finish_sl {st st1:St} {v:PV} {n:Nat} {cs:List PV} (hv:v.sl=some (n,cs)) (hlo:st.heap.length≤st1.lo) (hc:∀ m,lowL m cs=true):RetW st n cs (finishCall st st1 v).1 (finishCall st st1 v).2:=by
 obtain ⟨v',s,h1,h2,h3⟩:=sl_retag (m:=st.heap.length) (h:=st1.heap) hv hc
 unfold finishCall
 rw [if_pos hlo]
 have:letGo st.heap.length st1.heap v=some (v',s.length):=by
  have hf:=sl_freeze (m:=st.heap.length) (h:=st1.heap) hv
  cases v <;> first|(simp only [letGo,hf,h1,Option.map_some];done)|cases hv
 rw [this]
 refine ⟨h2,?_⟩
 match s,h3 with
 | [],_=>left;simp
 | [x],_=>right;rfl
theorem finish_slT {st st1:St} {v:PV} {vs:List PV} {n:Nat} {cs:List PV} (hv:v.sl=some (n,cs)) (hvs:vs.all PV.flat=true) (hlo:st.heap.length≤st1.lo) (hc:∀ m,lowL m cs=true):∃ v',(finishCall st st1 (.tuple (v::vs))).1 = .tuple (v'::vs)∧RetW st n cs v' (finishCall st st1 (.tuple (v::vs))).2:=by
 obtain ⟨v',s,h1,h2,h3⟩:=sl_retag (m:=st.heap.length) (h:=st1.heap) hv hc
 unfold finishCall
 rw [if_pos hlo]
 have:letGo st.heap.length st1.heap (.tuple (v::vs))=some (.tuple (v'::vs),s.length):=by
  have hf:=sl_freeze (m:=st.heap.length) (h:=st1.heap) hv
  simp only [letGo,freezeL,hf,flats_freeze hvs,retagL,h1,flats_retag hvs,Option.map_some]
 rw [this]
 refine ⟨v',rfl,h2,?_⟩
 match s,h3 with
 | [],_=>left;simp
 | [x],_=>right;rfl
def notSl:PV→Bool
 | .slice .. => false
 | .hslice .. => false
 | _=>true
theorem notSl_freeze {m:Nat} {h:List HObj} {v:PV} (hv:notSl v=true):freeze1 m h v=(v,h):=by
 cases v with
 | hslice l z n=>cases hv
 | _=>rfl
theorem notSls_freeze {m:Nat} {h:List HObj}:∀ {vs:List PV},vs.all notSl=true→freezeL m h vs=(vs,h)
 | [],_=>rfl
 | v::vs,hv=>by
  simp only [List.all_cons,Bool.and_eq_true] at hv
  simp only [freezeL,notSl_freeze hv.1,notSls_freeze hv.2]
theorem notSl_retag {m:Nat} {h:List HObj} {s:List Nat} {v:PV} (hv:notSl v=true):retag1 h m s v=some (v,s)∨retag1 h m s v=none:=by
 cases v with
 | slice o n cs=>cases hv
 | hslice l z n=>cases hv
 | _=>simp only [retag1];split <;> simp
theorem notSls_retag {m:Nat} {h:List HObj} {s:List Nat}:∀ {vs:List PV},vs.all notSl=true→retagL h m s vs=some (vs,s)∨retagL h m s vs=none
 | [],_ => .inl rfl
 | v::vs,hv=>by
  simp only [List.all_cons,Bool.and_eq_true] at hv
  simp only [retagL]
  rcases notSl_retag (m:=m) (h:=h) (s:=s) hv.1 with h1|h1 <;> rw [h1]
  ·rcases notSls_retag (m:=m) (h:=h) (s:=s) hv.2 with h2|h2 <;> simp [h2]
  ·simp
theorem finish_keep {st st1:St} {vs:List PV} (hv:vs.all notSl=true) (hlo:st.heap.length≤st1.lo):(finishCall st st1 (.tuple vs)).1 = .tuple vs∧(finishCall st st1 (.tuple vs)).2.lo=st.lo∧((finishCall st st1 (.tuple vs)).2=st∨(finishCall st st1 (.tuple vs)).2.heap=st1.heap):=by
 unfold finishCall
 rw [if_pos hlo]
 rcases notSls_retag (m:=st.heap.length) (h:=st1.heap) (s:=[]) hv with h|h
 ·have:letGo st.heap.length st1.heap (.tuple vs)=some (.tuple vs,0):=by simp [letGo,notSls_freeze hv,h]
  rw [this]
  exact ⟨rfl,rfl,.inl (by simp)⟩
 ·have:letGo st.heap.length st1.heap (.tuple vs)=none:=by simp [letGo,notSls_freeze hv,h]
  rw [this]
  exact ⟨rfl,rfl,.inr rfl⟩
def bestF {α:Type} (bt:α→α→Bool) (X:List α):Option α:=X.foldl (fun acc x=>match acc with
 | none=>some x
 | some o=>if bt x o then some x else some o) none
theorem bestF_take {α:Type} (bt:α→α→Bool) (X:List α) {i:Nat} (hi:i<X.length):bestF bt (X.take (i+1))=match bestF bt (X.take i) with
 | none=>some X[i]
 | some o=>if bt X[i] o then some X[i] else some o:=by
 rw [List.take_succ_eq_append_getElem hi,bestF,List.foldl_append];rfl
theorem bestF_mem {α:Type} (bt:α→α→Bool) (X:List α) {i:Nat} {o:α} (hi:i≤X.length) (h:bestF bt (X.take i)=some o):o∈X:=by
 induction i with
 | zero=>simp [bestF] at h
 | succ i ih =>
  rw [bestF_take bt X (by omega)] at h
  split at h
  ·cases h;exact List.getElem_mem _
  ·rename_i o' ho
   split at h
   ·cases h;exact List.getElem_mem _
   ·cases h;exact ih (by omega) ho
end Go.Den
namespace Go.Den
theorem KeepV.set {W:Nat→Prop} {a h:List HObj} (hk:KeepV W a h) {L:Nat} {o:HObj} (hL:a.length≤L):KeepV W a (h.set L o):=by
 refine ⟨by rw [List.length_set];exact hk.1,fun l x hx hko hn=>?_⟩
 rw [List.getElem?_set_ne (by have:=(List.getElem?_eq_some_iff.1 hx).1;omega)]
 exact hk.2 l x hx hko hn
theorem HExt.var {a b:List HObj} (h:HExt a b) {l:Nat} {o:HObj} (ho:a[l]? = some o):b[l]? = some o:=(h.2 l (List.getElem?_eq_some_iff.1 ho).1).trans ho
def KeepA (a b:List HObj):Prop:=KeepV (fun _=>False) a b
theorem KeepV.low {W:Nat→Prop} {a b c:List HObj} (hk:KeepA a b) (h:KeepV W b c) (hW:∀ l,W l→a.length≤l):KeepA a c :=
 ⟨Nat.le_trans hk.1 h.1,fun l o ho hko _=>h.2 l o (hk.2 l o ho hko (fun x=>x)) hko (fun hw=>by have:=hW l hw;have:=(List.getElem?_eq_some_iff.1 ho).1;omega)⟩
end Go.Den
namespace Go.Den
theorem setParams_one {tm:List PV} {p:Nat} {v:PV}:setParams tm [p] [v]=some (put tm (some p) v):=rfl
theorem hp_set_other {st:St} {l L:Nat} {o:HObj} {x:HObj} (h:hp st l=some x) (hne:l≠L):hp (setVar st L o) l=some x:=by rw [hp_setVar,if_neg hne];exact h
end Go.Den
namespace Go.Den
theorem wopsD_append {E:Env} {QD:Ex→List PV→St→List Foot→Prop} {tm:List PV} {st:St} {sz:Nat} {x y:Opd} {dst:Option Nat} {g:Option (Nat×Bool)} {os:List DOper} {b:Bool} {m n k:Nat} {v w:PV} {cs ys:List PV} (hlo:st.lo≤st.heap.length) (hw:wants tm g=b) (hb:b=true) (hx:x.ev tm=v) (hy:y.ev tm=w) (ho:OwnS m st sz v n cs) (hyl:w.sl=some (k,ys)) (hm:m≤st.heap.length) (hl:ys.length=k*sz) (hc:ys.all PV.isCell=true) (hn:n+k≤maxList)
  (h:∀ v' st' ft,OwnS m st' sz v' (n+k) (cs++ys.map PV.share)→Fr m st st'→(∀ l o,hp st l=some o→(∀ b,o ≠ .tag b)→hp st' l=some o)→WOpsD E os (fun e tm' st'' fs=>QD e tm' st'' (ft::fs)) (put tm dst v') st'):WOpsD E (⟨.append false sz x y,dst,g⟩::os) QD tm st:=by
 have ho':OwnS m { st with lo:=st.heap.length } sz v n cs:=ho.keep fun _ _ h=>h
 obtain ⟨v',st1,h1,h2,h3,h4⟩:=ho'.append hm hl hc hn
 refine wopsD_cons (v:=v') (st1:=st1) (hw.trans hb) 0 (fun n _=>?_) ?_
 ·simp only [stepOp,hx,hy]
  cases w <;> simp only [PV.sl,Option.some.injEq,Prod.mk.injEq,reduceCtorEq] at hyl
  ·obtain ⟨rfl,rfl⟩:=hyl;exact h1
  ·obtain ⟨rfl,rfl⟩:=hyl;exact h1
 ·refine h v' { st1 with lo:=min st.lo st1.lo } _ (h2.keep fun _ _ h=>h) ⟨h3.len,?_,h3.old,Nat.min_le_left _ _⟩ h4
  have:=h3.lo
  simp only at this
  show min m st.lo≤min st.lo st1.lo
  omega
end Go.Den
namespace Go.Den
theorem share_share (v:PV):v.share.share=v.share:=by cases v <;> rfl
theorem share_isCell (v:PV):v.share.isCell=v.isCell:=by cases v <;> rfl
theorem share_sl (v:PV):v.share.sl=v.sl:=by cases v <;> rfl
theorem SlOf.share {α:Type} {sz:Nat} {enc:α→List PV} {F:PV} {l:List α} (h:SlOf sz enc F l):SlOf sz enc F.share l:=⟨by rw [share_sl];exact h.sl,h.len⟩
theorem RetW.own_sl {α:Type} {sz:Nat} {enc:α→List PV} {st st':St} {v:PV} {l:List α} (h:RetW st l.length (l.flatMap enc) v st') (he:∀ a,(enc a).length=sz):SlOf sz enc v l:=SlOf.of_sl h.1 rfl rfl he
theorem OwnS.heap {m:Nat} {a b:St} {sz:Nat} {v:PV} {n:Nat} {cs:List PV} (h:OwnS m a sz v n cs) (hx:HExt a.heap b.heap):OwnS m b sz v n cs:=h.keep fun _ _ ht=>hx.hp ht
end Go.Den
end
section
namespace Go.Den
def OwnH (m:Nat) (st:St) (sz:Nat) (v:PV) (n:Nat) (cs:List PV):Prop :=
 cs.length=n*sz∧((n=0∧v = .nilslice)∨∃ t,v = .hslice t sz n∧m≤t∧hp st t=some (.arr cs))
theorem OwnH.keep {m:Nat} {st st':St} {sz:Nat} {v:PV} {n:Nat} {cs:List PV} (h:OwnH m st sz v n cs) (hk:∀ t cs,m≤t→hp st t=some (.arr cs)→hp st' t=some (.arr cs)):OwnH m st' sz v n cs :=
 ⟨h.1,h.2.imp id fun ⟨t,h2,h3,h4⟩=>⟨t,h2,h3,hk t _ h3 h4⟩⟩
theorem OwnH.cells {m:Nat} {st:St} {sz:Nat} {v:PV} {n:Nat} {cs:List PV} (h:OwnH m st sz v n cs):v.cells=[v]∧v.isCell=true∧v.slen=some n:=by
 obtain ⟨_,⟨rfl,rfl⟩|⟨t,rfl,_,_⟩⟩:=h <;> exact ⟨rfl,rfl,rfl⟩
section
variable {E:Env} {Q:Ex→List PV→St→Prop} {tm:List PV} {st:St}
theorem wops_appendH {sz:Nat} {x y:Opd} {dst:Option Nat} {g:Option (Nat×Bool)} {os:List DOper} {b:Bool} {m n k:Nat} {v w:PV} {cs ys:List PV} (hw:wants tm g=b) (hb:b=true) (hx:x.ev tm=v) (hy:y.ev tm=w) (ho:OwnH m st sz v n cs) (hyl:w.sl=some (k,ys)) (hm:m≤st.heap.length) (hk:k≠0) (hl:ys.length=k*sz) (hc:ys.all PV.isCell=true) (hn:n+k≤maxList)
  (h:∀ st',hp st' st.heap.length=some (.arr (cs++ys))→st'.heap.length=st.heap.length+1→Fr m st st'→(∀ l o,hp st l=some o→isKept o=true→hp st' l=some o)→WOps E os Q (put tm dst (.hslice st.heap.length sz (n+k))) st'):WOps E (⟨.append true sz x y,dst,g⟩::os) Q tm st:=by
 obtain ⟨o,rfl⟩:∃ o,w = .slice o k ys:=by
  cases w <;> simp only [PV.sl,Option.some.injEq,Prod.mk.injEq,reduceCtorEq] at hyl
  ·obtain ⟨rfl,rfl⟩:=hyl;exact ⟨_,rfl⟩
  ·omega
 obtain ⟨h0,⟨rfl,rfl⟩|⟨t,rfl,h3,h4⟩⟩:=ho
 ·have hcs:cs=[]:=by simpa using h0
  subst hcs
  refine wops_one (v := .hslice st.heap.length sz (0+k)) (st1:=st.push (.arr ys)) (hw.trans hb) (fun rec=>?_) (h _ (by rw [hp_push,if_pos rfl];rfl) (len_push _ _) ((Fr.refl m st).push hm) (fun l o hl _=>(HExt.push st _).hp hl))
  simp only [stepOp,hx,hy]
  delta doAppend
  simp only [hl,hc,and_self,if_true,hk,if_false]
  rw [if_pos (by omega),Nat.zero_add]
  rfl
 ·have ht:=hp_lt h4
  refine wops_one (v := .hslice st.heap.length sz (n+k)) (st1:=(setVar st t (.tag false)).push (.arr (cs++ys))) (hw.trans hb) (fun rec=>?_) (h _ (by rw [hp_push,if_pos (by rw [len_setVar])]) (by rw [len_push,len_setVar]) (((Fr.refl m st).setVar h3).push (by rw [len_setVar];exact hm)) (fun l o hl hko=>?_))
  ·simp only [stepOp,hx,hy]
   delta doAppend
   have h5:st.heap[t]? = some (.arr cs):=h4
   simp only [hl,hc,and_self,if_true,hk,if_false,h5]
   rw [if_pos ⟨trivial,h0,hn⟩]
   rfl
  ·refine (HExt.push (setVar st t (.tag false)) _).hp (hp_set_other hl ?_)
   rintro rfl
   rw [h4] at hl
   cases hl
   cases hko
end
theorem op_indexAddr {E:Env} {rec:Rec} {tm:List PV} {st:St} {sz:Nat} {x i:Opd} {l n:Nat} {k:IntKind} {j:Nat} (hx:x.ev tm = .hslice l sz n) (hi:i.ev tm = .int k j) (hj:j<n):stepOp E rec tm st (.indexAddr sz x i)=some (.val (.aptr l (j*sz)) st):=by
 simp only [stepOp,hx,hi]
 rw [if_pos ⟨trivial,by omega,by omega⟩]
 simp
end Go.Den
namespace Go.Den
def idxR (sz:Nat) (x i:PV) (st:St):Option OpR:=match x,i with
 | .slice _ n cs,.int _ i=>if 0≤i∧i<n then some (.val (.cptr ((cs.drop (i.toNat*sz)).take sz)) st) else none
 | .hslice l sz' n,.int _ i=>if sz'=sz∧0≤i∧i<n then some (.val (.aptr l (i.toNat*sz)) st) else none
 | _,_=>none
theorem op_indexAddrM {E:Env} {rec:Rec} {tm:List PV} {st:St} {sz:Nat} {x i:Opd}:stepOp E rec tm st (.indexAddr sz x i)=idxR sz (x.ev tm) (i.ev tm) st:=by
 simp only [stepOp,idxR]
 cases x.ev tm <;> cases i.ev tm <;> rfl
theorem idxR_h {sz l n:Nat} {k:IntKind} {j:Nat} {st:St}:idxR sz (.hslice l sz n) (.int k j) st=if j<n then some (.val (.aptr l (j*sz)) st) else none:=by
 simp only [idxR,true_and,Int.toNat_natCast]
 by_cases h:j<n
 ·rw [if_pos ⟨by omega,by omega⟩,if_pos h]
 ·rw [if_neg (by omega),if_neg h]
end Go.Den
namespace Go.Den
theorem HExt.fr {a b c:St} (h:HExt a.heap b.heap) (hf:Fr a.heap.length b c):HExt a.heap c.heap:=⟨Nat.le_trans h.1 hf.len,fun l hl=>(hf.old l hl).trans (h.2 l hl)⟩
theorem HExt.setVar {a:List HObj} {b:St} {l:Nat} {o:HObj} (h:HExt a b.heap) (hl:a.length≤l):HExt a (setVar b l o).heap:=⟨by rw [len_setVar];exact h.1,fun i hi=>by
 have:=hp_setVar b l i o
 rw [if_neg (by omega)] at this
 exact this.trans (h.2 i hi)⟩
theorem HExt.set {a b:List HObj} {l:Nat} {o:HObj} (h:HExt a b) (hl:a.length≤l):HExt a (b.set l o):=⟨by rw [List.length_set];exact h.1,fun i hi=>by
 rw [List.getElem?_set_ne (by omega)];exact h.2 i hi⟩
end Go.Den
namespace Go.Den
theorem wopsD_append' {E:Env} {QD:Ex→List PV→St→List Foot→Prop} {tm:List PV} {st:St} {sz:Nat} {x y:Opd} {dst:Option Nat} {g:Option (Nat×Bool)} {os:List DOper} {b:Bool} {m n k:Nat} {v w:PV} {cs ys:List PV} (hlo:st.lo≤st.heap.length) (hw:wants tm g=b) (hb:b=true) (hx:x.ev tm=v) (hy:y.ev tm=w) (ho:OwnS m st sz v n cs) (hyl:w.sl=some (k,ys)) (hm:m≤st.heap.length) (hl:ys.length=k*sz) (hc:ys.all PV.isCell=true) (hn:n+k≤maxList)
  (h:∀ v' st' ft,(∀ l,l<m→clash l ft=false)→OwnS m st' sz v' (n+k) (cs++ys.map PV.share)→Fr m st st'→(∀ l o,hp st l=some o→(∀ b,o ≠ .tag b)→hp st' l=some o)→WOpsD E os (fun e tm' st'' fs=>QD e tm' st'' (ft::fs)) (put tm dst v') st'):WOpsD E (⟨.append false sz x y,dst,g⟩::os) QD tm st:=by
 have ho':OwnS m { st with lo:=st.heap.length } sz v n cs:=ho.keep fun _ _ h=>h
 obtain ⟨v',st1,h1,h2,h3,h4⟩:=ho'.append hm hl hc hn
 have h5:=h3.lo
 simp only at h5
 refine wopsD_cons (v:=v') (st1:=st1) (hw.trans hb) 0 (fun n _=>?_) ?_
 ·simp only [stepOp,hx,hy]
  cases w <;> simp only [PV.sl,Option.some.injEq,Prod.mk.injEq,reduceCtorEq] at hyl
  ·obtain ⟨rfl,rfl⟩:=hyl;exact h1
  ·obtain ⟨rfl,rfl⟩:=hyl;exact h1
 ·refine h v' { st1 with lo:=min st.lo st1.lo } _ (fun l hl=>?_) (h2.keep fun _ _ h=>h) ⟨h3.len,?_,h3.old,Nat.min_le_left _ _⟩ h4
  ·simp only [footOf]
   split
   ·rfl
   ·simp only [clash,decide_eq_false_iff_not];omega
  ·show min m st.lo≤min st.lo st1.lo
   omega
theorem wopsD_callR {E:Env} {QD:Ex→List PV→St→List Foot→Prop} {tm:List PV} {st:St} {f:Opd} {args:List Opd} {dst:Option Nat} {g:Option (Nat×Bool)} {os:List DOper} {b:Bool} {fv:PV} {P:PV→St→Prop} (hw:wants tm g=b) (hb:b=true) (hf:f.ev tm=fv) (hc:ClR E fv (evs tm args) { st with lo:=st.heap.length } P)
  (h:∀ v st1,P v st1→∀ ft,WOpsD E os (fun e tm' st' fs=>QD e tm' st' (ft::fs)) (put tm dst v) { st1 with lo:=min st.lo st1.lo }):WOpsD E (⟨.call f args,dst,g⟩::os) QD tm st:=by
 obtain ⟨v,st1,⟨N,hN⟩,hP⟩:=hc
 exact wopsD_cons (v:=v) (st1:=st1) (hw.trans hb) N (fun n hn=>by simp only [stepOp,hf,hN n hn]) (h v st1 hP _)
end Go.Den
end
section
namespace Go.Den
variable {P:Program}
theorem shared_row {B0 w0 G h w} (r:WR P B0 w0 G h w) (cs:List PV) (arr:Array Value) (T:TypeId) (hl:cs.length=arr.size) (hlow:∀ m,lowL m cs=true)
  (hc:∀ G' w',w'.heap[w.heap.size]? = some (Obj.cells arr T (0,0))→VRC G' w' cs w.heap.size 0) (n cap:Nat) (hcap:n≤cap) :
  ∃ G',WR P B0 w0 G' h (w.alloc (Obj.cells arr T (0,0)))∧(∀ lo,Ext G h w G' h (w.alloc (Obj.cells arr T (0,0))) lo)∧VR G' (w.alloc (Obj.cells arr T (0,0))) (.slice .shared n cs) (.slice (some ⟨w.heap.size,0,none⟩) n cap):=by
 obtain ⟨h1,h2,h3⟩:=alloc_row r false cs arr T (0,0) (by omega) (Thawed.zero _) (fun G' w' _ hw=>hc G' w' hw)
 obtain ⟨k1,k2⟩:=cut_ok (S:=[]) r (h2 h.length) (Nat.le_refl _) (Fz.refl h1) ⟨by simp,by simp⟩
 refine ⟨_,by simpa using k1,fun lo=>by simpa using k2 lo,VR.restr (restr_cut r (h2 h.length) (Fz.refl h1) []) (by simp only [PV.low];exact hlow _) ?_⟩
 simp only [VR]
 refine .inl ⟨w.heap.size,0,cap,rfl,hcap,fun _=>⟨cs.length,?_,by omega⟩,trivial,h3⟩
 simp only [Bool.false_eq_true,if_false]
 exact upd_same _ _ _
end Go.Den
end
section
namespace Go.Den
def ClA (E:Env) (f:PV) (args:List PV) (st:St) (P:CR→St→Prop):Prop:=∃ r st',Cl E f args st r st'∧P r st'
def FnA (rs:List DRes) (st:St) (P:CR→St→Prop):Ex→List PV→St→Prop:=fun e tm1 st1=>match e with
 | .normal | .ret=>∃ v,results tm1 st1.heap rs=some v∧P (.ret (finishCall st st1 v).1) (finishCall st st1 v).2
 | .panic v=>P (.panic v) { heap:=st1.heap,lo:=min st.lo st1.lo }
 | .exit _=>False
theorem cla_fn {E:Env} {st:St} {g:Nat} {a c args:List PV} {n:Nat} {rs:List DRes} {b:DCode} {P:CR→St→Prop} (hp:∀ rec,E.prim g rec (a++args++c) st=none) (hf:E.fn g=some ⟨n,rs,b⟩) (k:Nat) (hk:(a++args++c).length=k) (hkn:k≤n)
  (h:∀ tm,tm.length=n→(∀ i,i<k→tg tm i=(a++args++c).getD i undef)→Wp E b (FnA rs st P) tm { heap:=st.heap,lo:=st.heap.length }):ClA E (.func g a c) args st P:=by
 have:=h ((a++args++c)++List.replicate (n - (a++args++c).length) undef) (by simp at hk ⊢;omega) (fun i hi=>by
  unfold tg
  rw [List.getD_eq_getElem?_getD,List.getD_eq_getElem?_getD,List.getElem?_append_left (by omega)])
 unfold Wp at this
 obtain ⟨N,e,tm1,st1,h1,h2⟩:=this
 have key:∀ v,(e = .normal∨e = .ret)→results tm1 st1.heap rs=some v→P (.ret (finishCall st st1 v).1) (finishCall st st1 v).2→ClA E (.func g a c) args st P:=by
  intro v he h3 h4
  refine ⟨_,_,cl_of_wp (r := .ret (finishCall st st1 v).1) (st':=(finishCall st st1 v).2) hp hf ?_,h4⟩
  unfold Wp
  refine ⟨N,e,tm1,st1,h1,?_⟩
  rcases he with rfl|rfl <;> exact ⟨v,h3,_,rfl,rfl⟩
 unfold FnA at h2
 cases e with
 | normal=>obtain ⟨v,h3,h4⟩:=h2;exact key v (.inl rfl) h3 h4
 | ret=>obtain ⟨v,h3,h4⟩:=h2;exact key v (.inr rfl) h3 h4
 | exit i=>exact h2.elim
 | panic u =>
  refine ⟨_,_,cl_of_wp (r := .panic u) (st':={ heap:=st1.heap,lo:=min st.lo st1.lo }) hp hf ?_,h2⟩
  unfold Wp
  exact ⟨N,.panic u,tm1,st1,h1,rfl,rfl⟩
theorem fna_ret {rs:List DRes} {st:St} {P:CR→St→Prop} {tm1:List PV} {st1:St} {v:PV} (hr:results tm1 st1.heap rs=some v) (h:P (.ret (finishCall st st1 v).1) (finishCall st st1 v).2):FnA rs st P .ret tm1 st1:=⟨v,hr,h⟩
theorem fna_normal {rs:List DRes} {st:St} {P:CR→St→Prop} {tm1:List PV} {st1:St} {v:PV} (hr:results tm1 st1.heap rs=some v) (h:P (.ret (finishCall st st1 v).1) (finishCall st st1 v).2):FnA rs st P .normal tm1 st1:=⟨v,hr,h⟩
theorem fna_panic {rs:List DRes} {st:St} {P:CR→St→Prop} {tm1:List PV} {st1:St} {v:PV} (h:P (.panic v) { heap:=st1.heap,lo:=min st.lo st1.lo }):FnA rs st P (.panic v) tm1 st1:=h
attribute [irreducible] FnA
section
variable {E:Env} {Q:Ex→List PV→St→Prop} {tm:List PV} {st:St}
theorem wops_callA {f:Opd} {args:List Opd} {dst:Option Nat} {g:Option (Nat×Bool)} {os:List DOper} {b:Bool} {fv:PV} {P:CR→St→Prop} (hw:wants tm g=b) (hb:b=true) (hf:f.ev tm=fv) (hc:ClA E fv (evs tm args) st P) (h:∀ v st1,P (.ret v) st1→WOps E os Q (put tm dst v) st1) (hx:∀ v st1,P (.panic v) st1→Q (.panic v) tm st1):WOps E (⟨.call f args,dst,g⟩::os) Q tm st:=by
 obtain ⟨r,st1,hcl,hP⟩:=hc
 cases r with
 | ret v=>exact wops_call (hw.trans hb) hf hcl (h v st1 hP)
 | panic v =>
  obtain ⟨N,hN⟩:=hcl
  unfold WOps
  refine ⟨N,_,_,_,fun n hn=>?_,hx v st1 hP⟩
  simp only [stepOps,hw,hb,if_true,stepOp,hf,hN n hn]
theorem wopsD_callA {QD:Ex→List PV→St→List Foot→Prop} {f:Opd} {args:List Opd} {dst:Option Nat} {g:Option (Nat×Bool)} {b:Bool} {fv:PV} {P:CR→St→Prop} (hw:wants tm g=b) (hb:b=true) (hf:f.ev tm=fv) (hc:ClA E fv (evs tm args) { st with lo:=st.heap.length } P)
  (h:∀ v st1,P (.ret v) st1→QD .normal (put tm dst v) { st1 with lo:=min st.lo st1.lo } [footOf tm (.call f args) st.heap.length st1.lo]) (hx:∀ v st1,P (.panic v) st1→QD (.panic v) tm { st1 with lo:=min st.lo st1.lo } [footOf tm (.call f args) st.heap.length st1.lo]):WOpsD E [⟨.call f args,dst,g⟩] QD tm st:=by
 obtain ⟨r,st1,⟨N,hN⟩,hP⟩:=hc
 unfold WOpsD
 cases r with
 | ret v =>
  refine ⟨N,_,_,_,_,_,fun n hn=>?_,(Finer.refl []).cons (f':=fineOf (.call f args) (footOf tm (.call f args) st.heap.length st1.lo) st.heap st1.heap) (fun l hc=>fine_le hc) (fun l hc=>fine_ld hc),h v st1 hP⟩
  simp only [stepOpsD,hw,hb,if_true,stepOp,hf,hN n hn]
 | panic v =>
  refine ⟨N,_,_,_,_,_,fun n hn=>?_,(Finer.refl []).cons (f':=fineOf (.call f args) (footOf tm (.call f args) st.heap.length st1.lo) st.heap st1.heap) (fun l hc=>fine_le hc) (fun l hc=>fine_ld hc),hx v st1 hP⟩
  simp only [stepOpsD,hw,hb,if_true,stepOp,hf,hN n hn,List.isEmpty_nil]
theorem step_next {rec:Rec} {x:Opd} {l pos:Nat} {s:ByteArray} (hx:x.ev tm = .ptr l 0) (hl:hp st l=some (.iter s pos)) (hp:pos<s.size):stepOp E rec tm st (.nextStr x)=some (.val (.tuple [.bool true,.int .i64 pos,.int .i32 (Utf8.decode s pos).1]) (setVar st l (.iter s (pos+(Utf8.decode s pos).2)))):=by
 have h:st.heap[l]? = some (.iter s pos):=hl
 simp only [stepOp,hx,h,hp,if_true]
theorem step_end {rec:Rec} {x:Opd} {l pos:Nat} {s:ByteArray} (hx:x.ev tm = .ptr l 0) (hl:hp st l=some (.iter s pos)) (hp:¬ pos<s.size):stepOp E rec tm st (.nextStr x)=some (.val (.tuple [.bool false]) st):=by
 have h:st.heap[l]? = some (.iter s pos):=hl
 simp only [stepOp,hx,h,hp,if_false]
theorem op_rangeStr {rec:Rec} {x:Opd}:stepOp E rec tm st (.rangeStr x)=match x.ev tm with
  | .str s=>some (.val (.ptr st.heap.length 0) (st.push (.iter s 0)))
  | _=>none:=rfl
end
theorem decode_low (s:ByteArray) (i:Nat) (h:(s.get! i).toNat<128):Utf8.decode s i=((s.get! i).toNat,1):=by
 unfold Utf8.decode
 simp only [Nat.add_zero]
 rw [if_pos h]
theorem decode_high (s:ByteArray) (i:Nat) (h:128≤(s.get! i).toNat):128≤(Utf8.decode s i).1:=by
 unfold Utf8.decode
 simp only [Nat.add_zero]
 rw [if_neg (by omega)]
 have e:128≤Utf8.runeError:=by decide
 split
 ·split
  ·rename_i h;simpa using h
  ·exact e
 ·split
  ·split
   ·rename_i h
    simp only [Bool.and_eq_true,decide_eq_true_eq] at h
    show 128≤_
    omega
   ·exact e
  ·split
   ·split
    ·rename_i h
     simp only [Bool.and_eq_true,decide_eq_true_eq] at h
     show 128≤_
     omega
    ·exact e
   ·exact e
end Go.Den
end
section
namespace Go.Den
attribute [go_sem] Nat.reduceEqDiff Nat.reduceLT Nat.reduceLeDiff Nat.reduceAdd Nat.reduceMul Nat.reduceSub Int.reduceLE Int.reduceLT Int.reduceToNat Int.reduceNeg reduceCtorEq
attribute [go_sem] reduceIte
def Hid (R:Prop):Prop:=R
theorem Hid.out {R:Prop} (h:Hid R):R:=h
theorem Hid.mk {R:Prop} (h:R):Hid R:=h
attribute [irreducible] Hid
theorem fnil:True:=trivial
theorem bw {a b:Prop} (x:a) (y:b):a∧b:=⟨x,y⟩
theorem bw3 {a0 a1 a2:Prop} (x0:a0) (x1:a1) (x2:a2):a0∧a1∧a2:=⟨x0,x1,x2⟩
theorem bw4 {a0 a1 a2 a3:Prop} (x0:a0) (x1:a1) (x2:a2) (x3:a3):a0∧a1∧a2∧a3:=⟨x0,x1,x2,x3⟩
theorem bw5 {a0 a1 a2 a3 a4:Prop} (x0:a0) (x1:a1) (x2:a2) (x3:a3) (x4:a4):a0∧a1∧a2∧a3∧a4:=⟨x0,x1,x2,x3,x4⟩
theorem bw6 {a0 a1 a2 a3 a4 a5:Prop} (x0:a0) (x1:a1) (x2:a2) (x3:a3) (x4:a4) (x5:a5):a0∧a1∧a2∧a3∧a4∧a5:=⟨x0,x1,x2,x3,x4,x5⟩
theorem bw7 {a0 a1 a2 a3 a4 a5 a6:Prop} (x0:a0) (x1:a1) (x2:a2) (x3:a3) (x4:a4) (x5:a5) (x6:a6):a0∧a1∧a2∧a3∧a4∧a5∧a6:=⟨x0,x1,x2,x3,x4,x5,x6⟩
theorem bw8 {a0 a1 a2 a3 a4 a5 a6 a7:Prop} (x0:a0) (x1:a1) (x2:a2) (x3:a3) (x4:a4) (x5:a5) (x6:a6) (x7:a7):a0∧a1∧a2∧a3∧a4∧a5∧a6∧a7:=⟨x0,x1,x2,x3,x4,x5,x6,x7⟩
theorem bw9 {a0 a1 a2 a3 a4 a5 a6 a7 a8:Prop} (x0:a0) (x1:a1) (x2:a2) (x3:a3) (x4:a4) (x5:a5) (x6:a6) (x7:a7) (x8:a8):a0∧a1∧a2∧a3∧a4∧a5∧a6∧a7∧a8:=⟨x0,x1,x2,x3,x4,x5,x6,x7,x8⟩
theorem bw10 {a0 a1 a2 a3 a4 a5 a6 a7 a8 a9:Prop} (x0:a0) (x1:a1) (x2:a2) (x3:a3) (x4:a4) (x5:a5) (x6:a6) (x7:a7) (x8:a8) (x9:a9):a0∧a1∧a2∧a3∧a4∧a5∧a6∧a7∧a8∧a9:=⟨x0,x1,x2,x3,x4,x5,x6,x7,x8,x9⟩
theorem bw11 {a0 a1 a2 a3 a4 a5 a6 a7 a8 a9 a10:Prop} (x0:a0) (x1:a1) (x2:a2) (x3:a3) (x4:a4) (x5:a5) (x6:a6) (x7:a7) (x8:a8) (x9:a9) (x10:a10):a0∧a1∧a2∧a3∧a4∧a5∧a6∧a7∧a8∧a9∧a10:=⟨x0,x1,x2,x3,x4,x5,x6,x7,x8,x9,x10⟩
theorem bw12 {a0 a1 a2 a3 a4 a5 a6 a7 a8 a9 a10 a11:Prop} (x0:a0) (x1:a1) (x2:a2) (x3:a3) (x4:a4) (x5:a5) (x6:a6) (x7:a7) (x8:a8) (x9:a9) (x10:a10) (x11:a11):a0∧a1∧a2∧a3∧a4∧a5∧a6∧a7∧a8∧a9∧a10∧a11:=⟨x0,x1,x2,x3,x4,x5,x6,x7,x8,x9,x10,x11⟩
theorem bw13 {a0 a1 a2 a3 a4 a5 a6 a7 a8 a9 a10 a11 a12:Prop} (x0:a0) (x1:a1) (x2:a2) (x3:a3) (x4:a4) (x5:a5) (x6:a6) (x7:a7) (x8:a8) (x9:a9) (x10:a10) (x11:a11) (x12:a12):a0∧a1∧a2∧a3∧a4∧a5∧a6∧a7∧a8∧a9∧a10∧a11∧a12:=⟨x0,x1,x2,x3,x4,x5,x6,x7,x8,x9,x10,x11,x12⟩
theorem bw14 {a0 a1 a2 a3 a4 a5 a6 a7 a8 a9 a10 a11 a12 a13:Prop} (x0:a0) (x1:a1) (x2:a2) (x3:a3) (x4:a4) (x5:a5) (x6:a6) (x7:a7) (x8:a8) (x9:a9) (x10:a10) (x11:a11) (x12:a12) (x13:a13):a0∧a1∧a2∧a3∧a4∧a5∧a6∧a7∧a8∧a9∧a10∧a11∧a12∧a13:=⟨x0,x1,x2,x3,x4,x5,x6,x7,x8,x9,x10,x11,x12,x13⟩
theorem bw15 {a0 a1 a2 a3 a4 a5 a6 a7 a8 a9 a10 a11 a12 a13 a14:Prop} (x0:a0) (x1:a1) (x2:a2) (x3:a3) (x4:a4) (x5:a5) (x6:a6) (x7:a7) (x8:a8) (x9:a9) (x10:a10) (x11:a11) (x12:a12) (x13:a13) (x14:a14):a0∧a1∧a2∧a3∧a4∧a5∧a6∧a7∧a8∧a9∧a10∧a11∧a12∧a13∧a14:=⟨x0,x1,x2,x3,x4,x5,x6,x7,x8,x9,x10,x11,x12,x13,x14⟩
theorem bw16 {a0 a1 a2 a3 a4 a5 a6 a7 a8 a9 a10 a11 a12 a13 a14 a15:Prop} (x0:a0) (x1:a1) (x2:a2) (x3:a3) (x4:a4) (x5:a5) (x6:a6) (x7:a7) (x8:a8) (x9:a9) (x10:a10) (x11:a11) (x12:a12) (x13:a13) (x14:a14) (x15:a15):a0∧a1∧a2∧a3∧a4∧a5∧a6∧a7∧a8∧a9∧a10∧a11∧a12∧a13∧a14∧a15:=⟨x0,x1,x2,x3,x4,x5,x6,x7,x8,x9,x10,x11,x12,x13,x14,x15⟩
theorem bw17 {a0 a1 a2 a3 a4 a5 a6 a7 a8 a9 a10 a11 a12 a13 a14 a15 a16:Prop} (x0:a0) (x1:a1) (x2:a2) (x3:a3) (x4:a4) (x5:a5) (x6:a6) (x7:a7) (x8:a8) (x9:a9) (x10:a10) (x11:a11) (x12:a12) (x13:a13) (x14:a14) (x15:a15) (x16:a16):a0∧a1∧a2∧a3∧a4∧a5∧a6∧a7∧a8∧a9∧a10∧a11∧a12∧a13∧a14∧a15∧a16:=⟨x0,x1,x2,x3,x4,x5,x6,x7,x8,x9,x10,x11,x12,x13,x14,x15,x16⟩
theorem bw18 {a0 a1 a2 a3 a4 a5 a6 a7 a8 a9 a10 a11 a12 a13 a14 a15 a16 a17:Prop} (x0:a0) (x1:a1) (x2:a2) (x3:a3) (x4:a4) (x5:a5) (x6:a6) (x7:a7) (x8:a8) (x9:a9) (x10:a10) (x11:a11) (x12:a12) (x13:a13) (x14:a14) (x15:a15) (x16:a16) (x17:a17):a0∧a1∧a2∧a3∧a4∧a5∧a6∧a7∧a8∧a9∧a10∧a11∧a12∧a13∧a14∧a15∧a16∧a17:=⟨x0,x1,x2,x3,x4,x5,x6,x7,x8,x9,x10,x11,x12,x13,x14,x15,x16,x17⟩
theorem bw20 {a0 a1 a2 a3 a4 a5 a6 a7 a8 a9 a10 a11 a12 a13 a14 a15 a16 a17 a18 a19:Prop} (x0:a0) (x1:a1) (x2:a2) (x3:a3) (x4:a4) (x5:a5) (x6:a6) (x7:a7) (x8:a8) (x9:a9) (x10:a10) (x11:a11) (x12:a12) (x13:a13) (x14:a14) (x15:a15) (x16:a16) (x17:a17) (x18:a18) (x19:a19):a0∧a1∧a2∧a3∧a4∧a5∧a6∧a7∧a8∧a9∧a10∧a11∧a12∧a13∧a14∧a15∧a16∧a17∧a18∧a19:=⟨x0,x1,x2,x3,x4,x5,x6,x7,x8,x9,x10,x11,x12,x13,x14,x15,x16,x17,x18,x19⟩
theorem bw22 {a0 a1 a2 a3 a4 a5 a6 a7 a8 a9 a10 a11 a12 a13 a14 a15 a16 a17 a18 a19 a20 a21:Prop} (x0:a0) (x1:a1) (x2:a2) (x3:a3) (x4:a4) (x5:a5) (x6:a6) (x7:a7) (x8:a8) (x9:a9) (x10:a10) (x11:a11) (x12:a12) (x13:a13) (x14:a14) (x15:a15) (x16:a16) (x17:a17) (x18:a18) (x19:a19) (x20:a20) (x21:a21):a0∧a1∧a2∧a3∧a4∧a5∧a6∧a7∧a8∧a9∧a10∧a11∧a12∧a13∧a14∧a15∧a16∧a17∧a18∧a19∧a20∧a21:=⟨x0,x1,x2,x3,x4,x5,x6,x7,x8,x9,x10,x11,x12,x13,x14,x15,x16,x17,x18,x19,x20,x21⟩
theorem bw24 {a0 a1 a2 a3 a4 a5 a6 a7 a8 a9 a10 a11 a12 a13 a14 a15 a16 a17 a18 a19 a20 a21 a22 a23:Prop} (x0:a0) (x1:a1) (x2:a2) (x3:a3) (x4:a4) (x5:a5) (x6:a6) (x7:a7) (x8:a8) (x9:a9) (x10:a10) (x11:a11) (x12:a12) (x13:a13) (x14:a14) (x15:a15) (x16:a16) (x17:a17) (x18:a18) (x19:a19) (x20:a20) (x21:a21) (x22:a22) (x23:a23):a0∧a1∧a2∧a3∧a4∧a5∧a6∧a7∧a8∧a9∧a10∧a11∧a12∧a13∧a14∧a15∧a16∧a17∧a18∧a19∧a20∧a21∧a22∧a23:=⟨x0,x1,x2,x3,x4,x5,x6,x7,x8,x9,x10,x11,x12,x13,x14,x15,x16,x17,x18,x19,x20,x21,x22,x23⟩
theorem bw31 {a0 a1 a2 a3 a4 a5 a6 a7 a8 a9 a10 a11 a12 a13 a14 a15 a16 a17 a18 a19 a20 a21 a22 a23 a24 a25 a26 a27 a28 a29 a30:Prop} (x0:a0) (x1:a1) (x2:a2) (x3:a3) (x4:a4) (x5:a5) (x6:a6) (x7:a7) (x8:a8) (x9:a9) (x10:a10) (x11:a11) (x12:a12) (x13:a13) (x14:a14) (x15:a15) (x16:a16) (x17:a17) (x18:a18) (x19:a19) (x20:a20) (x21:a21) (x22:a22) (x23:a23) (x24:a24) (x25:a25) (x26:a26) (x27:a27) (x28:a28) (x29:a29) (x30:a30):a0∧a1∧a2∧a3∧a4∧a5∧a6∧a7∧a8∧a9∧a10∧a11∧a12∧a13∧a14∧a15∧a16∧a17∧a18∧a19∧a20∧a21∧a22∧a23∧a24∧a25∧a26∧a27∧a28∧a29∧a30:=⟨x0,x1,x2,x3,x4,x5,x6,x7,x8,x9,x10,x11,x12,x13,x14,x15,x16,x17,x18,x19,x20,x21,x22,x23,x24,x25,x26,x27,x28,x29,x30⟩
theorem isS {α:Type} (a:α):(some a).isSome=true:=rfl
theorem isN {α:Type}:(none:Option α).isSome=false:=rfl
end Go.Den
end
section
namespace Go.Den
def calm:DOp→Bool
 | .load .. => false
 | .lookup .. => false
 | .bytesToStr .. => false
 | .store .. => false
 | _=>true
theorem foot_calm {tm:List PV} {o:DOp} {m:Nat} (h:calm o=true):footOf tm o m m = .quiet:=by
 cases o <;> first|(simp [footOf];done)|cases h
theorem clash_q (l:Nat):clash l .quiet=false:=rfl
theorem clash_l (l m:Nat):clash l (.ld m)=false:=rfl
theorem clash_s (l m:Nat):clash l (.st m)=(l==m):=rfl
theorem clash_w (l m:Nat):clash l (.wr m)=decide (m≤l):=rfl
theorem hp_lo (s:St) (x l:Nat):hp { heap:=s.heap,lo:=x } l=hp s l:=rfl
attribute [go_sem] hp_lo
section
variable {E:Env} {tm:List PV} {st:St} {QD:Ex→List PV→St→List Foot→Prop} {dst:Option Nat} {g:Option (Nat×Bool)} {os:List DOper} {b:Bool} {v:PV}
theorem wopsD_light {o:DOp} (hc:calm o=true) (hlo:st.lo≤st.heap.length) (hw:wants tm g=b) (hb:b=true) (ho:∀ rec (st1:St),st1.heap=st.heap→(∀ l,hp st1 l=hp st l)→stepOp E rec tm st1 o=some (.val v st1))
  (h:WOpsD E os (fun e tm' st' fs=>QD e tm' st' (.quiet::fs)) (put tm dst v) st):WOpsD E (⟨o,dst,g⟩::os) QD tm st :=
 wopsD_pure' hlo hw hb ho (by rw [foot_calm hc];exact h)
theorem wopsD_pushF {o:DOp} {ob:HObj} (hc:calm o=true) (hlo:st.lo≤st.heap.length) (hw:wants tm g=b) (hb:b=true) (ho:∀ rec (st1:St),st1.heap=st.heap→stepOp E rec tm st1 o=some (.val v (st1.push ob)))
  (h:WOpsD E os (fun e tm' st' fs=>QD e tm' st' (.quiet::fs)) (put tm dst v) (st.push ob)):WOpsD E (⟨o,dst,g⟩::os) QD tm st :=
 wopsD_push hlo hw hb ho (by rw [foot_calm hc];exact h)
theorem wopsD_ldC {agg:Bool} {sz:Nat} {a:Opd} {cs:List PV} (hlo:st.lo≤st.heap.length) (hw:wants tm g=b) (hb:b=true) (ha:a.ev tm = .cptr cs) (hv:rdPart agg sz cs=some v)
  (h:WOpsD E os (fun e tm' st' fs=>QD e tm' st' (.quiet::fs)) (put tm dst v) st):WOpsD E (⟨.load agg sz a,dst,g⟩::os) QD tm st :=
 wopsD_pure' (v:=v) hlo hw hb (fun rec st1 _ _=>by simp only [stepOp,ha,hv,Option.map_some]) (by simp only [footOf,ha];exact h)
theorem wopsD_ldP {agg:Bool} {sz:Nat} {a:Opd} {l off:Nat} {cs:List PV} (hlo:st.lo≤st.heap.length) (hw:wants tm g=b) (hb:b=true) (ha:a.ev tm = .ptr l off) (hh:hp st l=some (.var cs)) (ht:decide (off≤cs.length)=true) (hv:rdPart agg sz (cs.drop off)=some v)
  (h:WOpsD E os (fun e tm' st' fs=>QD e tm' st' (.ld l::fs)) (put tm dst v) st):WOpsD E (⟨.load agg sz a,dst,g⟩::os) QD tm st :=
 wopsD_pure' (v:=v) hlo hw hb (fun rec st1 _ h1=>by
  have h2:st1.heap[l]? = some (.var cs):=(h1 l).trans hh
  simp only [stepOp,ha,h2,of_decide_eq_true ht,if_true,hv,Option.map_some]) (by simp only [footOf,ha];exact h)
theorem wopsD_store {sz:Nat} {a x:Opd} {l off:Nat} {cs p cs':List PV} (hlo:st.lo≤st.heap.length) (hw:wants tm g=b) (hb:b=true) (ha:a.ev tm = .ptr l off) (hx:(x.ev tm).cells=p) (hh:hp st l=some (.var cs)) (hp:(decide (p.length=sz)&&(decide (off+sz≤cs.length)&&p.all PV.isCell))=true) (hs:splice cs off p=cs')
  (h:WOpsD E os (fun e tm' st' fs=>QD e tm' st' (.st l::fs)) (put tm dst undef) (setVar st l (.var cs'))):WOpsD E (⟨.store sz a x,dst,g⟩::os) QD tm st:=by
 simp only [Bool.and_eq_true,decide_eq_true_eq] at hp
 refine wopsD_set (v:=undef) (l:=l) (ob := .var cs') hlo (Nat.le_of_lt (hp_lt hh)) hw hb (fun rec st1 _ h1=>?_) (by simp only [footOf,ha];exact h)
 have h2:st1.heap[l]? = some (.var cs):=(h1 l).trans hh
 simp only [stepOp,ha,h2,hx,hp,and_self,if_true,hs]
end
theorem go2 {P C G R:Prop} (ff:P) (cc:C) (r:R) (k:P→C→Hid R→G:=by
 intro ff cc hR
 (repeat (first
  | apply wp_seq|apply wp_region_ops|apply wp_dregion_ops|apply wp_block_seq|apply wp_block_region|apply wp_block_cond|apply wp_block_dregion|apply wp_scope|apply wp_ret|apply wp_skip|apply wp_exit|apply andThen_normal|apply andThen_ret|apply andThen_exit|apply andThen_panic|apply inBlock_panic|apply inBlock_normal|apply inBlock_ret|apply inBlock_same|(apply inBlock_other (by decide))|apply wops_nil
  | (refine wops_one' (by simp only [↓reduceIte,go_sem,ff];first|done|rfl) (by with_reducible rfl) (fun rec=>by simp only [↓reduceIte,go_sem,ff];with_reducible rfl) (by with_reducible rfl) ?_)
  | (refine wops_index (by simp only [↓reduceIte,go_sem,ff];first|done|rfl) (by with_reducible rfl) (by simp only [↓reduceIte,go_sem,ff];first|done|rfl) (by assumption) (by simp only [↓reduceIte,go_sem,ff];first|done|rfl) (by first|assumption|omega) ?_)
  | (refine wops_indexI (by simp only [↓reduceIte,go_sem,ff];first|done|rfl) (by with_reducible rfl) (by simp only [↓reduceIte,go_sem,ff];first|done|rfl) (by assumption) (by simp only [↓reduceIte,go_sem,ff];first|done|rfl) (by first|assumption|omega) (by first|assumption|omega) ?_)
  | (refine wopsD_light rfl (by first|omega|(simp only [lo_push,lo_setVar,len_push,len_setVar];omega)) (by simp only [↓reduceIte,go_sem,ff];first|done|rfl) (by with_reducible rfl) (fun rec st1 he hh=>by simp only [↓reduceIte,go_sem,ff,he,hh];with_reducible rfl) ?_)
  | (refine wopsD_ldC (by first|omega|(simp only [lo_push,lo_setVar,len_push,len_setVar];omega)) (by simp only [↓reduceIte,go_sem,ff];first|done|rfl) (by with_reducible rfl) (by simp only [↓reduceIte,go_sem,ff];first|done|rfl) (by simp only [↓reduceIte,go_sem,ff];with_reducible rfl) ?_)
  | (refine wopsD_ldP (by first|omega|(simp only [lo_push,lo_setVar,len_push,len_setVar];omega)) (by simp only [↓reduceIte,go_sem,ff];first|done|rfl) (by with_reducible rfl) (by simp only [↓reduceIte,go_sem,ff];first|done|rfl) (by simp only [↓reduceIte,go_sem,ff];first|done|rfl) (by simp only [↓reduceIte,go_sem,ff];first|done|rfl) (by simp only [↓reduceIte,go_sem,ff];with_reducible rfl) ?_)
  | (refine wopsD_store (by first|omega|(simp only [lo_push,lo_setVar,len_push,len_setVar];omega)) (by simp only [↓reduceIte,go_sem,ff];first|done|rfl) (by with_reducible rfl) (by simp only [↓reduceIte,go_sem,ff];first|done|rfl) (by simp only [↓reduceIte,go_sem,ff];first|done|rfl) (by simp only [↓reduceIte,go_sem,ff];first|done|rfl) (by simp only [↓reduceIte,go_sem,ff];first|done|rfl) (by simp only [↓reduceIte,go_sem,ff];with_reducible rfl) ?_)
  | (refine wopsD_pushF rfl (by first|omega|(simp only [lo_push,lo_setVar,len_push,len_setVar];omega)) (by simp only [↓reduceIte,go_sem,ff];first|done|rfl) (by with_reducible rfl) (fun rec st1 he=>by simp only [↓reduceIte,go_sem,ff,he];with_reducible rfl) ?_)
  | (refine wopsD_index (by first|omega|(simp only [lo_push,lo_setVar,len_push,len_setVar];omega)) (by simp only [↓reduceIte,go_sem,ff];first|done|rfl) (by with_reducible rfl) (by simp only [↓reduceIte,go_sem,ff];first|done|rfl) (by assumption) (by simp only [↓reduceIte,go_sem,ff];first|done|rfl) (by first|assumption|omega) ?_)
  | (refine wopsD_indexI (by first|omega|(simp only [lo_push,lo_setVar,len_push,len_setVar];omega)) (by simp only [↓reduceIte,go_sem,ff];first|done|rfl) (by with_reducible rfl) (by simp only [↓reduceIte,go_sem,ff];first|done|rfl) (by assumption) (by simp only [↓reduceIte,go_sem,ff];first|done|rfl) (by first|assumption|omega) (by first|assumption|omega) ?_)
  | (refine wopsD_skip' (by simp only [↓reduceIte,go_sem,ff];first|done|rfl) (by with_reducible rfl) ?_)|(apply wopsD_nil;refine ⟨by first|exact footOk_quiet (by rfl)|(simp only [footOk,clash_q,clash_l,clash_s,clash_w,List.all_cons,List.all_nil,List.getElem?_cons_zero,List.getElem?_cons_succ,Bool.and_true,Bool.not_false,Bool.not_eq_true',beq_eq_false_iff_ne,decide_eq_false_iff_not,Bool.and_eq_true,ff];first|done|omega|(simp;done)),?_⟩)
  | (refine wops_panic (by simp only [↓reduceIte,go_sem,ff];first|done|rfl) (by with_reducible rfl) (by simp only [↓reduceIte,go_sem,ff];first|done|rfl) ?_)
  | (refine wops_skip' (by simp only [↓reduceIte,go_sem,ff];first|done|rfl) (by with_reducible rfl) ?_)|(refine wp_condT (by simp only [↓reduceIte,go_sem,ff];first|done|rfl) ?_)|(refine wp_condF (by simp only [↓reduceIte,go_sem,ff];first|done|rfl) ?_)
  | (refine wopsD_call (by first|omega|(simp only [lo_push,lo_setVar,len_push,len_setVar];omega)) (by simp only [↓reduceIte,go_sem,ff];first|done|rfl) (by with_reducible rfl) (by simp only [↓reduceIte,go_sem,ff];first|done|rfl) (fun st1 he=>by simp only [↓reduceIte,go_sem,ff];first|(apply cc.1 <;> first|assumption|omega|decide)|(apply cc.2.1 <;> first|assumption|omega|decide)|(apply cc.2.2.1 <;> first|assumption|omega|decide)|(apply cc.2.2.2.1 <;> first|assumption|omega|decide)|(apply cc.2.2.2.2.1 <;> first|assumption|omega|decide)|(apply cc.2.2.2.2.2.1 <;> first|assumption|omega|decide)|(apply cc.2.2.2.2.2.2.1 <;> first|assumption|omega|decide)|(apply cc.2.2.2.2.2.2.2.1 <;> first|assumption|omega|decide)|(apply cc.2.2.2.2.2.2.2.2.1 <;> first|assumption|omega|decide)) ?_)
  | (refine wops_call' (by simp only [↓reduceIte,go_sem,ff];first|done|rfl) (by with_reducible rfl) (by simp only [↓reduceIte,go_sem,ff];first|done|rfl) (by simp only [↓reduceIte,go_sem,ff];first|(apply cc.1 <;> first|assumption|omega|decide)|(apply cc.2.1 <;> first|assumption|omega|decide)|(apply cc.2.2.1 <;> first|assumption|omega|decide)|(apply cc.2.2.2.1 <;> first|assumption|omega|decide)|(apply cc.2.2.2.2.1 <;> first|assumption|omega|decide)|(apply cc.2.2.2.2.2.1 <;> first|assumption|omega|decide)|(apply cc.2.2.2.2.2.2.1 <;> first|assumption|omega|decide)|(apply cc.2.2.2.2.2.2.2.1 <;> first|assumption|omega|decide)|(apply cc.2.2.2.2.2.2.2.2.1 <;> first|assumption|omega|decide)) ?_)))
 exact hR.out):G:=k ff cc (.mk r)
end Go.Den
end

/- Part of the proofs of laws of the package version. Texts: DenLoop, DenIter, DenFin, DenArr, DenForeign, DenAny, DenAuto. -/
import Derived.Test.YthnfeimjhibcaaaTBAj
import Derived.Test.YthnfeimjhibcaaaTBAi
set_option linter.unusedSimpArgs false
set_option linter.unusedVariables false
section
namespace Go.Den
section
variable {E:Env} {Q:Ex→List PV→St→Prop} {tm:List PV} {st:St}
theorem andThen_mono {K K':List PV→St→Prop} {Q Q':Ex→List PV→St→Prop} (hk:∀ tm st,K tm st→K' tm st) (hq:∀ e tm st,e ≠ .normal→Q e tm st→Q' e tm st):∀ e tm st,andThen K Q e tm st→andThen K' Q' e tm st:=by
 intro e tm st h
 unfold andThen at h ⊢
 cases e with
 | normal=>exact hk _ _ h
 | ret=>exact hq _ _ _ (by simp) h
 | exit i=>exact hq _ _ _ (by simp) h
 | panic v=>exact hq _ _ _ (by simp) h
theorem andThen_eq_normal {K:List PV→St→Prop} {Q:Ex→List PV→St→Prop} {tm:List PV} {st:St}:andThen K Q .normal tm st=K tm st:=by unfold andThen;rfl
theorem andThen_eq_ret {K:List PV→St→Prop} {Q:Ex→List PV→St→Prop} {tm:List PV} {st:St}:andThen K Q .ret tm st=Q .ret tm st:=by unfold andThen;rfl
theorem andThen_eq_exit {K:List PV→St→Prop} {Q:Ex→List PV→St→Prop} {tm:List PV} {st:St} {i:Nat}:andThen K Q (.exit i) tm st=Q (.exit i) tm st:=by unfold andThen;rfl
theorem andThen_eq_panic {K:List PV→St→Prop} {Q:Ex→List PV→St→Prop} {tm:List PV} {st:St} {v:PV}:andThen K Q (.panic v) tm st=Q (.panic v) tm st:=by unfold andThen;rfl
theorem inBlock_eq_normal {Q:Ex→List PV→St→Prop} {tm:List PV} {st:St} {id:Nat}:inBlock id Q .normal tm st=Q .normal tm st:=by unfold inBlock;rfl
theorem inBlock_eq_ret {Q:Ex→List PV→St→Prop} {tm:List PV} {st:St} {id:Nat}:inBlock id Q .ret tm st=Q .ret tm st:=by unfold inBlock;rfl
theorem inBlock_eq_panic {Q:Ex→List PV→St→Prop} {tm:List PV} {st:St} {id:Nat} {v:PV}:inBlock id Q (.panic v) tm st=Q (.panic v) tm st:=by unfold inBlock;rfl
theorem inBlock_eq_exit {Q:Ex→List PV→St→Prop} {tm:List PV} {st:St} {id i:Nat}:inBlock id Q (.exit i) tm st=if i=id then Q .normal tm st else Q (.exit i) tm st:=by unfold inBlock;rfl
theorem inBlock_mono {Q Q':Ex→List PV→St→Prop} {id:Nat} (h:∀ e tm st,Q e tm st→Q' e tm st):∀ e tm st,inBlock id Q e tm st→inBlock id Q' e tm st:=by
 intro e tm st hq
 cases e with
 | normal=>rw [inBlock_eq_normal] at hq ⊢;exact h _ _ _ hq
 | ret=>rw [inBlock_eq_ret] at hq ⊢;exact h _ _ _ hq
 | panic v=>rw [inBlock_eq_panic] at hq ⊢;exact h _ _ _ hq
 | exit i=>rw [inBlock_eq_exit] at hq ⊢;split at hq <;> rename_i hi <;> simp only [hi,if_true,if_false] <;> exact h _ _ _ hq
theorem wrap_nat {n:Nat} (h:n<9223372036854775808):IntKind.wrap .i64 (n:Int)=n:=by
 have:IntKind.wrap .i64 (n:Int)=_:=rfl
 simp [IntKind.wrap,IntKind.bits,IntKind.signed]
 omega
theorem wp_range {a c d k j:Nat} {y:Opd} {body:DCode} (N:Nat) (vs:List Nat) (J:Nat→List PV→St→Prop) (hN:N<9223372036854775808) (ha:tg tm a = .int .i64 0) (hy:y.ev tm = .int .i64 N)
  (hl:a<tm.length∧c<tm.length∧d<tm.length)
  (hd:(a != c&&a != d&&!(writes body).contains a&&y.reads.all (fun r=>r != a&&r != c&&r != d&&!(writes body).contains r)&&vs.all (fun v=>v != a&&v != c&&v != d))=true)
  (init:J 0 (vs.map (tg tm)) st)
  (step:∀ i,i<N→∀ tm1 st1,J i (vs.map (tg tm1)) st1→Same (a::c::d::writes body) tm tm1→tg tm1 a = .int .i64 i→Wp E body (inBlock j (andThen (fun tm2 st2=>J (i+1) (vs.map (tg tm2)) st2) (inBlock k Q))) tm1 st1)
  (done:∀ tm1 st1,J N (vs.map (tg tm1)) st1→Same (a::c::d::writes body) tm tm1→Q .normal tm1 st1) :
  Wp E (.block k (.loop (.seq (.region [⟨.binI .lss (.t a) y,some c,none⟩]) (.seq (.cond (.t c) .skip (.exit k)) (.seq (.block j body) (.region [⟨.binI .add (.t a) (.c (.int .i64 1)),some d,none⟩,⟨.val (.t d),some a,none⟩])))))) Q tm st:=by
 simp only [Bool.and_eq_true,bne_iff_ne,ne_eq,Bool.not_eq_true',List.all_eq_true] at hd
 obtain ⟨⟨⟨⟨hac,had⟩,hba⟩,hyr⟩,hvs⟩:=hd
 have hvs':∀ (x:Nat) (v:PV) (tm1:List PV),(x=a∨x=c∨x=d)→vs.map (tg (put tm1 (some x) v))=vs.map (tg tm1):=by
  intro x v tm1 hx
  apply List.map_congr_left
  intro u hu
  have:=hvs u hu
  exact tg_ne (by rintro rfl;rcases hx with h|h|h <;> simp_all)
 have hyv:∀ tm1,Same (a::c::d::writes body) tm tm1→y.ev tm1 = .int .i64 N:=by
  intro tm1 h1
  cases y with
  | c v=>exact hy
  | t r =>
   have:=hyr r (by simp [Opd.reads])
   rw [ev_t,h1.2 r (by simp_all),← ev_t,hy]
 apply wp_block
 refine wp_loop (fun m tm1 st1=>∃ i,i≤N∧m=N - i∧J i (vs.map (tg tm1)) st1∧Same (a::c::d::writes body) tm tm1∧tg tm1 a = .int .i64 i) ?_ N ⟨0,Nat.zero_le _,rfl,init,.refl _ _,ha⟩
 rintro m tm1 st1 ⟨i,hi,rfl,hJ,hS,hia⟩
 have hlen:tm1.length=tm.length:=hS.1
 apply wp_seq
 apply wp_region_ops
 refine wops_one (v := .bool (decide ((i:Int)<N))) (st1:=st1) rfl (fun rec=>?_) ?_
 ·simp only [op_binI,ev_t,hia,hyv tm1 hS,if_true,binI,Option.map_some]
 apply wops_nil
 apply andThen_normal
 have hS1:Same (a::c::d::writes body) tm (put tm1 (some c) (.bool (decide ((i:Int)<N)))):=hS.trans (.put (fun x hx=>by cases hx;simp))
 have hc1:tg (put tm1 (some c) (.bool (decide ((i:Int)<N)))) c = .bool (decide ((i:Int)<N)):=tg_same (by omega)
 apply wp_seq
 refine wp_cond hc1 ?_
 by_cases hlt:i<N
 ·have ht:decide ((i:Int)<N)=true:=by simp;omega
  simp only [ht,if_true]
  apply wp_skip
  apply andThen_normal
  apply wp_seq
  apply wp_block
  rw [ht] at hS1
  have hb:=step i hlt (put tm1 (some c) (.bool true)) st1 (by rw [hvs' c _ _ (by simp)];exact hJ) hS1 (by rw [tg_ne (fun h=>hac h.symm)];exact hia)
  refine (wp_frame hb).mono fun e tm2 st2 ⟨h1,h2⟩=>?_
  have hS2:Same (a::c::d::writes body) tm tm2:=hS1.trans (h2.mono fun i hi=>by simp_all)
  have ha2:tg tm2 a = .int .i64 i:=by rw [h2.2 a hba,tg_ne (fun h=>hac h.symm)];exact hia
  have fin:∀ tm2 st2,J (i+1) (vs.map (tg tm2)) st2→Same (a::c::d::writes body) tm tm2→tg tm2 a = .int .i64 i→Wp E (.region [⟨.binI .add (.t a) (.c (.int .i64 1)),some d,none⟩,⟨.val (.t d),some a,none⟩]) (andThen (fun tm3 st3=>∃ m',m'<N - i∧∃ i,i≤N∧m'=N - i∧J i (vs.map (tg tm3)) st3∧Same (a::c::d::writes body) tm tm3∧tg tm3 a = .int .i64 i) (inBlock k Q)) tm2 st2:=by
   intro tm2 st2 hJ2 hS2 ha2
   apply wp_region_ops
   refine wops_one (v := .int .i64 ((i+1:Nat):Int)) (st1:=st2) rfl (fun rec=>?_) ?_
   ·simp only [op_binI,ev_t,ev_c,ha2,if_true,binI,Option.map_some]
    have:=wrap_nat (n:=i+1) (by omega)
    rw [← this];rfl
   refine wops_one (v := .int .i64 ((i+1:Nat):Int)) (st1:=st2) rfl (fun rec=>?_) ?_
   ·rw [op_val,ev_t,tg_same (by have:=hS2.1;omega)]
   apply wops_nil
   apply andThen_normal
   refine ⟨N - (i+1),by omega,i+1,by omega,rfl,?_,?_,?_⟩
   ·rw [hvs' a _ _ (by simp),hvs' d _ _ (by simp)];exact hJ2
   ·exact (hS2.trans (.put (fun x hx=>by cases hx;simp))).trans (.put (fun x hx=>by cases hx;simp))
   ·exact tg_same (by rw [put_len];have:=hS2.1;omega)
  refine inBlock_mono (Q:=andThen (fun tm2 st2=>J (i+1) (vs.map (tg tm2)) st2∧Same (a::c::d::writes body) tm tm2∧tg tm2 a = .int .i64 i) (inBlock k Q)) ?_ e tm2 st2 ?_
  ·intro e tm2 st2 h
   cases e with
   | normal =>
    rw [andThen_eq_normal] at h ⊢
    exact fin _ _ h.1 h.2.1 h.2.2
   | ret=>rw [andThen_eq_ret] at h;rw [andThen_eq_ret,andThen_eq_ret];exact h
   | panic v=>rw [andThen_eq_panic] at h;rw [andThen_eq_panic,andThen_eq_panic];exact h
   | exit x=>rw [andThen_eq_exit] at h;rw [andThen_eq_exit,andThen_eq_exit];exact h
  ·cases e with
   | normal=>rw [inBlock_eq_normal,andThen_eq_normal] at h1 ⊢;exact ⟨h1,hS2,ha2⟩
   | ret=>rw [inBlock_eq_ret,andThen_eq_ret] at h1 ⊢;exact h1
   | panic v=>rw [inBlock_eq_panic,andThen_eq_panic] at h1 ⊢;exact h1
   | exit x =>
    rw [inBlock_eq_exit] at h1 ⊢
    split at h1
    ·rename_i hx;rw [if_pos hx,andThen_eq_normal] at *;exact ⟨h1,hS2,ha2⟩
    ·rename_i hx;rw [if_neg hx,andThen_eq_exit] at *;exact h1
 ·have ht:decide ((i:Int)<N)=false:=by simp;omega
  simp only [ht,Bool.false_eq_true,if_false]
  apply wp_exit
  apply andThen_exit
  apply andThen_exit
  apply inBlock_same
  have:i=N:=by omega
  subst this
  rw [ht] at hS1
  exact done _ _ (by rw [hvs' c _ _ (by simp)];exact hJ) hS1
theorem wp_for {c k j:Nat} {cnd body inc:DCode} (vs:List Nat) (J:Nat→List PV→St→Prop) (mu:Nat→Nat)
  (init:J 0 (vs.map (tg tm)) st)
  (step:∀ i tm1 st1,J i (vs.map (tg tm1)) st1→Same (writes cnd++writes body++writes inc) tm tm1 →
   Wp E cnd (andThen (fun tm2 st2=>∃ b,tg tm2 c = .bool b∧(b=false→Q .normal tm2 st2)∧(b=true→mu (i+1)<mu i ∧
    Wp E body (inBlock j (andThen (fun tm3 st3=>Wp E inc (andThen (fun tm4 st4=>J (i+1) (vs.map (tg tm4)) st4) (inBlock k Q)) tm3 st3) (inBlock k Q))) tm2 st2)) (inBlock k Q)) tm1 st1) :
  Wp E (.block k (.loop (.seq (.seq cnd (.cond (.t c) .skip (.exit k))) (.seq (.block j body) inc)))) Q tm st:=by
 apply wp_block
 have hS:∀ tm1 tm2,Same (writes (.seq (.seq cnd (.cond (.t c) .skip (.exit k))) (.seq (.block j body) inc))) tm1 tm2→Same (writes cnd++writes body++writes inc) tm1 tm2:=fun tm1 tm2 h=>h.mono fun i hi=>by simpa [writes] using hi
 refine wp_loopF (fun m tm1 st1=>∃ i,m=mu i∧J i (vs.map (tg tm1)) st1) ?_ (mu 0) ⟨0,rfl,init⟩
 rintro m tm1 st1 ⟨i,rfl,hJ⟩ hs
 apply wp_seq
 apply wp_seq
 refine (step i tm1 st1 hJ (hS _ _ hs)).mono (andThen_mono ?_ ?_)
 ·rintro tm2 st2 ⟨b,hb,h1,h2⟩
  refine wp_cond hb ?_
  cases b
  ·simp only [Bool.false_eq_true,if_false]
   apply wp_exit
   apply andThen_exit
   apply andThen_exit
   apply inBlock_same
   exact h1 rfl
  ·simp only [if_true]
   apply wp_skip
   apply andThen_normal
   obtain ⟨h3,h4⟩:=h2 rfl
   apply wp_seq
   apply wp_block
   refine h4.mono (inBlock_mono ?_)
   intro e tm st h
   cases e with
   | normal =>
    rw [andThen_eq_normal] at h ⊢
    exact h.mono (andThen_mono (fun tm st h=>⟨mu (i+1),h3,i+1,rfl,h⟩) (fun e tm st _ h=>h))
   | ret=>rw [andThen_eq_ret] at h;rw [andThen_eq_ret,andThen_eq_ret];exact h
   | panic v=>rw [andThen_eq_panic] at h;rw [andThen_eq_panic,andThen_eq_panic];exact h
   | exit x=>rw [andThen_eq_exit] at h;rw [andThen_eq_exit,andThen_eq_exit];exact h
 ·intro e tm2 st2 he h
  cases e with
  | normal=>exact absurd rfl he
  | ret=>rw [andThen_eq_ret,andThen_eq_ret];exact h
  | exit i=>rw [andThen_eq_exit,andThen_eq_exit];exact h
  | panic v=>rw [andThen_eq_panic,andThen_eq_panic];exact h
theorem wops_index {α:Type} {sz:Nat} {x i:Opd} {dst:Option Nat} {g:Option (Nat×Bool)} {os:List DOper} {b:Bool} {enc:α→List PV} {F:PV} {l:List α} {kk:IntKind} {n:Nat} (hw:wants tm g=b) (hb:b=true) (hx:x.ev tm=F) (hF:SlOf sz enc F l) (hi:i.ev tm = .int kk n) (hj:n<l.length) (h:WOps E os Q (put tm dst (.cptr (enc l[n]))) st):WOps E (⟨.indexAddr sz x i,dst,g⟩::os) Q tm st :=
 wops_one (hw.trans hb) (fun rec=>step_index hx hF hi (by omega) (by simpa using hj)) (by simpa using h)
theorem wops_indexI {α:Type} {sz:Nat} {x i:Opd} {dst:Option Nat} {g:Option (Nat×Bool)} {os:List DOper} {b:Bool} {enc:α→List PV} {F:PV} {l:List α} {kk:IntKind} {n:Int} (hw:wants tm g=b) (hb:b=true) (hx:x.ev tm=F) (hF:SlOf sz enc F l) (hi:i.ev tm = .int kk n) (h0:0≤n) (hj:n.toNat<l.length) (h:WOps E os Q (put tm dst (.cptr (enc l[n.toNat]))) st):WOps E (⟨.indexAddr sz x i,dst,g⟩::os) Q tm st :=
 wops_one (hw.trans hb) (fun rec=>step_index hx hF hi h0 hj) h
theorem wops_slice {α:Type} {sz:Nat} {x:Opd} {lo hi:Option Opd} {dst:Option Nat} {g:Option (Nat×Bool)} {os:List DOper} {b:Bool} {enc:α→List PV} {F:PV} {l:List α} {n m:Nat} (hw:wants tm g=b) (hb:b=true) (hx:x.ev tm=F) (hF:SlOf sz enc F l) (hh:bound tm hi l.length=some m) (hl:bound tm lo 0=some n) (hnm:n≤m) (hm:m≤l.length) (h:∀ F',SlOf sz enc F' ((l.drop n).take (m - n))→WOps E os Q (put tm dst F') st):WOps E (⟨.slice sz x lo hi,dst,g⟩::os) Q tm st:=by
 obtain ⟨F',_,h2⟩:=step_slice (E:=E) (rec:=run E 0) (st:=st) hx hF hh hl hnm hm
 refine wops_one (hw.trans hb) (fun rec=>?_) (h F' h2)
 obtain ⟨F2,h3,h4⟩:=step_slice (E:=E) (rec:=rec) (st:=st) hx hF hh hl hnm hm
 rename_i h5
 have:some (OpR.val F2 st)=some (OpR.val F' st):=by rw [← h3,← h5];simp only [stepOp]
 rw [h3,this]
theorem wopsD_index {QD:Ex→List PV→St→List Foot→Prop} {α:Type} {sz:Nat} {x i:Opd} {dst:Option Nat} {g:Option (Nat×Bool)} {os:List DOper} {b:Bool} {enc:α→List PV} {F:PV} {l:List α} {kk:IntKind} {n:Nat} (hlo:st.lo≤st.heap.length) (hw:wants tm g=b) (hb:b=true) (hx:x.ev tm=F) (hF:SlOf sz enc F l) (hi:i.ev tm = .int kk n) (hj:n<l.length) (h:WOpsD E os (fun e tm' st' fs=>QD e tm' st' (.quiet::fs)) (put tm dst (.cptr (enc l[n]))) st):WOpsD E (⟨.indexAddr sz x i,dst,g⟩::os) QD tm st:=by
 refine wopsD_pure hlo (hw.trans hb) (fun rec st1 _=>step_index hx hF hi (by omega) (by simpa using hj)) ?_
 simp only [footOf,Nat.le_refl,if_true]
 simpa using h
theorem wopsD_indexI {QD:Ex→List PV→St→List Foot→Prop} {α:Type} {sz:Nat} {x i:Opd} {dst:Option Nat} {g:Option (Nat×Bool)} {os:List DOper} {b:Bool} {enc:α→List PV} {F:PV} {l:List α} {kk:IntKind} {n:Int} (hlo:st.lo≤st.heap.length) (hw:wants tm g=b) (hb:b=true) (hx:x.ev tm=F) (hF:SlOf sz enc F l) (hi:i.ev tm = .int kk n) (h0:0≤n) (hj:n.toNat<l.length) (h:WOpsD E os (fun e tm' st' fs=>QD e tm' st' (.quiet::fs)) (put tm dst (.cptr (enc l[n.toNat]))) st):WOpsD E (⟨.indexAddr sz x i,dst,g⟩::os) QD tm st:=by
 refine wopsD_pure hlo (hw.trans hb) (fun rec st1 _=>step_index hx hF hi h0 hj) ?_
 simp only [footOf,Nat.le_refl,if_true]
 exact h
theorem wopsD_slice {QD:Ex→List PV→St→List Foot→Prop} {α:Type} {sz:Nat} {x:Opd} {lo hi:Option Opd} {dst:Option Nat} {g:Option (Nat×Bool)} {os:List DOper} {b:Bool} {enc:α→List PV} {F:PV} {l:List α} {n m:Nat} (hlo:st.lo≤st.heap.length) (hw:wants tm g=b) (hb:b=true) (hx:x.ev tm=F) (hF:SlOf sz enc F l) (hh:bound tm hi l.length=some m) (hl:bound tm lo 0=some n) (hnm:n≤m) (hm:m≤l.length) (h:∀ F',SlOf sz enc F' ((l.drop n).take (m - n))→WOpsD E os (fun e tm' st' fs=>QD e tm' st' (.quiet::fs)) (put tm dst F') st):WOpsD E (⟨.slice sz x lo hi,dst,g⟩::os) QD tm st:=by
 obtain ⟨F',h5,h2⟩:=step_slice (E:=E) (rec:=run E 0) (st:=st) hx hF hh hl hnm hm
 refine wopsD_pure hlo (hw.trans hb) (fun rec st1 h1=>?_) (v:=F') ?_
 ·obtain ⟨F2,h3,h4⟩:=step_slice (E:=E) (rec:=rec) (st:=st1) hx hF hh hl hnm hm
  obtain ⟨F3,h6,h7⟩:=step_slice (E:=E) (rec:=rec) (st:=st) hx hF hh hl hnm hm
  have h8:some (OpR.val F3 st)=some (OpR.val F' st):=by rw [← h6,← h5];simp only [stepOp]
  have h9:F2=F3:=by
   simp only [stepOp,hx] at h3 h6
   cases F <;> simp only [hh,hl] at h3 h6 <;> (try (split at h3 <;> split at h6 <;> simp_all)) <;> simp_all
  rw [h3,h9]
  simp only [Option.some.injEq,OpR.val.injEq,and_true] at h8
  rw [h8]
 ·simp only [footOf,Nat.le_refl,if_true]
  exact h F' h2
theorem wops_append {sz:Nat} {x y:Opd} {dst:Option Nat} {g:Option (Nat×Bool)} {os:List DOper} {b:Bool} {m n k:Nat} {v w:PV} {cs ys:List PV} (hw:wants tm g=b) (hb:b=true) (hx:x.ev tm=v) (hy:y.ev tm=w) (ho:OwnS m st sz v n cs) (hyl:w.sl=some (k,ys)) (hm:m≤st.heap.length) (hl:ys.length=k*sz) (hc:ys.all PV.isCell=true) (hn:n+k≤maxList)
  (h:∀ v' st',OwnS m st' sz v' (n+k) (cs++ys.map PV.share)→Fr m st st'→(∀ l o,hp st l=some o→(∀ b,o ≠ .tag b)→hp st' l=some o)→WOps E os Q (put tm dst v') st'):WOps E (⟨.append false sz x y,dst,g⟩::os) Q tm st:=by
 obtain ⟨v',st',h1,h2,h3,h4⟩:=ho.append hm hl hc hn
 refine wops_one (hw.trans hb) (fun rec=>?_) (h v' st' h2 h3 h4)
 simp only [stepOp,hx,hy]
 cases w <;> simp only [PV.sl,Option.some.injEq,Prod.mk.injEq,reduceCtorEq] at hyl
 ·obtain ⟨rfl,rfl⟩:=hyl;exact h1
 ·obtain ⟨rfl,rfl⟩:=hyl;exact h1
theorem ldP {agg:Bool} {sz l off:Nat}:ldR agg sz (.ptr l off) st=match hp st l with
  | some (.var cs)=>if off≤cs.length then (rdPart agg sz (cs.drop off)).map (.val · st) else none
  | _=>none:=rfl
theorem ldA {agg:Bool} {sz l off:Nat}:ldR agg sz (.aptr l off) st=match hp st l with
  | some (.arr cs)=>if off≤cs.length then (rdPart agg sz (cs.drop off)).map (.val · st) else none
  | _=>none:=rfl
theorem stP {sz l off:Nat} {x:PV}:stR sz (.ptr l off) x st=match hp st l with
  | some (.var cs)=>if x.cells.length=sz∧off+sz≤cs.length∧x.cells.all PV.isCell=true then some (.val undef (setVar st l (.var (splice cs off x.cells)))) else none
  | _=>none:=rfl
theorem stA {sz l off:Nat} {x:PV}:stR sz (.aptr l off) x st=match hp st l with
  | some (.arr cs)=>if x.cells.length=sz∧off+sz≤cs.length∧x.cells.all PV.isCell=true then some (.val undef (setVar st l (.arr (splice cs off x.cells)))) else none
  | _=>none:=rfl
theorem wp_condT {c:Opd} {a b:DCode} (hc:c.ev tm = .bool true) (h:Wp E a Q tm st):Wp E (.cond c a b) Q tm st:=wp_cond hc (by simpa using h)
theorem wp_condF {c:Opd} {a b:DCode} (hc:c.ev tm = .bool false) (h:Wp E b Q tm st):Wp E (.cond c a b) Q tm st:=wp_cond hc (by simpa using h)
theorem wp_block_seq {id:Nat} {a b:DCode} (h:Wp E (.seq a b) (inBlock id Q) tm st):Wp E (.block id (.seq a b)) Q tm st:=wp_block h
theorem wp_block_cond {id:Nat} {c:Opd} {a b:DCode} (h:Wp E (.cond c a b) (inBlock id Q) tm st):Wp E (.block id (.cond c a b)) Q tm st:=wp_block h
theorem wp_block_region {id:Nat} {os:List DOper} (h:Wp E (.region os) (inBlock id Q) tm st):Wp E (.block id (.region os)) Q tm st:=wp_block h
theorem wp_block_dregion {id:Nat} {os:List DOper} {fr:List (Nat×List Nat)} (h:Wp E (.dregion os fr) (inBlock id Q) tm st):Wp E (.block id (.dregion os fr)) Q tm st:=wp_block h
end
theorem cells_bool (b:Bool):(PV.bool b).cells=[.bool b]:=rfl
theorem isCell_bool (b:Bool):(PV.bool b).isCell=true:=rfl
theorem cells_int (k:IntKind) (n:Int):(PV.int k n).cells=[.int k n]:=rfl
theorem isCell_int (k:IntKind) (n:Int):(PV.int k n).isCell=true:=rfl
theorem cells_str (s:ByteArray):(PV.str s).cells=[.str s]:=rfl
theorem isCell_str (s:ByteArray):(PV.str s).isCell=true:=rfl
theorem cells_ptr (l o:Nat):(PV.ptr l o).cells=[.ptr l o]:=rfl
theorem isCell_ptr (l o:Nat):(PV.ptr l o).isCell=true:=rfl
theorem cells_cptr (c:List PV):(PV.cptr c).cells=[.cptr c]:=rfl
theorem isCell_cptr (c:List PV):(PV.cptr c).isCell=true:=rfl
theorem cells_nilptr  : (PV.nilptr ).cells=[.nilptr ]:=rfl
theorem isCell_nilptr  : (PV.nilptr ).isCell=true:=rfl
theorem cells_slice (o:Own) (n:Nat) (c:List PV):(PV.slice o n c).cells=[.slice o n c]:=rfl
theorem isCell_slice (o:Own) (n:Nat) (c:List PV):(PV.slice o n c).isCell=true:=rfl
theorem cells_nilslice  : (PV.nilslice ).cells=[.nilslice ]:=rfl
theorem isCell_nilslice  : (PV.nilslice ).isCell=true:=rfl
theorem cells_vslice (l z n:Nat):(PV.vslice l z n).cells=[.vslice l z n]:=rfl
theorem isCell_vslice (l z n:Nat):(PV.vslice l z n).isCell=true:=rfl
theorem cells_hslice (l z n:Nat):(PV.hslice l z n).cells=[.hslice l z n]:=rfl
theorem isCell_hslice (l z n:Nat):(PV.hslice l z n).isCell=true:=rfl
theorem cells_map (l:Nat):(PV.map l).cells=[.map l]:=rfl
theorem isCell_map (l:Nat):(PV.map l).isCell=true:=rfl
theorem cells_nilmap  : (PV.nilmap ).cells=[.nilmap ]:=rfl
theorem isCell_nilmap  : (PV.nilmap ).isCell=true:=rfl
theorem cells_func (f:Nat) (a c:List PV):(PV.func f a c).cells=[.func f a c]:=rfl
theorem isCell_func (f:Nat) (a c:List PV):(PV.func f a c).isCell=true:=rfl
theorem cells_nilfunc  : (PV.nilfunc ).cells=[.nilfunc ]:=rfl
theorem isCell_nilfunc  : (PV.nilfunc ).isCell=true:=rfl
theorem cells_yield (l:Nat):(PV.yield l).cells=[.yield l]:=rfl
theorem isCell_yield (l:Nat):(PV.yield l).isCell=true:=rfl
theorem cells_iface (t:Nat) (v:PV):(PV.iface t v).cells=[.iface t v]:=rfl
theorem isCell_iface (t:Nat) (v:PV):(PV.iface t v).isCell=true:=rfl
theorem cells_niliface  : (PV.niliface ).cells=[.niliface ]:=rfl
theorem isCell_niliface  : (PV.niliface ).isCell=true:=rfl
theorem wants_true (tm:List PV) (d:Nat):wants tm (some (d,true))=match tg tm d with
  | .bool c=>c
  | _=>false:=by
 rw [wants_tg];cases tg tm d <;> simp
theorem wants_false (tm:List PV) (d:Nat):wants tm (some (d,false))=match tg tm d with
  | .bool c=>!c
  | _=>false:=by
 rw [wants_tg];cases tg tm d <;> simp
theorem SlOf.of_sl {α:Type} {sz:Nat} {enc:α→List PV} {v:PV} {n:Nat} {cs:List PV} {l:List α} (h:v.sl=some (n,cs)) (hn:n=l.length) (hc:cs=l.flatMap enc) (hl:∀ a,(enc a).length=sz):SlOf sz enc v l:=⟨by rw [h,hn,hc],fun a _=>hl a⟩
def isQ:Option Foot→Bool
 | some .quiet=>true
 | none=>true
 | _=>false
theorem footOk_quiet {fs:List Foot} {free:List (Nat×List Nat)} (h:free.all (fun p=>p.2.all (fun j=>isQ fs[j]?))=true):footOk fs free=true:=by
 simp only [footOk,List.all_eq_true] at h ⊢
 intro p hp
 have h1:=h p hp
 split
 ·simp only [List.all_eq_true]
  intro j hj
  have h2:=h1 j hj
  split
  ·rename_i f hf
   rw [hf] at h2
   cases f <;> simp_all [isQ,clash]
  ·rfl
 ·rfl
theorem rdRes_hp {tm:List PV} {t l off:Nat} {agg:Bool} {sz:Nat} {st:St} (ht:tg tm t = .ptr l off):rdRes tm st.heap (.cell t agg sz)=match hp st l with
  | some (.var cs)=>if off≤cs.length then rdPart agg sz (cs.drop off) else none
  | _=>none:=rdRes_cell ht
theorem ltL {a b:Nat} (h:a<b):(a<b)=True:=by simp [h]
theorem ltA {a b:Nat} (h:a<b) (k:Nat):(a<b+k)=True:=by simp;omega
theorem neL {a b:Nat} (h:a<b):(a=b)=False:=by simp;omega
theorem neA {a b:Nat} (h:a<b) (k:Nat):(a=b+k)=False:=by simp;omega
theorem share_int (k:IntKind) (n:Int):(PV.int k n).share = .int k n:=rfl
theorem share_bool (b:Bool):(PV.bool b).share = .bool b:=rfl
theorem share_str (s:ByteArray):(PV.str s).share = .str s:=rfl
theorem share_slice (o:Own) (n:Nat) (c:List PV):(PV.slice o n c).share = .slice .shared n c:=rfl
theorem share_nilslice:PV.nilslice.share = .nilslice:=rfl
theorem cells_agg (cs:List PV):(PV.agg cs).cells=cs:=rfl
theorem slen_nilslice:PV.nilslice.slen=some 0:=rfl
theorem slen_slice (o:Own) (n:Nat) (c:List PV):(PV.slice o n c).slen=some n:=rfl
theorem slen_vslice (l z n:Nat):(PV.vslice l z n).slen=some n:=rfl
theorem slen_hslice (l z n:Nat):(PV.hslice l z n).slen=some n:=rfl
theorem RetS.hp {st st':St} {sz n:Nat} {cs:List PV} {v:PV} (h:RetS st sz n cs v st') {l:Nat} {o:HObj} (hl:hp st l=some o):hp st' l=some o:=by
 rcases h.st' with rfl|rfl
 ·exact hl
 ·rw [hp_push,if_neg (by have:=hp_lt hl;omega)];exact hl
theorem RetS.lo {st st':St} {sz n:Nat} {cs:List PV} {v:PV} (h:RetS st sz n cs v st'):st'.lo=st.lo:=by
 rcases h.st' with rfl|rfl <;> rfl
theorem RetS.len {st st':St} {sz n:Nat} {cs:List PV} {v:PV} (h:RetS st sz n cs v st'):st.heap.length≤st'.heap.length:=by
 rcases h.st' with rfl|rfl
 ·omega
 ·rw [len_push];omega
theorem wopsD_callS {E:Env} {QD:Ex→List PV→St→List Foot→Prop} {tm:List PV} {st:St} {f:Opd} {args:List Opd} {dst:Option Nat} {g:Option (Nat×Bool)} {os:List DOper} {b:Bool} {fv:PV} {sz n:Nat} {cs:List PV} (hlo:st.lo≤st.heap.length) (hw:wants tm g=b) (hb:b=true) (hf:f.ev tm=fv) (hc:∀ st1:St,st1.heap=st.heap→ClR E fv (evs tm args) st1 (RetS st1 sz n cs))
  (h:∀ v st',RetS st sz n cs v st'→WOpsD E os (fun e tm' st' fs=>QD e tm' st' (.quiet::fs)) (put tm dst v) st'):WOpsD E (⟨.call f args,dst,g⟩::os) QD tm st:=by
 obtain ⟨v,st1,⟨N,hN⟩,hR⟩:=hc { st with lo:=st.heap.length } rfl
 refine wopsD_cons (v:=v) (st1:=st1) (hw.trans hb) N (fun n hn=>?_) ?_
 ·simp only [stepOp,hf,hN n hn]
 ·have hq:footOf tm (.call f args) st.heap.length st1.lo = .quiet:=by
   simp only [footOf]
   rw [hR.lo]
   simp
  rw [hq]
  obtain ⟨h0,⟨rfl,rfl,rfl⟩|⟨rfl,rfl⟩⟩:=hR
  ·simp only [Nat.min_eq_left hlo]
   exact h _ _ ⟨h0,.inl ⟨rfl,rfl,rfl⟩⟩
  ·have:({ heap:=((⟨st.heap,st.heap.length⟩:St).push (.tag true)).heap,lo:=min st.lo ((⟨st.heap,st.heap.length⟩:St).push (.tag true)).lo }:St)=st.push (.tag true):=by
    simp only [St.push,Nat.min_eq_left hlo]
   rw [this]
   exact h _ _ ⟨h0,.inr ⟨rfl,rfl⟩⟩
def ClX (E:Env) (f:PV) (args:List PV) (st:St) (v:PV) (P:St→Prop):Prop:=∃ st',Cl E f args st (.panic v) st'∧P st'
def FnX (st:St) (v:PV) (P:St→Prop):Ex→List PV→St→Prop:=fun e _ st1=>match e with
 | .panic u=>u=v∧P { heap:=st1.heap,lo:=min st.lo st1.lo }
 | _=>False
theorem clx_fn {E:Env} {st:St} {g:Nat} {a c args:List PV} {n:Nat} {rs:List DRes} {b:DCode} {v:PV} {P:St→Prop} (hp:∀ rec,E.prim g rec (a++args++c) st=none) (hf:E.fn g=some ⟨n,rs,b⟩) (k:Nat) (hk:(a++args++c).length=k) (hkn:k≤n)
  (h:∀ tm,tm.length=n→(∀ i,i<k→tg tm i=(a++args++c).getD i undef)→Wp E b (FnX st v P) tm { heap:=st.heap,lo:=st.heap.length }):ClX E (.func g a c) args st v P:=by
 have:=h ((a++args++c)++List.replicate (n - (a++args++c).length) undef) (by simp at hk ⊢;omega) (fun i hi=>by
  unfold tg
  rw [List.getD_eq_getElem?_getD,List.getD_eq_getElem?_getD,List.getElem?_append_left (by omega)])
 unfold Wp at this
 obtain ⟨N,e,tm1,st1,h1,h2⟩:=this
 cases e with
 | normal=>exact h2.elim
 | ret=>exact h2.elim
 | exit i=>exact h2.elim
 | panic u =>
  obtain ⟨rfl,h3⟩:=h2
  refine ⟨_,cl_of_wp (r := .panic u) (st':={ heap:=st1.heap,lo:=min st.lo st1.lo }) hp hf ?_,h3⟩
  unfold Wp
  exact ⟨N,.panic u,tm1,st1,h1,rfl,rfl⟩
theorem fnx_panic {st:St} {v:PV} {P:St→Prop} {tm1:List PV} {st1:St} (h:P { heap:=st1.heap,lo:=min st.lo st1.lo }):FnX st v P (.panic v) tm1 st1:=⟨rfl,h⟩
attribute [irreducible] FnX
theorem wops_panic {E:Env} {Q:Ex→List PV→St→Prop} {tm:List PV} {st:St} {x:Opd} {dst:Option Nat} {g:Option (Nat×Bool)} {os:List DOper} {b:Bool} {t:Nat} {v:PV} (hw:wants tm g=b) (hb:b=true) (hx:x.ev tm = .iface t v) (h:Q (.panic (.iface t v)) tm st):WOps E (⟨.panic x,dst,g⟩::os) Q tm st:=by
 unfold WOps
 refine ⟨0,_,_,_,fun n _=>?_,h⟩
 simp only [stepOps,hw,hb,if_true,stepOp,hx]
theorem andThen_panic {K:List PV→St→Prop} {Q:Ex→List PV→St→Prop} {tm:List PV} {st:St} {v:PV} (h:Q (.panic v) tm st):andThen K Q (.panic v) tm st:=by rw [andThen_eq_panic];exact h
theorem inBlock_panic {Q:Ex→List PV→St→Prop} {tm:List PV} {st:St} {id:Nat} {v:PV} (h:Q (.panic v) tm st):inBlock id Q (.panic v) tm st:=by rw [inBlock_eq_panic];exact h
theorem results_nil {tm:List PV} {h:List HObj}:results tm h []=some (.tuple []):=rfl
theorem fnq_tuple' {rs:List DRes} {st:St} {tm1:List PV} {st1:St} {vs:List PV} (hr:results tm1 st1.heap rs=some (.tuple vs)) (h:st.heap.length≤st1.lo) (hv:vs.all PV.flat=true):FnQ rs st (.ret (.tuple vs)) st .normal tm1 st1:=by
 unfold FnQ
 exact ⟨_,hr,_,finish_tuple h hv,rfl⟩
attribute [go_sem] Nat.add_assoc ev_t ev_c tg_put tg_none put_len wants_none wants_true wants_false Bool.not_true Bool.not_false evs_cons evs_nil op_val op_pick op_box op_alloc op_build op_buildSlice op_buildSliceS op_load op_store op_nilCheck op_binI op_binS op_binB op_eqAgg op_isNilS op_not op_neg op_toInt op_mkIface op_mkFunc op_mkMap op_fieldAddr op_part op_extract op_len op_lenStr op_minmax op_indexArr share_int share_bool share_str share_slice share_nilslice cells_bool cells_int cells_str cells_ptr cells_cptr cells_nilptr cells_slice cells_nilslice cells_hslice cells_vslice cells_map cells_nilmap cells_func cells_nilfunc cells_yield cells_iface cells_niliface isCell_bool isCell_int isCell_str isCell_ptr isCell_cptr isCell_nilptr isCell_slice isCell_nilslice isCell_hslice isCell_vslice isCell_map isCell_nilmap isCell_func isCell_nilfunc isCell_yield isCell_iface isCell_niliface cells_agg slen_nilslice slen_slice slen_hslice slen_vslice fillD splice rdPart ldP ldA ldR_cptr stP stA binI mm ints List.take_succ_cons List.take_zero List.drop_succ_cons List.drop_zero List.cons_append List.nil_append List.append_nil List.length_cons List.length_nil List.all_cons List.all_nil Bool.and_self Bool.and_true Bool.true_and List.map_cons List.map_nil Option.map_some List.head?_cons List.getElem?_cons_zero List.getElem?_cons_succ Nat.zero_add Nat.add_zero Nat.le_refl Nat.zero_le and_self true_and and_true hp_push len_push hp_setVar len_setVar Nat.add_right_cancel_iff Nat.lt_irrefl Nat.left_eq_add Nat.add_eq_left Nat.succ_ne_self Nat.lt_add_one Nat.lt_add_left_iff_pos Nat.lt_add_right_iff_pos Nat.ne_of_lt Nat.add_lt_add_iff_left
end Go.Den
end
section
namespace Go.Den
def HExt (h h':List HObj):Prop:=h.length≤h'.length∧∀ l,l<h.length→h'[l]? = h[l]?
def isKept:HObj→Bool
 | .var _=>true
 | .loop .. => true
 | .map _=>true
 | _=>false
def KeepV (W:Nat→Prop) (h h':List HObj):Prop:=h.length≤h'.length∧∀ l o,h[l]? = some o→isKept o=true→¬ W l→h'[l]? = some o
theorem HExt.refl (h:List HObj):HExt h h:=⟨Nat.le_refl _,fun _ _=>rfl⟩
theorem HExt.trans {a b c:List HObj} (h:HExt a b) (h':HExt b c):HExt a c:=⟨Nat.le_trans h.1 h'.1,fun l hl=>(h'.2 l (by have:=h.1;omega)).trans (h.2 l hl)⟩
theorem HExt.push (st:St) (o:HObj):HExt st.heap (st.push o).heap:=⟨by rw [len_push];omega,fun l hl=>by
 have:=hp_push st o l
 rw [if_neg (by omega)] at this
 exact this⟩
theorem Fr.hext {a b:St} (h:Fr a.heap.length a b):HExt a.heap b.heap:=⟨h.len,h.old⟩
theorem HExt.hp {a b:St} (h:HExt a.heap b.heap) {l:Nat} {o:HObj} (ho:hp a l=some o):hp b l=some o:=(h.2 l (hp_lt ho)).trans ho
theorem HExt.keep {a b:List HObj} (W:Nat→Prop) (h:HExt a b):KeepV W a b:=⟨h.1,fun l o ho _ _=>by rw [h.2 l (List.getElem?_eq_some_iff.1 ho).1];exact ho⟩
theorem KeepV.refl (W:Nat→Prop) (h:List HObj):KeepV W h h:=⟨Nat.le_refl _,fun _ _ h _ _=>h⟩
theorem KeepV.trans {W:Nat→Prop} {a b c:List HObj} (h:KeepV W a b) (h':KeepV W b c):KeepV W a c:=⟨Nat.le_trans h.1 h'.1,fun l o ho hk hw=>h'.2 l o (h.2 l o ho hk hw) hk hw⟩
theorem KeepV.mono {W W':Nat→Prop} {a b:List HObj} (h:KeepV W a b) (hw:∀ l,W l→W' l):KeepV W' a b:=⟨h.1,fun l o ho hk hn=>h.2 l o ho hk (fun x=>hn (hw l x))⟩
theorem KeepV.hp {W:Nat→Prop} {a b:St} (h:KeepV W a.heap b.heap) {l:Nat} {cs:List PV} (ho:hp a l=some (.var cs)) (hw:¬ W l):hp b l=some (.var cs):=h.2 l _ ho rfl hw
structure Yld {α:Type} (E:Env) (y:PV) (X:List α) (Rep:PV→α→Prop) (W:Nat→Prop) (e w:Nat) (I:Nat→List HObj→Prop) (S:List HObj→Prop):Prop where
 stab:∀ i h h',I i h→HExt h h'→I i h'
 stabS:∀ h h',S h→HExt h h'→S h'
 step:∀ i (hi:i<X.length) v st,Rep v X[i]→I i st.heap→e≤st.lo→st.lo≤st.heap.length→w<st.heap.length→∃ b st',Cl E y [v] st (.ret (.bool b)) st'∧KeepV W st.heap st'.heap∧e≤st'.lo∧st'.lo≤w∧(b=true→I (i+1) st'.heap)∧(b=false→S st'.heap)
def Iter {α:Type} (E:Env) (f:PV) (st0:St) (X:List α) (Rep:PV→α→Prop) (priv:Nat→Prop):Prop :=
 ∀ (y:PV) (W:Nat→Prop) (e w:Nat) (I:Nat→List HObj→Prop) (S:List HObj→Prop),Yld E y X Rep W e w I S→(∀ l,priv l→¬ W l)→(∀ l,W l→l≤w)→I 0 st0.heap→e≤st0.lo→st0.lo≤st0.heap.length→w<st0.heap.length→e≤w→y.isCell=true→y.cells=[y] →
  ∃ v st',Cl E f [y] st0 (.ret v) st'∧KeepV W st0.heap st'.heap∧e≤st'.lo∧st'.lo≤st'.heap.length∧(I X.length st'.heap∨S st'.heap)
def IterM {α:Type} (E:Env) (f:PV) (st0:St) (X:List α) (Rep:PV→α→Prop) (priv:Nat→Prop) (mm:Nat):Prop :=
 ∀ (y:PV) (W:Nat→Prop) (e w:Nat) (I:Nat→List HObj→Prop) (S:List HObj→Prop),Yld E y X Rep W e w I S →
  (∀ i h es es',I i h→h[mm]? = some (.map es)→I i (h.set mm (.map es')))→(∀ h es es',S h→h[mm]? = some (.map es)→S (h.set mm (.map es')))→¬ W mm→e≤mm→mm≤w →
  (∀ l,priv l→¬ W l)→(∀ l,W l→l≤w)→I 0 st0.heap→e≤st0.lo→st0.lo≤st0.heap.length→w<st0.heap.length→e≤w→y.isCell=true→y.cells=[y] →
  ∃ v st',Cl E f [y] st0 (.ret v) st'∧KeepV (fun l=>W l∨l=mm) st0.heap st'.heap∧e≤st'.lo∧st'.lo≤st'.heap.length∧(I X.length st'.heap∨S st'.heap)
def jumpEx:Jump→Ex
 | .ret => .ret
 | .exit i => .exit i
section
variable {E:Env} {Q:Ex→List PV→St→Prop} {tm:List PV} {st:St}
def BodyQ (L:Nat) (tm:List PV) (ps:List Nat) (assign body:DCode) (W:Nat→Prop) (e:Nat) (h0:List HObj) (J:List HObj→Prop) (D:Jump→List HObj→Prop):Ex→List PV→St→Prop:=fun ex _ st3 =>
 hp st3 L=some (.loop tm ps assign body .busy none)∧KeepV W h0 st3.heap∧e≤st3.lo∧st3.lo≤st3.heap.length∧match ex with
  | .normal=>J st3.heap
  | .ret=>D .ret st3.heap
  | .exit x=>D (.exit x) st3.heap
  | .panic _=>False
theorem yield_ok {α:Type} {X:List α} {Rep:PV→α→Prop} {W:Nat→Prop} {e L:Nat} {ps:List Nat} {assign body:DCode} {J:Nat→List HObj→Prop} {D:Jump→List HObj→Prop} (heL:e≤L) (hWL:W L)
  (stab:∀ i h h',J i h→HExt h h'→J i h') (stabD:∀ j h h',D j h→HExt h h'→D j h')
  (stabL:∀ i h s p s' p',J i h→h[L]? = some (.loop tm ps assign body s p)→J i (h.set L (.loop tm ps assign body s' p'))) (stabDL:∀ j h s p s' p',D j h→h[L]? = some (.loop tm ps assign body s p)→D j (h.set L (.loop tm ps assign body s' p')))
  (step:∀ i (hi:i<X.length) v st1,Rep v X[i]→J i st1.heap→e≤st1.lo→st1.lo≤st1.heap.length→hp st1 L=some (.loop tm ps assign body .ready none) →
   ∃ tm0,setParams tm ps [v]=some tm0∧Wp E assign (fun ex tm1 st2=>ex = .normal∧HExt st1.heap st2.heap∧e≤st2.lo∧st2.lo≤st2.heap.length∧Wp E body (BodyQ L tm ps assign body W e st2.heap (J (i+1)) D) tm1 (setVar st2 L (.loop tm ps assign body .busy none))) tm0 st1) :
  Yld E (.yield L) X Rep W e L (fun i h=>J i h∧h[L]? = some (.loop tm ps assign body .ready none)) (fun h=>∃ j,D j h∧h[L]? = some (.loop tm ps assign body .done (some j))):=by
 refine ⟨fun i h h' ⟨h1,h2⟩ hx=>⟨stab i h h' h1 hx,by rw [hx.2 L (List.getElem?_eq_some_iff.1 h2).1];exact h2⟩,fun h h' ⟨j,h1,h2⟩ hx=>⟨j,stabD j h h' h1 hx,by rw [hx.2 L (List.getElem?_eq_some_iff.1 h2).1];exact h2⟩,?_⟩
 rintro i hi v st1 hv ⟨hJ,hLp⟩ helo hwf hwl
 obtain ⟨tm0,hsp,hA⟩:=step i hi v st1 hv hJ helo hwf hLp
 unfold Wp at hA
 obtain ⟨N,ex,tm1,st2,hN,rfl,hx,he2,hwf2,hB⟩:=hA
 obtain ⟨M,ex,tm3,st3,hM,hL3,hk3,he3,hwf3,hD⟩:=hB
 have hL2:hp st2 L=some (.loop tm ps assign body .ready none):=hx.hp hLp
 have key:∀ (n:Nat) (r:CR) (s:LSt) (pd:Option Jump→Option Jump) (b:Bool),max N M≤n →
   round (run E n) L [v] st1=some (.ret (.bool b),setVar st3 L (.loop tm ps assign body s (pd none)))→stepCall E (run E n) (.yield L) [v] st1=some (.ret (.bool b),setVar st3 L (.loop tm ps assign body s (pd none))):=fun n r s pd b hn h=>h
 have hkeep:∀ s p,KeepV W st1.heap (setVar st3 L (.loop tm ps assign body s p)).heap:=by
  intro s p
  refine (hx.keep W).trans (hk3.trans ⟨by rw [len_setVar];exact Nat.le_refl _,fun l o ho hk hn=>?_⟩)
  have:=hp_setVar st3 L l (.loop tm ps assign body s p)
  rw [if_neg (by rintro rfl;exact hn hWL)] at this
  exact this.trans ho
 have hloL:∀ s p,(setVar st3 L (.loop tm ps assign body s p)).lo≤L:=fun s p=>Nat.min_le_right _ _
 have helL:∀ s p,e≤(setVar st3 L (.loop tm ps assign body s p)).lo:=fun s p=>by rw [lo_setVar];omega
 have hatL:∀ s p,(setVar st3 L (.loop tm ps assign body s p)).heap[L]? = some (.loop tm ps assign body s p):=fun s p=>by
  have:=hp_setVar st3 L L (.loop tm ps assign body s p)
  rw [if_pos rfl,if_pos (hp_lt hL3)] at this
  exact this
 have hL1':st1.heap[L]? = some (.loop tm ps assign body .ready none):=hLp
 have hL2':st2.heap[L]? = some (.loop tm ps assign body .ready none):=hL2
 have hL3':st3.heap[L]? = some (.loop tm ps assign body .busy none):=hL3
 have mk:∀ (b:Bool) (s:LSt) (p:Option Jump),(∀ n,max N M≤n→round (run E n) L [v] st1=some (.ret (.bool b),setVar st3 L (.loop tm ps assign body s p)))→Cl E (.yield L) [v] st1 (.ret (.bool b)) (setVar st3 L (.loop tm ps assign body s p)):=by
  intro b s p h
  refine ⟨max N M+1,fun n hn=>?_⟩
  obtain ⟨m,rfl⟩:∃ m,n=m+1:=⟨n - 1,by omega⟩
  exact h m (by omega)
 cases ex with
 | normal =>
  refine ⟨true,_,mk true .ready none (fun n hn=>?_),hkeep _ _,helL _ _,hloL _ _,fun _=>⟨stabL _ _ _ _ _ _ hD hL3',hatL _ _⟩,fun h=>by cases h⟩
  simp only [round,hL1',hsp,hN n (by omega),setLoop,hL2',id_eq,hM n (by omega),hL3',Option.map_some]
 | ret =>
  refine ⟨false,_,mk false .done (some .ret) (fun n hn=>?_),hkeep _ _,helL _ _,hloL _ _,(fun h=>by cases h),fun _=>⟨.ret,stabDL _ _ _ _ _ _ hD hL3',hatL _ _⟩⟩
  simp only [round,hL1',hsp,hN n (by omega),setLoop,hL2',id_eq,hM n (by omega),hL3',Option.map_some]
 | exit x =>
  refine ⟨false,_,mk false .done (some (.exit x)) (fun n hn=>?_),hkeep _ _,helL _ _,hloL _ _,(fun h=>by cases h),fun _=>⟨.exit x,stabDL _ _ _ _ _ _ hD hL3',hatL _ _⟩⟩
  simp only [round,hL1',hsp,hN n (by omega),setLoop,hL2',id_eq,hM n (by omega),hL3',Option.map_some]
 | panic v=>exact hD.elim
theorem wp_rangeF {α:Type} {X:List α} {Rep:PV→α→Prop} {f:Opd} {g:Nat} {fa fc:List PV} {ps:List Nat} {assign body:DCode} {priv:Nat→Prop} (W:Nat→Prop) (e:Nat) (J:Nat→List HObj→Prop) (D:Jump→List HObj→Prop) (hf:f.ev tm = .func g fa fc) (hI:Iter E (.func g fa fc) (st.push (.loop tm ps assign body .ready none)) X Rep priv)
  (hW:∀ l,priv l→¬ W l∧l≠st.heap.length) (hWl:∀ l,W l→l≤st.heap.length) (he:e≤st.lo) (hwf:st.lo≤st.heap.length)
  (stab:∀ i h h',J i h→HExt h h'→J i h') (stabD:∀ j h h',D j h→HExt h h'→D j h')
  (stabL:∀ i h s p s' p',J i h→h[st.heap.length]? = some (.loop tm ps assign body s p)→J i (h.set st.heap.length (.loop tm ps assign body s' p'))) (stabDL:∀ j h s p s' p',D j h→h[st.heap.length]? = some (.loop tm ps assign body s p)→D j (h.set st.heap.length (.loop tm ps assign body s' p')))
  (init:J 0 st.heap)
  (step:∀ i (hi:i<X.length) v st1,Rep v X[i]→J i st1.heap→e≤st1.lo→st1.lo≤st1.heap.length→hp st1 st.heap.length=some (.loop tm ps assign body .ready none) →
   ∃ tm0,setParams tm ps [v]=some tm0∧Wp E assign (fun ex tm1 st2=>ex = .normal∧HExt st1.heap st2.heap∧e≤st2.lo∧st2.lo≤st2.heap.length∧Wp E body (BodyQ st.heap.length tm ps assign body (fun l=>W l∨l=st.heap.length) e st2.heap (J (i+1)) D) tm1 (setVar st2 st.heap.length (.loop tm ps assign body .busy none))) tm0 st1)
  (done:∀ st',J X.length st'.heap→KeepV W st.heap st'.heap→e≤st'.lo→st'.lo≤st'.heap.length→Q .normal tm st')
  (stop:∀ j st',D j st'.heap→KeepV W st.heap st'.heap→e≤st'.lo→st'.lo≤st'.heap.length→Q (jumpEx j) tm st') :
  Wp E (.rangeFunc f ps assign body) Q tm st:=by
 have hp0:hp (st.push (.loop tm ps assign body .ready none)) st.heap.length=some (.loop tm ps assign body .ready none):=by rw [hp_push,if_pos rfl]
 have Y:=yield_ok (E:=E) (X:=X) (Rep:=Rep) (W:=fun l=>W l∨l=st.heap.length) (e:=e) (L:=st.heap.length) (tm:=tm) (ps:=ps) (assign:=assign) (body:=body) (J:=J) (D:=D) (by omega) (.inr rfl) stab stabD stabL stabDL step
 obtain ⟨v,st1,⟨N,hN⟩,hk,he1,hwf1,hfin⟩:=hI (.yield st.heap.length) (fun l=>W l∨l=st.heap.length) e st.heap.length _ _ Y (fun l hl h=>by obtain ⟨h1,h2⟩:=hW l hl;rcases h with h|h;exact h1 h;exact h2 h) (fun l hl=>by rcases hl with h|h;exact hWl l h;exact Nat.le_of_eq h) ⟨stab 0 _ _ init (.push st _),hp0⟩ he (by rw [lo_push,len_push];omega) (by rw [len_push];omega) (by omega) rfl rfl
 have hpush:({ heap:=st.heap++[.loop tm ps assign body .ready none],lo:=st.lo }:St)=st.push (.loop tm ps assign body .ready none):=rfl
 have hkeep:∀ s p,KeepV W st.heap (setVar st1 st.heap.length (.loop tm ps assign body s p)).heap:=by
  intro s p
  have h1:=hk.1
  rw [len_push] at h1
  refine ⟨by rw [len_setVar];omega,fun l o ho hko hn=>?_⟩
  have hl:=(List.getElem?_eq_some_iff.1 ho).1
  have h2:=hk.2 l o (by have:=hp_push st (.loop tm ps assign body .ready none) l;rw [if_neg (by omega)] at this;exact this.trans ho) hko (by rintro (h|h);exact hn h;omega)
  have:=hp_setVar st1 st.heap.length l (.loop tm ps assign body s p)
  rw [if_neg (by omega)] at this
  exact this.trans h2
 have hlen:st.heap.length<st1.heap.length:=by have:=hk.1;rw [len_push] at this;omega
 have hlo:∀ s p,e≤(setVar st1 st.heap.length (.loop tm ps assign body s p)).lo:=fun s p=>by rw [lo_setVar];omega
 have hwfs:∀ s p,(setVar st1 st.heap.length (.loop tm ps assign body s p)).lo≤(setVar st1 st.heap.length (.loop tm ps assign body s p)).heap.length:=fun s p=>by rw [lo_setVar,len_setVar];omega
 rcases hfin with ⟨hJ,hL⟩|⟨j,hD,hL⟩
 ·refine .of_step N (fun n hn=>?_) (done _ (stabL _ _ _ _ .over none hJ hL) (hkeep _ _) (hlo _ _) (hwfs _ _))
  simp only [stepCode,hf,hpush,hN n hn,setLoop,hL,id_eq]
 ·have hq:=stop j _ (stabDL _ _ _ _ .over (some j) hD hL) (hkeep _ _) (hlo _ _) (hwfs _ _)
  cases j with
  | ret =>
   refine .of_step N (fun n hn=>?_) hq
   simp only [stepCode,hf,hpush,hN n hn,setLoop,hL,id_eq,jumpEx]
  | exit i =>
   refine .of_step N (fun n hn=>?_) hq
   simp only [stepCode,hf,hpush,hN n hn,setLoop,hL,id_eq,jumpEx]
end
end Go.Den
end
section
namespace Go.Den
def RetW (st:St) (n:Nat) (cs:List PV) (v:PV) (st':St):Prop:=v.sl=some (n,cs)∧(st'=st∨st'=st.push (.tag true))
theorem RetS.w {st st':St} {sz n:Nat} {cs:List PV} {v:PV} (h:RetS st sz n cs v st'):RetW st n cs v st':=⟨h.sl,h.st'⟩
theorem RetW.hp {st st':St} {n:Nat} {cs:List PV} {v:PV} (h:RetW st n cs v st') {l:Nat} {o:HObj} (hl:hp st l=some o):hp st' l=some o:=by
 rcases h.2 with rfl|rfl
 ·exact hl
 ·rw [hp_push,if_neg (by have:=hp_lt hl;omega)];exact hl
theorem RetW.lo {st st':St} {n:Nat} {cs:List PV} {v:PV} (h:RetW st n cs v st'):st'.lo=st.lo:=by
 rcases h.2 with rfl|rfl <;> rfl
theorem RetW.len {st st':St} {n:Nat} {cs:List PV} {v:PV} (h:RetW st n cs v st'):st.heap.length≤st'.heap.length:=by
 rcases h.2 with rfl|rfl
 ·omega
 ·rw [len_push];omega
theorem RetW.hext {st st':St} {n:Nat} {cs:List PV} {v:PV} (h:RetW st n cs v st'):HExt st.heap st'.heap:=by
 rcases h.2 with rfl|rfl
 ·exact .refl _
 ·exact .push _ _
theorem sl_freeze {m:Nat} {h:List HObj} {v:PV} {r:Nat×List PV} (hv:v.sl=some r):freeze1 m h v=(v,h):=by
 cases v <;> first|rfl|cases hv
theorem sl_retag {m:Nat} {h:List HObj} {v:PV} {n:Nat} {cs:List PV} (hv:v.sl=some (n,cs)) (hc:∀ m,lowL m cs=true):∃ v' s,retag1 h m [] v=some (v',s)∧v'.sl=some (n,cs)∧s.length≤1:=by
 cases v with
 | nilslice=>exact ⟨.nilslice,[],by simp [retag1,PV.low],hv,by simp⟩
 | slice o k ds =>
  simp only [PV.sl,Option.some.injEq,Prod.mk.injEq] at hv
  obtain ⟨rfl,rfl⟩:=hv
  cases o with
  | shared=>exact ⟨.slice .shared k ds,[],by simp [retag1,PV.low,hc],rfl,by simp⟩
  | tag t sz =>
   simp only [retag1,hc,if_true]
   by_cases ht:t<m
   ·rw [if_pos ht];exact ⟨_,_,rfl,rfl,by simp⟩
   ·rw [if_neg ht]
    split
    ·simp only [List.contains_nil,Bool.false_eq_true,if_false]
     exact ⟨_,_,rfl,rfl,by simp⟩
    ·exact ⟨_,_,rfl,rfl,by simp⟩
 | _=>cases hv
theorem finish_sl {st st1:St} {v:PV} {n:Nat} {cs:List PV} (hv:v.sl=some (n,cs)) (hlo:st.heap.length≤st1.lo) (hc:∀ m,lowL m cs=true):RetW st n cs (finishCall st st1 v).1 (finishCall st st1 v).2:=by
 obtain ⟨v',s,h1,h2,h3⟩:=sl_retag (m:=st.heap.length) (h:=st1.heap) hv hc
 unfold finishCall
 rw [if_pos hlo]
 have:letGo st.heap.length st1.heap v=some (v',s.length):=by
  have hf:=sl_freeze (m:=st.heap.length) (h:=st1.heap) hv
  cases v <;> first|(simp only [letGo,hf,h1,Option.map_some];done)|cases hv
 rw [this]
 refine ⟨h2,?_⟩
 match s,h3 with
 | [],_=>left;simp
 | [x],_=>right;rfl
theorem finish_slT {st st1:St} {v:PV} {vs:List PV} {n:Nat} {cs:List PV} (hv:v.sl=some (n,cs)) (hvs:vs.all PV.flat=true) (hlo:st.heap.length≤st1.lo) (hc:∀ m,lowL m cs=true):∃ v',(finishCall st st1 (.tuple (v::vs))).1 = .tuple (v'::vs)∧RetW st n cs v' (finishCall st st1 (.tuple (v::vs))).2:=by
 obtain ⟨v',s,h1,h2,h3⟩:=sl_retag (m:=st.heap.length) (h:=st1.heap) hv hc
 unfold finishCall
 rw [if_pos hlo]
 have:letGo st.heap.length st1.heap (.tuple (v::vs))=some (.tuple (v'::vs),s.length):=by
  have hf:=sl_freeze (m:=st.heap.length) (h:=st1.heap) hv
  simp only [letGo,freezeL,hf,flats_freeze hvs,retagL,h1,flats_retag hvs,Option.map_some]
 rw [this]
 refine ⟨v',rfl,h2,?_⟩
 match s,h3 with
 | [],_=>left;simp
 | [x],_=>right;rfl
def notSl:PV→Bool
 | .slice .. => false
 | .hslice .. => false
 | _=>true
theorem notSl_freeze {m:Nat} {h:List HObj} {v:PV} (hv:notSl v=true):freeze1 m h v=(v,h):=by
 cases v with
 | hslice l z n=>cases hv
 | _=>rfl
theorem notSls_freeze {m:Nat} {h:List HObj}:∀ {vs:List PV},vs.all notSl=true→freezeL m h vs=(vs,h)
 | [],_=>rfl
 | v::vs,hv=>by
  simp only [List.all_cons,Bool.and_eq_true] at hv
  simp only [freezeL,notSl_freeze hv.1,notSls_freeze hv.2]
theorem notSl_retag {m:Nat} {h:List HObj} {s:List Nat} {v:PV} (hv:notSl v=true):retag1 h m s v=some (v,s)∨retag1 h m s v=none:=by
 cases v with
 | slice o n cs=>cases hv
 | hslice l z n=>cases hv
 | _=>simp only [retag1];split <;> simp
theorem notSls_retag {m:Nat} {h:List HObj} {s:List Nat}:∀ {vs:List PV},vs.all notSl=true→retagL h m s vs=some (vs,s)∨retagL h m s vs=none
 | [],_ => .inl rfl
 | v::vs,hv=>by
  simp only [List.all_cons,Bool.and_eq_true] at hv
  simp only [retagL]
  rcases notSl_retag (m:=m) (h:=h) (s:=s) hv.1 with h1|h1 <;> rw [h1]
  ·rcases notSls_retag (m:=m) (h:=h) (s:=s) hv.2 with h2|h2 <;> simp [h2]
  ·simp
theorem finish_keep {st st1:St} {vs:List PV} (hv:vs.all notSl=true) (hlo:st.heap.length≤st1.lo):(finishCall st st1 (.tuple vs)).1 = .tuple vs∧(finishCall st st1 (.tuple vs)).2.lo=st.lo∧((finishCall st st1 (.tuple vs)).2=st∨(finishCall st st1 (.tuple vs)).2.heap=st1.heap):=by
 unfold finishCall
 rw [if_pos hlo]
 rcases notSls_retag (m:=st.heap.length) (h:=st1.heap) (s:=[]) hv with h|h
 ·have:letGo st.heap.length st1.heap (.tuple vs)=some (.tuple vs,0):=by simp [letGo,notSls_freeze hv,h]
  rw [this]
  exact ⟨rfl,rfl,.inl (by simp)⟩
 ·have:letGo st.heap.length st1.heap (.tuple vs)=none:=by simp [letGo,notSls_freeze hv,h]
  rw [this]
  exact ⟨rfl,rfl,.inr rfl⟩
def bestF {α:Type} (bt:α→α→Bool) (X:List α):Option α:=X.foldl (fun acc x=>match acc with
 | none=>some x
 | some o=>if bt x o then some x else some o) none
theorem bestF_take {α:Type} (bt:α→α→Bool) (X:List α) {i:Nat} (hi:i<X.length):bestF bt (X.take (i+1))=match bestF bt (X.take i) with
 | none=>some X[i]
 | some o=>if bt X[i] o then some X[i] else some o:=by
 rw [List.take_succ_eq_append_getElem hi,bestF,List.foldl_append];rfl
theorem bestF_mem {α:Type} (bt:α→α→Bool) (X:List α) {i:Nat} {o:α} (hi:i≤X.length) (h:bestF bt (X.take i)=some o):o∈X:=by
 induction i with
 | zero=>simp [bestF] at h
 | succ i ih =>
  rw [bestF_take bt X (by omega)] at h
  split at h
  ·cases h;exact List.getElem_mem _
  ·rename_i o' ho
   split at h
   ·cases h;exact List.getElem_mem _
   ·cases h;exact ih (by omega) ho
end Go.Den
namespace Go.Den
theorem set_var {h:List HObj} {l L:Nat} {cs:List PV} {tm:List PV} {ps:List Nat} {a b:DCode} {s:LSt} {p:Option Jump} {o:HObj} (hl:h[l]? = some (.var cs)) (hL:h[L]? = some (.loop tm ps a b s p)):(h.set L o)[l]? = some (.var cs):=by
 rw [List.getElem?_set_ne (by rintro rfl;rw [hL] at hl;cases hl)]
 exact hl
theorem KeepV.set {W:Nat→Prop} {a h:List HObj} (hk:KeepV W a h) {L:Nat} {o:HObj} (hL:a.length≤L):KeepV W a (h.set L o):=by
 refine ⟨by rw [List.length_set];exact hk.1,fun l x hx hko hn=>?_⟩
 rw [List.getElem?_set_ne (by have:=(List.getElem?_eq_some_iff.1 hx).1;omega)]
 exact hk.2 l x hx hko hn
theorem HExt.var {a b:List HObj} (h:HExt a b) {l:Nat} {o:HObj} (ho:a[l]? = some o):b[l]? = some o:=(h.2 l (List.getElem?_eq_some_iff.1 ho).1).trans ho
def KeepA (a b:List HObj):Prop:=KeepV (fun _=>False) a b
theorem KeepV.low {W:Nat→Prop} {a b c:List HObj} (hk:KeepA a b) (h:KeepV W b c) (hW:∀ l,W l→a.length≤l):KeepA a c :=
 ⟨Nat.le_trans hk.1 h.1,fun l o ho hko _=>h.2 l o (hk.2 l o ho hko (fun x=>x)) hko (fun hw=>by have:=hW l hw;have:=(List.getElem?_eq_some_iff.1 ho).1;omega)⟩
end Go.Den
namespace Go.Den
theorem wp_gen {E:Env} {c:DCode} {Q:Ex→List PV→St→Prop} {tm:List PV} {st:St} (P:List PV→St→Prop) (h:P tm st) (k:∀ tm st,P tm st→Wp E c Q tm st):Wp E c Q tm st:=k tm st h
theorem setParams_one {tm:List PV} {p:Nat} {v:PV}:setParams tm [p] [v]=some (put tm (some p) v):=rfl
theorem hp_set_other {st:St} {l L:Nat} {o:HObj} {x:HObj} (h:hp st l=some x) (hne:l≠L):hp (setVar st L o) l=some x:=by rw [hp_setVar,if_neg hne];exact h
end Go.Den
namespace Go.Den
end Go.Den
namespace Go.Den
theorem share_share (v:PV):v.share.share=v.share:=by cases v <;> rfl
theorem share_isCell (v:PV):v.share.isCell=v.isCell:=by cases v <;> rfl
theorem share_sl (v:PV):v.share.sl=v.sl:=by cases v <;> rfl
theorem SlOf.share {α:Type} {sz:Nat} {enc:α→List PV} {F:PV} {l:List α} (h:SlOf sz enc F l):SlOf sz enc F.share l:=⟨by rw [share_sl];exact h.sl,h.len⟩
theorem RetW.own_sl {α:Type} {sz:Nat} {enc:α→List PV} {st st':St} {v:PV} {l:List α} (h:RetW st l.length (l.flatMap enc) v st') (he:∀ a,(enc a).length=sz):SlOf sz enc v l:=SlOf.of_sl h.1 rfl rfl he
theorem OwnS.heap {m:Nat} {a b:St} {sz:Nat} {v:PV} {n:Nat} {cs:List PV} (h:OwnS m a sz v n cs) (hx:HExt a.heap b.heap):OwnS m b sz v n cs:=h.keep fun _ _ ht=>hx.hp ht
end Go.Den
end
section
namespace Go.Den
def OwnH (m:Nat) (st:St) (sz:Nat) (v:PV) (n:Nat) (cs:List PV):Prop :=
 cs.length=n*sz∧((n=0∧v = .nilslice)∨∃ t,v = .hslice t sz n∧m≤t∧hp st t=some (.arr cs))
theorem OwnH.keep {m:Nat} {st st':St} {sz:Nat} {v:PV} {n:Nat} {cs:List PV} (h:OwnH m st sz v n cs) (hk:∀ t cs,m≤t→hp st t=some (.arr cs)→hp st' t=some (.arr cs)):OwnH m st' sz v n cs :=
 ⟨h.1,h.2.imp id fun ⟨t,h2,h3,h4⟩=>⟨t,h2,h3,hk t _ h3 h4⟩⟩
theorem OwnH.cells {m:Nat} {st:St} {sz:Nat} {v:PV} {n:Nat} {cs:List PV} (h:OwnH m st sz v n cs):v.cells=[v]∧v.isCell=true∧v.slen=some n:=by
 obtain ⟨_,⟨rfl,rfl⟩|⟨t,rfl,_,_⟩⟩:=h <;> exact ⟨rfl,rfl,rfl⟩
section
variable {E:Env} {Q:Ex→List PV→St→Prop} {tm:List PV} {st:St}
end
end Go.Den
namespace Go.Den
def idxR (sz:Nat) (x i:PV) (st:St):Option OpR:=match x,i with
 | .slice _ n cs,.int _ i=>if 0≤i∧i<n then some (.val (.cptr ((cs.drop (i.toNat*sz)).take sz)) st) else none
 | .hslice l sz' n,.int _ i=>if sz'=sz∧0≤i∧i<n then some (.val (.aptr l (i.toNat*sz)) st) else none
 | .vslice l sz' n,.int _ i=>if sz'=sz∧0≤i∧i<n then some (.val (.ptr l (i.toNat*sz)) st) else none
 | _,_=>none
theorem op_indexAddrM {E:Env} {rec:Rec} {tm:List PV} {st:St} {sz:Nat} {x i:Opd}:stepOp E rec tm st (.indexAddr sz x i)=idxR sz (x.ev tm) (i.ev tm) st:=by
 simp only [stepOp,idxR]
 cases x.ev tm <;> cases i.ev tm <;> rfl
theorem idxR_h {sz l n:Nat} {k:IntKind} {j:Nat} {st:St}:idxR sz (.hslice l sz n) (.int k j) st=if j<n then some (.val (.aptr l (j*sz)) st) else none:=by
 simp only [idxR,true_and,Int.toNat_natCast]
 by_cases h:j<n
 ·rw [if_pos ⟨by omega,by omega⟩,if_pos h]
 ·rw [if_neg (by omega),if_neg h]
end Go.Den
namespace Go.Den
theorem HExt.fr {a b c:St} (h:HExt a.heap b.heap) (hf:Fr a.heap.length b c):HExt a.heap c.heap:=⟨Nat.le_trans h.1 hf.len,fun l hl=>(hf.old l hl).trans (h.2 l hl)⟩
theorem HExt.setVar {a:List HObj} {b:St} {l:Nat} {o:HObj} (h:HExt a b.heap) (hl:a.length≤l):HExt a (setVar b l o).heap:=⟨by rw [len_setVar];exact h.1,fun i hi=>by
 have:=hp_setVar b l i o
 rw [if_neg (by omega)] at this
 exact this.trans (h.2 i hi)⟩
theorem HExt.set {a b:List HObj} {l:Nat} {o:HObj} (h:HExt a b) (hl:a.length≤l):HExt a (b.set l o):=⟨by rw [List.length_set];exact h.1,fun i hi=>by
 rw [List.getElem?_set_ne (by omega)];exact h.2 i hi⟩
end Go.Den
namespace Go.Den
end Go.Den
end
section
namespace Go.Den
variable {P:Program}
end Go.Den
end
section
namespace Go.Den
def ClA (E:Env) (f:PV) (args:List PV) (st:St) (P:CR→St→Prop):Prop:=∃ r st',Cl E f args st r st'∧P r st'
def FnA (rs:List DRes) (st:St) (P:CR→St→Prop):Ex→List PV→St→Prop:=fun e tm1 st1=>match e with
 | .normal | .ret=>∃ v,results tm1 st1.heap rs=some v∧P (.ret (finishCall st st1 v).1) (finishCall st st1 v).2
 | .panic v=>P (.panic v) { heap:=st1.heap,lo:=min st.lo st1.lo }
 | .exit _=>False
theorem cla_fn {E:Env} {st:St} {g:Nat} {a c args:List PV} {n:Nat} {rs:List DRes} {b:DCode} {P:CR→St→Prop} (hp:∀ rec,E.prim g rec (a++args++c) st=none) (hf:E.fn g=some ⟨n,rs,b⟩) (k:Nat) (hk:(a++args++c).length=k) (hkn:k≤n)
  (h:∀ tm,tm.length=n→(∀ i,i<k→tg tm i=(a++args++c).getD i undef)→Wp E b (FnA rs st P) tm { heap:=st.heap,lo:=st.heap.length }):ClA E (.func g a c) args st P:=by
 have:=h ((a++args++c)++List.replicate (n - (a++args++c).length) undef) (by simp at hk ⊢;omega) (fun i hi=>by
  unfold tg
  rw [List.getD_eq_getElem?_getD,List.getD_eq_getElem?_getD,List.getElem?_append_left (by omega)])
 unfold Wp at this
 obtain ⟨N,e,tm1,st1,h1,h2⟩:=this
 have key:∀ v,(e = .normal∨e = .ret)→results tm1 st1.heap rs=some v→P (.ret (finishCall st st1 v).1) (finishCall st st1 v).2→ClA E (.func g a c) args st P:=by
  intro v he h3 h4
  refine ⟨_,_,cl_of_wp (r := .ret (finishCall st st1 v).1) (st':=(finishCall st st1 v).2) hp hf ?_,h4⟩
  unfold Wp
  refine ⟨N,e,tm1,st1,h1,?_⟩
  rcases he with rfl|rfl <;> exact ⟨v,h3,_,rfl,rfl⟩
 unfold FnA at h2
 cases e with
 | normal=>obtain ⟨v,h3,h4⟩:=h2;exact key v (.inl rfl) h3 h4
 | ret=>obtain ⟨v,h3,h4⟩:=h2;exact key v (.inr rfl) h3 h4
 | exit i=>exact h2.elim
 | panic u =>
  refine ⟨_,_,cl_of_wp (r := .panic u) (st':={ heap:=st1.heap,lo:=min st.lo st1.lo }) hp hf ?_,h2⟩
  unfold Wp
  exact ⟨N,.panic u,tm1,st1,h1,rfl,rfl⟩
attribute [irreducible] FnA
section
variable {E:Env} {Q:Ex→List PV→St→Prop} {tm:List PV} {st:St}
end
end Go.Den
end
section
namespace Go.Den
attribute [go_sem] Nat.reduceEqDiff Nat.reduceLT Nat.reduceLeDiff Nat.reduceAdd Nat.reduceMul Nat.reduceSub Int.reduceLE Int.reduceLT Int.reduceToNat Int.reduceNeg reduceCtorEq
attribute [go_sem] reduceIte
def Hid (R:Prop):Prop:=R
theorem Hid.out {R:Prop} (h:Hid R):R:=h
theorem Hid.mk {R:Prop} (h:R):Hid R:=h
attribute [irreducible] Hid
theorem fnil:True:=trivial
theorem bw {a b:Prop} (x:a) (y:b):a∧b:=⟨x,y⟩
theorem bw3 {a0 a1 a2:Prop} (x0:a0) (x1:a1) (x2:a2):a0∧a1∧a2:=⟨x0,x1,x2⟩
theorem bw4 {a0 a1 a2 a3:Prop} (x0:a0) (x1:a1) (x2:a2) (x3:a3):a0∧a1∧a2∧a3:=⟨x0,x1,x2,x3⟩
theorem bw5 {a0 a1 a2 a3 a4:Prop} (x0:a0) (x1:a1) (x2:a2) (x3:a3) (x4:a4):a0∧a1∧a2∧a3∧a4:=⟨x0,x1,x2,x3,x4⟩
theorem bw6 {a0 a1 a2 a3 a4 a5:Prop} (x0:a0) (x1:a1) (x2:a2) (x3:a3) (x4:a4) (x5:a5):a0∧a1∧a2∧a3∧a4∧a5:=⟨x0,x1,x2,x3,x4,x5⟩
theorem bw7 {a0 a1 a2 a3 a4 a5 a6:Prop} (x0:a0) (x1:a1) (x2:a2) (x3:a3) (x4:a4) (x5:a5) (x6:a6):a0∧a1∧a2∧a3∧a4∧a5∧a6:=⟨x0,x1,x2,x3,x4,x5,x6⟩
theorem bw8 {a0 a1 a2 a3 a4 a5 a6 a7:Prop} (x0:a0) (x1:a1) (x2:a2) (x3:a3) (x4:a4) (x5:a5) (x6:a6) (x7:a7):a0∧a1∧a2∧a3∧a4∧a5∧a6∧a7:=⟨x0,x1,x2,x3,x4,x5,x6,x7⟩
theorem bw9 {a0 a1 a2 a3 a4 a5 a6 a7 a8:Prop} (x0:a0) (x1:a1) (x2:a2) (x3:a3) (x4:a4) (x5:a5) (x6:a6) (x7:a7) (x8:a8):a0∧a1∧a2∧a3∧a4∧a5∧a6∧a7∧a8:=⟨x0,x1,x2,x3,x4,x5,x6,x7,x8⟩
theorem bw10 {a0 a1 a2 a3 a4 a5 a6 a7 a8 a9:Prop} (x0:a0) (x1:a1) (x2:a2) (x3:a3) (x4:a4) (x5:a5) (x6:a6) (x7:a7) (x8:a8) (x9:a9):a0∧a1∧a2∧a3∧a4∧a5∧a6∧a7∧a8∧a9:=⟨x0,x1,x2,x3,x4,x5,x6,x7,x8,x9⟩
theorem bw11 {a0 a1 a2 a3 a4 a5 a6 a7 a8 a9 a10:Prop} (x0:a0) (x1:a1) (x2:a2) (x3:a3) (x4:a4) (x5:a5) (x6:a6) (x7:a7) (x8:a8) (x9:a9) (x10:a10):a0∧a1∧a2∧a3∧a4∧a5∧a6∧a7∧a8∧a9∧a10:=⟨x0,x1,x2,x3,x4,x5,x6,x7,x8,x9,x10⟩
theorem bw12 {a0 a1 a2 a3 a4 a5 a6 a7 a8 a9 a10 a11:Prop} (x0:a0) (x1:a1) (x2:a2) (x3:a3) (x4:a4) (x5:a5) (x6:a6) (x7:a7) (x8:a8) (x9:a9) (x10:a10) (x11:a11):a0∧a1∧a2∧a3∧a4∧a5∧a6∧a7∧a8∧a9∧a10∧a11:=⟨x0,x1,x2,x3,x4,x5,x6,x7,x8,x9,x10,x11⟩
theorem bw13 {a0 a1 a2 a3 a4 a5 a6 a7 a8 a9 a10 a11 a12:Prop} (x0:a0) (x1:a1) (x2:a2) (x3:a3) (x4:a4) (x5:a5) (x6:a6) (x7:a7) (x8:a8) (x9:a9) (x10:a10) (x11:a11) (x12:a12):a0∧a1∧a2∧a3∧a4∧a5∧a6∧a7∧a8∧a9∧a10∧a11∧a12:=⟨x0,x1,x2,x3,x4,x5,x6,x7,x8,x9,x10,x11,x12⟩
theorem bw14 {a0 a1 a2 a3 a4 a5 a6 a7 a8 a9 a10 a11 a12 a13:Prop} (x0:a0) (x1:a1) (x2:a2) (x3:a3) (x4:a4) (x5:a5) (x6:a6) (x7:a7) (x8:a8) (x9:a9) (x10:a10) (x11:a11) (x12:a12) (x13:a13):a0∧a1∧a2∧a3∧a4∧a5∧a6∧a7∧a8∧a9∧a10∧a11∧a12∧a13:=⟨x0,x1,x2,x3,x4,x5,x6,x7,x8,x9,x10,x11,x12,x13⟩
theorem bw16 {a0 a1 a2 a3 a4 a5 a6 a7 a8 a9 a10 a11 a12 a13 a14 a15:Prop} (x0:a0) (x1:a1) (x2:a2) (x3:a3) (x4:a4) (x5:a5) (x6:a6) (x7:a7) (x8:a8) (x9:a9) (x10:a10) (x11:a11) (x12:a12) (x13:a13) (x14:a14) (x15:a15):a0∧a1∧a2∧a3∧a4∧a5∧a6∧a7∧a8∧a9∧a10∧a11∧a12∧a13∧a14∧a15:=⟨x0,x1,x2,x3,x4,x5,x6,x7,x8,x9,x10,x11,x12,x13,x14,x15⟩
theorem bw17 {a0 a1 a2 a3 a4 a5 a6 a7 a8 a9 a10 a11 a12 a13 a14 a15 a16:Prop} (x0:a0) (x1:a1) (x2:a2) (x3:a3) (x4:a4) (x5:a5) (x6:a6) (x7:a7) (x8:a8) (x9:a9) (x10:a10) (x11:a11) (x12:a12) (x13:a13) (x14:a14) (x15:a15) (x16:a16):a0∧a1∧a2∧a3∧a4∧a5∧a6∧a7∧a8∧a9∧a10∧a11∧a12∧a13∧a14∧a15∧a16:=⟨x0,x1,x2,x3,x4,x5,x6,x7,x8,x9,x10,x11,x12,x13,x14,x15,x16⟩
theorem bw18 {a0 a1 a2 a3 a4 a5 a6 a7 a8 a9 a10 a11 a12 a13 a14 a15 a16 a17:Prop} (x0:a0) (x1:a1) (x2:a2) (x3:a3) (x4:a4) (x5:a5) (x6:a6) (x7:a7) (x8:a8) (x9:a9) (x10:a10) (x11:a11) (x12:a12) (x13:a13) (x14:a14) (x15:a15) (x16:a16) (x17:a17):a0∧a1∧a2∧a3∧a4∧a5∧a6∧a7∧a8∧a9∧a10∧a11∧a12∧a13∧a14∧a15∧a16∧a17:=⟨x0,x1,x2,x3,x4,x5,x6,x7,x8,x9,x10,x11,x12,x13,x14,x15,x16,x17⟩
theorem bw19 {a0 a1 a2 a3 a4 a5 a6 a7 a8 a9 a10 a11 a12 a13 a14 a15 a16 a17 a18:Prop} (x0:a0) (x1:a1) (x2:a2) (x3:a3) (x4:a4) (x5:a5) (x6:a6) (x7:a7) (x8:a8) (x9:a9) (x10:a10) (x11:a11) (x12:a12) (x13:a13) (x14:a14) (x15:a15) (x16:a16) (x17:a17) (x18:a18):a0∧a1∧a2∧a3∧a4∧a5∧a6∧a7∧a8∧a9∧a10∧a11∧a12∧a13∧a14∧a15∧a16∧a17∧a18:=⟨x0,x1,x2,x3,x4,x5,x6,x7,x8,x9,x10,x11,x12,x13,x14,x15,x16,x17,x18⟩
theorem isS {α:Type} (a:α):(some a).isSome=true:=rfl
theorem isN {α:Type}:(none:Option α).isSome=false:=rfl
end Go.Den
end

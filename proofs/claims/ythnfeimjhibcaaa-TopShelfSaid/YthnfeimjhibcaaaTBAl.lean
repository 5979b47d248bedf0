/- Part of the proofs of laws of the package version. Texts: DenGo, DenShort, DenIterV, VeA, VeB, VeC, VeD, VeE, VeF. -/
import Derived.Test.YthnfeimjhibcaaaTBAk
set_option linter.unusedSimpArgs false
set_option linter.unusedVariables false
section
namespace Go.Den
def calm:DOp→Bool
 | .load .. => false
 | .lookup .. => false
 | .bytesToStr .. => false
 | .store .. => false
 | _=>true
theorem foot_calm {tm:List PV} {o:DOp} {m:Nat} (h:calm o=true):footOf tm o m m = .quiet:=by
 cases o <;> first|(simp [footOf];done)|cases h
theorem clash_q (l:Nat):clash l .quiet=false:=rfl
theorem clash_l (l m:Nat):clash l (.ld m)=false:=rfl
theorem clash_s (l m:Nat):clash l (.st m)=(l==m):=rfl
theorem clash_w (l m:Nat):clash l (.wr m)=decide (m≤l):=rfl
theorem hp_lo (s:St) (x l:Nat):hp { heap:=s.heap,lo:=x } l=hp s l:=rfl
attribute [go_sem] hp_lo
section
variable {E:Env} {tm:List PV} {st:St} {QD:Ex→List PV→St→List Foot→Prop} {dst:Option Nat} {g:Option (Nat×Bool)} {os:List DOper} {b:Bool} {v:PV}
theorem wopsD_light {o:DOp} (hc:calm o=true) (hlo:st.lo≤st.heap.length) (hw:wants tm g=b) (hb:b=true) (ho:∀ rec (st1:St),st1.heap=st.heap→(∀ l,hp st1 l=hp st l)→stepOp E rec tm st1 o=some (.val v st1))
  (h:WOpsD E os (fun e tm' st' fs=>QD e tm' st' (.quiet::fs)) (put tm dst v) st):WOpsD E (⟨o,dst,g⟩::os) QD tm st :=
 wopsD_pure' hlo hw hb ho (by rw [foot_calm hc];exact h)
theorem wopsD_pushF {o:DOp} {ob:HObj} (hc:calm o=true) (hlo:st.lo≤st.heap.length) (hw:wants tm g=b) (hb:b=true) (ho:∀ rec (st1:St),st1.heap=st.heap→stepOp E rec tm st1 o=some (.val v (st1.push ob)))
  (h:WOpsD E os (fun e tm' st' fs=>QD e tm' st' (.quiet::fs)) (put tm dst v) (st.push ob)):WOpsD E (⟨o,dst,g⟩::os) QD tm st :=
 wopsD_push hlo hw hb ho (by rw [foot_calm hc];exact h)
theorem wopsD_ldC {agg:Bool} {sz:Nat} {a:Opd} {cs:List PV} (hlo:st.lo≤st.heap.length) (hw:wants tm g=b) (hb:b=true) (ha:a.ev tm = .cptr cs) (hv:rdPart agg sz cs=some v)
  (h:WOpsD E os (fun e tm' st' fs=>QD e tm' st' (.quiet::fs)) (put tm dst v) st):WOpsD E (⟨.load agg sz a,dst,g⟩::os) QD tm st :=
 wopsD_pure' (v:=v) hlo hw hb (fun rec st1 _ _=>by simp only [stepOp,ha,hv,Option.map_some]) (by simp only [footOf,ha];exact h)
theorem wopsD_ldP {agg:Bool} {sz:Nat} {a:Opd} {l off:Nat} {cs:List PV} (hlo:st.lo≤st.heap.length) (hw:wants tm g=b) (hb:b=true) (ha:a.ev tm = .ptr l off) (hh:hp st l=some (.var cs)) (ht:decide (off≤cs.length)=true) (hv:rdPart agg sz (cs.drop off)=some v)
  (h:WOpsD E os (fun e tm' st' fs=>QD e tm' st' (.ld l::fs)) (put tm dst v) st):WOpsD E (⟨.load agg sz a,dst,g⟩::os) QD tm st :=
 wopsD_pure' (v:=v) hlo hw hb (fun rec st1 _ h1=>by
  have h2:st1.heap[l]? = some (.var cs):=(h1 l).trans hh
  simp only [stepOp,ha,h2,of_decide_eq_true ht,if_true,hv,Option.map_some]) (by simp only [footOf,ha];exact h)
theorem wopsD_store {sz:Nat} {a x:Opd} {l off:Nat} {cs p cs':List PV} (hlo:st.lo≤st.heap.length) (hw:wants tm g=b) (hb:b=true) (ha:a.ev tm = .ptr l off) (hx:(x.ev tm).cells=p) (hh:hp st l=some (.var cs)) (hp:(decide (p.length=sz)&&(decide (off+sz≤cs.length)&&p.all PV.isCell))=true) (hs:splice cs off p=cs')
  (h:WOpsD E os (fun e tm' st' fs=>QD e tm' st' (.st l::fs)) (put tm dst undef) (setVar st l (.var cs'))):WOpsD E (⟨.store sz a x,dst,g⟩::os) QD tm st:=by
 simp only [Bool.and_eq_true,decide_eq_true_eq] at hp
 refine wopsD_set (v:=undef) (l:=l) (ob := .var cs') hlo (Nat.le_of_lt (hp_lt hh)) hw hb (fun rec st1 _ h1=>?_) (by simp only [footOf,ha];exact h)
 have h2:st1.heap[l]? = some (.var cs):=(h1 l).trans hh
 simp only [stepOp,ha,h2,hx,hp,and_self,if_true,hs]
end
theorem go2 {P C G R:Prop} (ff:P) (cc:C) (r:R) (k:P→C→Hid R→G:=by
 intro ff cc hR
 (repeat (first
  | apply wp_seq|apply wp_region_ops|apply wp_dregion_ops|apply wp_block_seq|apply wp_block_region|apply wp_block_cond|apply wp_block_dregion|apply wp_scope|apply wp_ret|apply wp_skip|apply wp_exit|apply andThen_normal|apply andThen_ret|apply andThen_exit|apply andThen_panic|apply inBlock_panic|apply inBlock_normal|apply inBlock_ret|apply inBlock_same|(apply inBlock_other (by decide))|apply wops_nil
  | (refine wops_one' (by simp only [↓reduceIte,go_sem,ff];first|done|rfl) (by with_reducible rfl) (fun rec=>by simp only [↓reduceIte,go_sem,ff];with_reducible rfl) (by with_reducible rfl) ?_)
  | (refine wops_index (by simp only [↓reduceIte,go_sem,ff];first|done|rfl) (by with_reducible rfl) (by simp only [↓reduceIte,go_sem,ff];first|done|rfl) (by assumption) (by simp only [↓reduceIte,go_sem,ff];first|done|rfl) (by first|assumption|omega) ?_)
  | (refine wops_indexI (by simp only [↓reduceIte,go_sem,ff];first|done|rfl) (by with_reducible rfl) (by simp only [↓reduceIte,go_sem,ff];first|done|rfl) (by assumption) (by simp only [↓reduceIte,go_sem,ff];first|done|rfl) (by first|assumption|omega) (by first|assumption|omega) ?_)
  | (refine wopsD_light rfl (by first|omega|(simp only [lo_push,lo_setVar,len_push,len_setVar];omega)) (by simp only [↓reduceIte,go_sem,ff];first|done|rfl) (by with_reducible rfl) (fun rec st1 he hh=>by simp only [↓reduceIte,go_sem,ff,he,hh];with_reducible rfl) ?_)
  | (refine wopsD_ldC (by first|omega|(simp only [lo_push,lo_setVar,len_push,len_setVar];omega)) (by simp only [↓reduceIte,go_sem,ff];first|done|rfl) (by with_reducible rfl) (by simp only [↓reduceIte,go_sem,ff];first|done|rfl) (by simp only [↓reduceIte,go_sem,ff];with_reducible rfl) ?_)
  | (refine wopsD_ldP (by first|omega|(simp only [lo_push,lo_setVar,len_push,len_setVar];omega)) (by simp only [↓reduceIte,go_sem,ff];first|done|rfl) (by with_reducible rfl) (by simp only [↓reduceIte,go_sem,ff];first|done|rfl) (by simp only [↓reduceIte,go_sem,ff];first|done|rfl) (by simp only [↓reduceIte,go_sem,ff];first|done|rfl) (by simp only [↓reduceIte,go_sem,ff];with_reducible rfl) ?_)
  | (refine wopsD_store (by first|omega|(simp only [lo_push,lo_setVar,len_push,len_setVar];omega)) (by simp only [↓reduceIte,go_sem,ff];first|done|rfl) (by with_reducible rfl) (by simp only [↓reduceIte,go_sem,ff];first|done|rfl) (by simp only [↓reduceIte,go_sem,ff];first|done|rfl) (by simp only [↓reduceIte,go_sem,ff];first|done|rfl) (by simp only [↓reduceIte,go_sem,ff];first|done|rfl) (by simp only [↓reduceIte,go_sem,ff];with_reducible rfl) ?_)
  | (refine wopsD_pushF rfl (by first|omega|(simp only [lo_push,lo_setVar,len_push,len_setVar];omega)) (by simp only [↓reduceIte,go_sem,ff];first|done|rfl) (by with_reducible rfl) (fun rec st1 he=>by simp only [↓reduceIte,go_sem,ff,he];with_reducible rfl) ?_)
  | (refine wopsD_index (by first|omega|(simp only [lo_push,lo_setVar,len_push,len_setVar];omega)) (by simp only [↓reduceIte,go_sem,ff];first|done|rfl) (by with_reducible rfl) (by simp only [↓reduceIte,go_sem,ff];first|done|rfl) (by assumption) (by simp only [↓reduceIte,go_sem,ff];first|done|rfl) (by first|assumption|omega) ?_)
  | (refine wopsD_indexI (by first|omega|(simp only [lo_push,lo_setVar,len_push,len_setVar];omega)) (by simp only [↓reduceIte,go_sem,ff];first|done|rfl) (by with_reducible rfl) (by simp only [↓reduceIte,go_sem,ff];first|done|rfl) (by assumption) (by simp only [↓reduceIte,go_sem,ff];first|done|rfl) (by first|assumption|omega) (by first|assumption|omega) ?_)
  | (refine wopsD_skip' (by simp only [↓reduceIte,go_sem,ff];first|done|rfl) (by with_reducible rfl) ?_)|(apply wopsD_nil;refine ⟨by first|exact footOk_quiet (by rfl)|(simp only [footOk,clash_q,clash_l,clash_s,clash_w,List.all_cons,List.all_nil,List.getElem?_cons_zero,List.getElem?_cons_succ,Bool.and_true,Bool.not_false,Bool.not_eq_true',beq_eq_false_iff_ne,decide_eq_false_iff_not,Bool.and_eq_true,ff];first|done|omega|(simp;done)),?_⟩)
  | (refine wops_panic (by simp only [↓reduceIte,go_sem,ff];first|done|rfl) (by with_reducible rfl) (by simp only [↓reduceIte,go_sem,ff];first|done|rfl) ?_)
  | (refine wops_skip' (by simp only [↓reduceIte,go_sem,ff];first|done|rfl) (by with_reducible rfl) ?_)|(refine wp_condT (by simp only [↓reduceIte,go_sem,ff];first|done|rfl) ?_)|(refine wp_condF (by simp only [↓reduceIte,go_sem,ff];first|done|rfl) ?_)
  | (refine wopsD_call (by first|omega|(simp only [lo_push,lo_setVar,len_push,len_setVar];omega)) (by simp only [↓reduceIte,go_sem,ff];first|done|rfl) (by with_reducible rfl) (by simp only [↓reduceIte,go_sem,ff];first|done|rfl) (fun st1 he=>by simp only [↓reduceIte,go_sem,ff];first|(apply cc.1 <;> first|assumption|omega|decide)|(apply cc.2.1 <;> first|assumption|omega|decide)|(apply cc.2.2.1 <;> first|assumption|omega|decide)|(apply cc.2.2.2.1 <;> first|assumption|omega|decide)|(apply cc.2.2.2.2.1 <;> first|assumption|omega|decide)|(apply cc.2.2.2.2.2.1 <;> first|assumption|omega|decide)|(apply cc.2.2.2.2.2.2.1 <;> first|assumption|omega|decide)|(apply cc.2.2.2.2.2.2.2.1 <;> first|assumption|omega|decide)|(apply cc.2.2.2.2.2.2.2.2.1 <;> first|assumption|omega|decide)) ?_)
  | (refine wops_call' (by simp only [↓reduceIte,go_sem,ff];first|done|rfl) (by with_reducible rfl) (by simp only [↓reduceIte,go_sem,ff];first|done|rfl) (by simp only [↓reduceIte,go_sem,ff];first|(apply cc.1 <;> first|assumption|omega|decide)|(apply cc.2.1 <;> first|assumption|omega|decide)|(apply cc.2.2.1 <;> first|assumption|omega|decide)|(apply cc.2.2.2.1 <;> first|assumption|omega|decide)|(apply cc.2.2.2.2.1 <;> first|assumption|omega|decide)|(apply cc.2.2.2.2.2.1 <;> first|assumption|omega|decide)|(apply cc.2.2.2.2.2.2.1 <;> first|assumption|omega|decide)|(apply cc.2.2.2.2.2.2.2.1 <;> first|assumption|omega|decide)|(apply cc.2.2.2.2.2.2.2.2.1 <;> first|assumption|omega|decide)) ?_)))
 exact hR.out):G:=k ff cc (.mk r)
end Go.Den
end
section
namespace Go.Den
theorem sG {P G:Prop} (ff:P) (k:P→G:=by intro ff;simp only [↓reduceIte,go_sem,ff]):G:=k ff
theorem sR {P G:Prop} (ff:P) (k:P→G:=by intro ff;simp only [↓reduceIte,go_sem,ff];first|done|rfl):G:=k ff
theorem fQ {P G:Prop} (ff:P) (k:P→G:=by
 intro ff
 refine fnq_flat (results_one ?_) ?_ ?_
 ·rw [rdRes_tmp];simp only [↓reduceIte,go_sem,ff];first|done|rfl
 ·first|exact Nat.le_refl _|omega|(simp only [lo_push,lo_setVar];omega)
 ·rfl):G:=k ff
theorem fY {P G:Prop} (ff:P) (k:P→G:=by
 intro ff
 refine fnq_tuple ?_ ?_ ?_
 ·simp only [results,rdResL,rdRes_tmp,rdRes_c,rcR_p,↓reduceIte,go_sem,ff];first|done|rfl
 ·first|exact Nat.le_refl _|omega|(simp only [lo_push,lo_setVar];omega)
 ·rfl):G:=k ff
theorem fX {P:Prop} {rs:List DRes} {st:St} {R:PV→St→Prop} {e:Ex} {tm1:List PV} {st1:St} (v:PV) (ff:P) (h:R (finishCall st st1 v).1 (finishCall st st1 v).2) (he:e = .ret∨e = .normal:=by first|exact .inl rfl|exact .inr rfl) (k:P→results tm1 st1.heap rs=some v:=by intro ff;simp only [results,rdResL,rdRes_tmp,rdRes_c,rcR_p,↓reduceIte,go_sem,ff];first|done|rfl):FnR rs st R e tm1 st1:=by
 rcases he with rfl|rfl
 ·exact fnr_ret (k ff) h
 ·exact fnr_normal (k ff) h
theorem lN {P:Prop} {W:List Nat} {a b:List PV} {n:Nat} (hS:Same W a b) (ff:P) (k:P→a.length=n:=by intro ff;simp only [put_len,ff]):b.length=n:=hS.1.trans (k ff)
theorem tQ {P:Prop} {W:List Nat} {a b:List PV} {i:Nat} {v:PV} (hS:Same W a b) (ff:P) (hi:W.contains i=false:=by first|decide|rfl) (k:P→tg a i=v:=by intro ff;simp only [↓reduceIte,go_sem,ff]):tg b i=v:=(hS.2 i hi).trans (k ff)
section
variable {E:Env} {st:St} {g:Nat} {a c args:List PV} {n:Nat} {rs:List DRes} {b:DCode} {x0 x1 x2 x3 x4:PV}
section
variable {r:CR} {st':St} (hp:∀ r a s,E.prim g r a s=none) (hf:E.fn g=some ⟨n,rs,b⟩)
include hp hf
theorem cF0 (h:∀ tm,tm.length=n→Wp E b (FnQ rs st r st') tm { heap:=st.heap,lo:=st.heap.length }) (hk:a++args++c=[]:=by rfl):Cl E (.func g a c) args st r st' :=
 cl_fn (hp · _ _) hf 0 (by rw [hk];rfl) (Nat.zero_le _) fun tm hl _=>h tm hl
theorem cF1 (h:∀ tm,tm.length=n→tg tm 0=x0→Wp E b (FnQ rs st r st') tm { heap:=st.heap,lo:=st.heap.length }) (hk:a++args++c=[x0]:=by rfl) (hn:1≤n:=by decide):Cl E (.func g a c) args st r st' :=
 cl_fn (hp · _ _) hf 1 (by rw [hk];rfl) hn fun tm hl hg=>by rw [hk] at hg;exact h tm hl (hg 0 (by decide))
theorem cF2 (h:∀ tm,tm.length=n→tg tm 0=x0→tg tm 1=x1→Wp E b (FnQ rs st r st') tm { heap:=st.heap,lo:=st.heap.length }) (hk:a++args++c=[x0,x1]:=by rfl) (hn:2≤n:=by decide):Cl E (.func g a c) args st r st' :=
 cl_fn (hp · _ _) hf 2 (by rw [hk];rfl) hn fun tm hl hg=>by rw [hk] at hg;exact h tm hl (hg 0 (by decide)) (hg 1 (by decide))
theorem cF3 (h:∀ tm,tm.length=n→tg tm 0=x0→tg tm 1=x1→tg tm 2=x2→Wp E b (FnQ rs st r st') tm { heap:=st.heap,lo:=st.heap.length }) (hk:a++args++c=[x0,x1,x2]:=by rfl) (hn:3≤n:=by decide):Cl E (.func g a c) args st r st' :=
 cl_fn (hp · _ _) hf 3 (by rw [hk];rfl) hn fun tm hl hg=>by rw [hk] at hg;exact h tm hl (hg 0 (by decide)) (hg 1 (by decide)) (hg 2 (by decide))
theorem cF4 (h:∀ tm,tm.length=n→tg tm 0=x0→tg tm 1=x1→tg tm 2=x2→tg tm 3=x3→Wp E b (FnQ rs st r st') tm { heap:=st.heap,lo:=st.heap.length }) (hk:a++args++c=[x0,x1,x2,x3]:=by rfl) (hn:4≤n:=by decide):Cl E (.func g a c) args st r st' :=
 cl_fn (hp · _ _) hf 4 (by rw [hk];rfl) hn fun tm hl hg=>by rw [hk] at hg;exact h tm hl (hg 0 (by decide)) (hg 1 (by decide)) (hg 2 (by decide)) (hg 3 (by decide))
end
section
variable {R:PV→St→Prop} (hp:∀ r a s,E.prim g r a s=none) (hf:E.fn g=some ⟨n,rs,b⟩)
include hp hf
theorem cG0 (h:∀ tm,tm.length=n→Wp E b (FnR rs st R) tm { heap:=st.heap,lo:=st.heap.length }) (hk:a++args++c=[]:=by rfl):ClR E (.func g a c) args st R :=
 clr_fn (hp · _ _) hf 0 (by rw [hk];rfl) (Nat.zero_le _) fun tm hl _=>h tm hl
theorem cG1 (h:∀ tm,tm.length=n→tg tm 0=x0→Wp E b (FnR rs st R) tm { heap:=st.heap,lo:=st.heap.length }) (hk:a++args++c=[x0]:=by rfl) (hn:1≤n:=by decide):ClR E (.func g a c) args st R :=
 clr_fn (hp · _ _) hf 1 (by rw [hk];rfl) hn fun tm hl hg=>by rw [hk] at hg;exact h tm hl (hg 0 (by decide))
theorem cG2 (h:∀ tm,tm.length=n→tg tm 0=x0→tg tm 1=x1→Wp E b (FnR rs st R) tm { heap:=st.heap,lo:=st.heap.length }) (hk:a++args++c=[x0,x1]:=by rfl) (hn:2≤n:=by decide):ClR E (.func g a c) args st R :=
 clr_fn (hp · _ _) hf 2 (by rw [hk];rfl) hn fun tm hl hg=>by rw [hk] at hg;exact h tm hl (hg 0 (by decide)) (hg 1 (by decide))
theorem cG3 (h:∀ tm,tm.length=n→tg tm 0=x0→tg tm 1=x1→tg tm 2=x2→Wp E b (FnR rs st R) tm { heap:=st.heap,lo:=st.heap.length }) (hk:a++args++c=[x0,x1,x2]:=by rfl) (hn:3≤n:=by decide):ClR E (.func g a c) args st R :=
 clr_fn (hp · _ _) hf 3 (by rw [hk];rfl) hn fun tm hl hg=>by rw [hk] at hg;exact h tm hl (hg 0 (by decide)) (hg 1 (by decide)) (hg 2 (by decide))
end
section
variable {R:CR→St→Prop} (hp:∀ r a s,E.prim g r a s=none) (hf:E.fn g=some ⟨n,rs,b⟩)
include hp hf
theorem cA1 (h:∀ tm,tm.length=n→tg tm 0=x0→Wp E b (FnA rs st R) tm { heap:=st.heap,lo:=st.heap.length }) (hk:a++args++c=[x0]:=by rfl) (hn:1≤n:=by decide):ClA E (.func g a c) args st R :=
 cla_fn (hp · _ _) hf 1 (by rw [hk];rfl) hn fun tm hl hg=>by rw [hk] at hg;exact h tm hl (hg 0 (by decide))
theorem cA2 (h:∀ tm,tm.length=n→tg tm 0=x0→tg tm 1=x1→Wp E b (FnA rs st R) tm { heap:=st.heap,lo:=st.heap.length }) (hk:a++args++c=[x0,x1]:=by rfl) (hn:2≤n:=by decide):ClA E (.func g a c) args st R :=
 cla_fn (hp · _ _) hf 2 (by rw [hk];rfl) hn fun tm hl hg=>by rw [hk] at hg;exact h tm hl (hg 0 (by decide)) (hg 1 (by decide))
end
end
theorem cR {P:Prop} {E:Env} {Q:Ex→List PV→St→Prop} {tm:List PV} {st:St} {f:Opd} {as:List Opd} {args:List PV} {dst:Option Nat} {g:Option (Nat×Bool)} {os:List DOper} {fv:PV} {R:PV→St→Prop} (ff:P) (hc:ClR E fv args st R) (h:∀ v st1,R v st1→WOps E os Q (put tm dst v) st1)
  (hw:P→wants tm g=true:=by intro ff;first|exact wants_none _|(simp only [↓reduceIte,go_sem,ff];first|done|rfl)) (hf:P→f.ev tm=fv:=by intro ff;simp only [↓reduceIte,go_sem,ff];first|done|rfl) (ha:P→evs tm as=args:=by intro ff;simp only [↓reduceIte,go_sem,ff];first|done|rfl):WOps E (⟨.call f as,dst,g⟩::os) Q tm st :=
 wops_callR (hw ff) rfl (hf ff) (by rw [ha ff];exact hc) h
theorem aP {P:Prop} {E:Env} {Q:Ex→List PV→St→Prop} {tm:List PV} {st:St} {sz:Nat} {x y:Opd} {dst:Option Nat} {os:List DOper} {m n k:Nat} {v w:PV} {cs ys:List PV} (ff:P) (ho:OwnS m st sz v n cs)
  (h:∀ v' st',OwnS m st' sz v' (n+k) (cs++ys.map PV.share)→Fr m st st'→(∀ l o,hp st l=some o→(∀ b,o ≠ .tag b)→hp st' l=some o)→WOps E os Q (put tm dst v') st')
  (hx:P→x.ev tm=v:=by intro ff;simp only [↓reduceIte,go_sem,ff];first|done|rfl) (hy:P→y.ev tm=w:=by intro ff;simp only [↓reduceIte,go_sem,ff];first|done|rfl) (hyl:w.sl=some (k,ys):=by rfl) (hm:m≤st.heap.length:=by first|omega|(simp only [len_push,len_setVar];omega)) (hl:ys.length=k*sz:=by rfl) (hc:ys.all PV.isCell=true:=by rfl) (hn:n+k≤maxList:=by simp only [maxList];omega):WOps E (⟨.append false sz x y,dst,none⟩::os) Q tm st :=
 wops_append rfl rfl (hx ff) (hy ff) ho hyl hm hl hc hn h
theorem n4 {a b:Nat} (h:a<b):((a=b)=False)∧(∀ k,(a=b+k)=False)∧((a<b)=True)∧∀ k,(a<b+k)=True:=⟨neL h,neA h,ltL h,ltA h⟩
theorem wS (k:Nat) (h:k+1<9223372036854775808):IntKind.wrap .i64 ((k:Int)+1)=((k+1:Nat):Int):=wrap_nat h
section
variable {α β:Type} {f:α→β} {a1 a2 a3 a4 a5:α} {x1 x2 x3 x4 x5:β}
theorem mv1 (h:[a1].map f=[x1]):f a1=x1:=by simpa using h
theorem mv2 (h:[a1,a2].map f=[x1,x2]):f a1=x1∧f a2=x2:=by simpa using h
theorem mv3 (h:[a1,a2,a3].map f=[x1,x2,x3]):f a1=x1∧f a2=x2∧f a3=x3:=by simpa using h
theorem mv4 (h:[a1,a2,a3,a4].map f=[x1,x2,x3,x4]):f a1=x1∧f a2=x2∧f a3=x3∧f a4=x4:=by simpa using h
theorem mv5 (h:[a1,a2,a3,a4,a5].map f=[x1,x2,x3,x4,x5]):f a1=x1∧f a2=x2∧f a3=x3∧f a4=x4∧f a5=x5:=by simpa using h
end
end Go.Den
end
section
namespace Go.Den
def isLoop:HObj→Bool
 | .loop .. => true
 | _=>false
def Has (h:List HObj) (L:List (Nat×HObj)):Prop:=∀ p∈L,h[p.1]? = some p.2∧isLoop p.2=false
theorem Has.ext {h h':List HObj} {L:List (Nat×HObj)} (H:Has h L) (x:HExt h h'):Has h' L:=fun p hp=>⟨x.var (H p hp).1,(H p hp).2⟩
theorem Has.loop {h:List HObj} {L:List (Nat×HObj)} {l:Nat} {o o':HObj} (H:Has h L) (hl:h[l]? = some o) (ho:isLoop o=true):Has (h.set l o') L:=fun p hp=>by
 obtain ⟨h1,h2⟩:=H p hp
 refine ⟨?_,h2⟩
 rw [List.getElem?_set_ne]
 ·exact h1
 ·rintro rfl;rw [hl] at h1;cases h1;rw [ho] at h2;cases h2
theorem Has.hp {st:St} {L:List (Nat×HObj)} {l:Nat} {o:HObj} (H:Has st.heap L) (hm:(l,o)∈L):hp st l=some o:=(H _ hm).1
theorem Has.nil (h:List HObj):Has h []:=fun _ hp=>by cases hp
theorem Has.cons {st:St} {L:List (Nat×HObj)} {l:Nat} {o:HObj} (h:Den.hp st l=some o) (ho:isLoop o=false) (H:Has st.heap L):Has st.heap ((l,o)::L):=fun p hp=>by
 rcases List.mem_cons.1 hp with rfl|hp
 ·exact ⟨h,ho⟩
 ·exact H p hp
def LoopSt (w:Nat) (P:List HObj→Prop):Prop:=∀ h l o o',w<l→P h→h[l]? = some o→isLoop o=true→isLoop o'=true→P (h.set l o')
structure YldU {α:Type} (E:Env) (y:PV) (X:List α) (Rep:PV→α→Prop) (W:Nat→Prop) (e u w:Nat) (I:Nat→List HObj→Prop) (S:List HObj→Prop):Prop where
 stab:∀ i h h',I i h→HExt h h'→I i h'
 stabS:∀ h h',S h→HExt h h'→S h'
 loopI:∀ i,LoopSt w (I i)
 loopS:LoopSt w S
 eu:e≤u
 uw:u≤w
 Ww:∀ l,W l→l≤w
 cell:y.isCell=true
 cells:y.cells=[y]
 step:∀ i (hi:i<X.length) v st,Rep v X[i]→I i st.heap→e≤st.lo→st.lo≤st.heap.length→w<st.heap.length→∃ b st',Cl E y [v] st (.ret (.bool b)) st'∧KeepV W st.heap st'.heap∧e≤st'.lo∧st'.lo≤u∧(b=true→I (i+1) st'.heap)∧(b=false→S st'.heap)
def IterU {α:Type} (E:Env) (f:PV) (st0:St) (X:List α) (Rep:PV→α→Prop) (priv:Nat→Prop):Prop :=
 ∀ (y:PV) (W:Nat→Prop) (e u w:Nat) (I:Nat→List HObj→Prop) (S:List HObj→Prop),YldU E y X Rep W e u w I S→(∀ l,priv l→¬ W l)→I 0 st0.heap→e≤st0.lo→st0.lo≤st0.heap.length→w<st0.heap.length →
  ∃ v st',Cl E f [y] st0 (.ret v) st'∧KeepV W st0.heap st'.heap∧e≤st'.lo∧st'.lo≤st'.heap.length∧((X.length=0∧st'=st0)∨st'.lo≤u)∧(I X.length st'.heap∨S st'.heap)
def BodyU (W:Nat→Prop) (e:Nat) (U:Nat→Prop) (s0:St) (J:List HObj→Prop) (D:Jump→List HObj→Prop):Ex→List PV→St→Prop:=fun ex _ s3 =>
 KeepV W s0.heap s3.heap∧e≤s3.lo∧s3.lo≤s3.heap.length∧U s3.lo∧match ex with
  | .normal=>J s3.heap
  | .ret=>D .ret s3.heap
  | .exit x=>D (.exit x) s3.heap
  | .panic _=>False
section
variable {E:Env} {Q:Ex→List PV→St→Prop} {tm:List PV} {st:St}
end
def OwnP (m sz:Nat) (v:PV) (n:Nat) (cs:List PV):Prop:=cs.length=n*sz∧((n=0∧v = .nilslice)∨∃ t,v = .slice (.tag t sz) n cs∧m≤t)
def tagL:PV→List (Nat×HObj)
 | .slice (.tag t _) _ _=>[(t,.tag true)]
 | _=>[]
theorem OwnP.own {m sz n:Nat} {v:PV} {cs:List PV} {st:St} (h:OwnP m sz v n cs) (H:Has st.heap (tagL v)):OwnS m st sz v n cs:=⟨h.1,h.2.imp id fun ⟨t,h1,h2⟩=>⟨t,h1,h2,by subst h1;exact H.hp (by simp [tagL])⟩⟩
theorem OwnS.p {m sz n:Nat} {v:PV} {cs:List PV} {st:St} (h:OwnS m st sz v n cs):OwnP m sz v n cs∧Has st.heap (tagL v):=by
 obtain ⟨h0,⟨h1,h2⟩|⟨t,h1,h2,h3⟩⟩:=h
 ·subst h2;exact ⟨⟨h0,.inl ⟨h1,rfl⟩⟩,.nil _⟩
 ·subst h1;exact ⟨⟨h0,.inr ⟨t,rfl,h2⟩⟩,.cons h3 rfl (.nil _)⟩
theorem OwnP.nil {m sz:Nat}:OwnP m sz .nilslice 0 []:=⟨by simp,.inl ⟨rfl,rfl⟩⟩
theorem Has.left {h:List HObj} {L M:List (Nat×HObj)} (H:Has h (L++M)):Has h L:=fun p hp=>H p (List.mem_append.2 (.inl hp))
theorem Has.right {h:List HObj} {L M:List (Nat×HObj)} (H:Has h (L++M)):Has h M:=fun p hp=>H p (List.mem_append.2 (.inr hp))
theorem Has.app {h:List HObj} {L M:List (Nat×HObj)} (H:Has h L) (H':Has h M):Has h (L++M):=fun p hp=>by
 rcases List.mem_append.1 hp with h1|h1
 ·exact H p h1
 ·exact H' p h1
end Go.Den
end
section
namespace Go.Den.Ve
inductive Ed:List Int→List Int→Nat→Prop
 | nil:Ed [] [] 0
 | keep {l m:List Int} {n:Nat} (a:Int) (h:Ed l m n):Ed (a::l) (a::m) n
 | change {l m:List Int} {n:Nat} (a b:Int) (h:Ed l m n):Ed (a::l) (b::m) (n+1)
 | add {l m:List Int} {n:Nat} (b:Int) (h:Ed l m n):Ed l (b::m) (n+1)
 | drop {l m:List Int} {n:Nat} (a:Int) (h:Ed l m n):Ed (a::l) m (n+1)
def levR (a:Int) (f:List Int→Nat):List Int→Nat
 | []=>f []+1
 | b::m=>min (f m+if a=b then 0 else 1) (1+min (f (b::m)) (levR a f m))
def lev:List Int→List Int→Nat
 | []=>List.length
 | a::l=>levR a (lev l)
theorem lev_nil (m:List Int):lev [] m=m.length:=rfl
theorem lev_cons_nil (a:Int) (l:List Int):lev (a::l) []=lev l []+1:=rfl
theorem lev_cons (a b:Int) (l m:List Int):lev (a::l) (b::m)=min (lev l m+if a=b then 0 else 1) (1+min (lev l (b::m)) (lev (a::l) m)):=rfl
theorem lev_len (l:List Int):lev l []=l.length:=by
 induction l with
 | nil=>rfl
 | cons a l ih=>rw [lev_cons_nil,ih];rfl
theorem ed_adds:∀ m:List Int,Ed [] m m.length
 | [] => .nil
 | b::m => .add b (ed_adds m)
theorem ed_drops:∀ l:List Int,Ed l [] l.length
 | [] => .nil
 | a::l => .drop a (ed_drops l)
theorem ed_lev:∀ l m:List Int,Ed l m (lev l m)
 | [],m=>ed_adds m
 | a::l,[]=>by rw [lev_len];exact ed_drops _
 | a::l,b::m=>by
  have h1:=ed_lev l m
  have h2:=ed_lev l (b::m)
  have h3:=ed_lev (a::l) m
  rw [lev_cons]
  by_cases e1:lev l m+(if a=b then 0 else 1)≤1+min (lev l (b::m)) (lev (a::l) m)
  ·rw [Nat.min_eq_left e1]
   by_cases e:a=b
   ·subst e;rw [if_pos rfl];exact .keep a h1
   ·rw [if_neg e];exact .change a b h1
  ·rw [Nat.min_eq_right (by omega)]
   by_cases e2:lev l (b::m)≤lev (a::l) m
   ·rw [Nat.min_eq_left e2,Nat.add_comm];exact .drop a h2
   ·rw [Nat.min_eq_right (by omega),Nat.add_comm];exact .add b h3
theorem lev_drop (a:Int) (l:List Int):∀ m,lev (a::l) m≤lev l m+1
 | []=>by rw [lev_cons_nil];omega
 | b::m=>by rw [lev_cons];omega
theorem lev_add (b:Int) (m:List Int):∀ l,lev l (b::m)≤lev l m+1
 | []=>by rw [lev_nil,lev_nil];simp
 | a::l=>by rw [lev_cons];omega
theorem lev_le {l m:List Int} {n:Nat} (h:Ed l m n):lev l m≤n:=by
 induction h with
 | nil=>exact Nat.le_refl _
 | keep a _ ih=>rw [lev_cons,if_pos rfl];omega
 | change a b _ ih=>rw [lev_cons];split <;> omega
 | add b _ ih=>exact Nat.le_trans (lev_add _ _ _) (by omega)
 | drop a _ ih=>exact Nat.le_trans (lev_drop _ _ _) (by omega)
theorem Ed.symm {l m:List Int} {n:Nat} (h:Ed l m n):Ed m l n:=by
 induction h with
 | nil=>exact .nil
 | keep a _ ih=>exact .keep a ih
 | change a b _ ih=>exact .change b a ih
 | add b _ ih=>exact .drop b ih
 | drop a _ ih=>exact .add a ih
theorem Ed.trans {l m:List Int} {n:Nat} (h:Ed l m n):∀ {k:List Int} {p:Nat},Ed m k p→lev l k≤n+p:=by
 induction h with
 | nil=>intro k p h2;have:=lev_le h2;omega
 | @keep l m n a h ih =>
  intro k p h2
  generalize hm:a::m=am at h2
  induction h2 with
  | nil=>cases hm
  | keep b h3 _ =>
   cases hm
   have:=ih h3
   rw [lev_cons,if_pos rfl];omega
  | change b c h3 _ =>
   cases hm
   have:=ih h3
   rw [lev_cons];split <;> omega
  | add b h3 ih3=>have:=ih3 hm;exact Nat.le_trans (lev_add _ _ _) (by omega)
  | drop b h3 _ =>
   cases hm
   have:=ih h3
   exact Nat.le_trans (lev_drop _ _ _) (by omega)
 | @change l m n a b h ih =>
  intro k p h2
  generalize hm:b::m=am at h2
  induction h2 with
  | nil=>cases hm
  | keep c h3 _ =>
   cases hm
   have:=ih h3
   rw [lev_cons];split <;> omega
  | change c e h3 _ =>
   cases hm
   have:=ih h3
   rw [lev_cons];split <;> omega
  | add c h3 ih3=>have:=ih3 hm;exact Nat.le_trans (lev_add _ _ _) (by omega)
  | drop c h3 _ =>
   cases hm
   have:=ih h3
   exact Nat.le_trans (lev_drop _ _ _) (by omega)
 | @add l m n b h ih =>
  intro k p h2
  generalize hm:b::m=am at h2
  induction h2 with
  | nil=>cases hm
  | keep c h3 _ =>
   cases hm
   have:=ih h3
   exact Nat.le_trans (lev_add _ _ _) (by omega)
  | change c e h3 _ =>
   cases hm
   have:=ih h3
   exact Nat.le_trans (lev_add _ _ _) (by omega)
  | add c h3 ih3=>have:=ih3 hm;exact Nat.le_trans (lev_add _ _ _) (by omega)
  | drop c h3 _ =>
   cases hm
   have:=ih h3
   omega
 | drop a h ih =>
  intro k p h2
  have:=ih h2
  exact Nat.le_trans (lev_drop _ _ _) (by omega)
theorem lev_self:∀ l,lev l l=0
 | []=>rfl
 | a::l=>by rw [lev_cons,if_pos rfl,lev_self l];omega
theorem lev_max:∀ l m:List Int,lev l m≤max l.length m.length
 | [],m=>by rw [lev_nil];omega
 | a::l,[]=>by rw [lev_len];omega
 | a::l,b::m=>by
  have:=lev_max l m
  rw [lev_cons]
  simp only [List.length_cons]
  split <;> omega
theorem Ed.app {l m l' m':List Int} {n p:Nat} (h:Ed l m n) (h':Ed l' m' p):Ed (l++l') (m++m') (n+p):=by
 induction h with
 | nil=>simpa using h'
 | keep a _ ih=>exact .keep a ih
 | @change l m n a b _ ih=>rw [show n+1+p=(n+p)+1 by omega];exact .change a b ih
 | @add l m n b _ ih=>rw [show n+1+p=(n+p)+1 by omega];exact .add b ih
 | @drop l m n a _ ih=>rw [show n+1+p=(n+p)+1 by omega];exact .drop a ih
end Go.Den.Ve
end
section
namespace Go.Den.Ve
def bef:List Int→List Int→Bool
 | [],[]=>false
 | [],_::_=>true
 | _::_,[]=>false
 | a::l,b::m=>if a=b then bef l m else decide (a<b)
theorem bef_irr:∀ l,bef l l=false
 | []=>rfl
 | a::l=>by simp only [bef,if_true];exact bef_irr l
theorem bef_asym:∀ l m,bef l m=true→bef m l=false
 | [],[],h=>by cases h
 | [],_::_,_=>rfl
 | _::_,[],h=>by cases h
 | a::l,b::m,h=>by
  simp only [bef] at h ⊢
  by_cases e:a=b
  ·subst e;simp only [if_true] at h ⊢;exact bef_asym l m h
  ·rw [if_neg e] at h;rw [if_neg (Ne.symm e)]
   simp only [decide_eq_true_eq,decide_eq_false_iff_not] at *;omega
theorem bef_total:∀ {a b:List Int},bef a b=false→bef b a=false→a=b
 | [],[],_,_=>rfl
 | [],_::_,h,_=>by cases h
 | _::_,[],_,h=>by cases h
 | x::a,y::b,h1,h2=>by
  simp only [bef] at h1 h2
  by_cases e:x=y
  ·subst e
   rw [if_pos rfl] at h1 h2
   rw [bef_total h1 h2]
  ·rw [if_neg e] at h1
   rw [if_neg (Ne.symm e)] at h2
   simp only [decide_eq_false_iff_not] at h1 h2
   omega
def before (l m:List Int):Bool:=if l.length=m.length then bef l m else decide (l.length<m.length)
theorem sorted_ext {lt:List Int→List Int→Bool} (irr:∀ x,lt x x=false) (asym:∀ x y,lt x y=true→lt y x=false):∀ {a b:List (List Int)},a.Pairwise (fun x y=>lt x y=true)→b.Pairwise (fun x y=>lt x y=true)→(∀ x,x∈a↔x∈b)→a=b
 | [],[],_,_,_=>rfl
 | [],y::b,_,_,h=>by have:=(h y).2 (by simp);cases this
 | x::a,[],_,_,h=>by have:=(h x).1 (by simp);cases this
 | x::a,y::b,ha,hb,h=>by
  rw [List.pairwise_cons] at ha hb
  have hxy:x=y:=by
   rcases List.mem_cons.1 ((h x).1 (by simp)) with e|h1
   ·exact e
   ·rcases List.mem_cons.1 ((h y).2 (by simp)) with e|h2
    ·exact e.symm
    ·have a1:=hb.1 x h1
     have a2:=asym _ _ (ha.1 y h2)
     rw [a1] at a2;cases a2
  subst hxy
  have ne:∀ {l:List (List Int)},(∀ z∈l,lt x z=true)→x∉l:=fun hl hx=>by
   have:=hl x hx
   rw [irr] at this;cases this
  rw [sorted_ext irr asym ha.2 hb.2 fun z=>?_]
  constructor
  ·intro hz
   rcases List.mem_cons.1 ((h z).1 (by simp [hz])) with e|h1
   ·rw [e] at hz;exact absurd hz (ne ha.1)
   ·exact h1
  ·intro hz
   rcases List.mem_cons.1 ((h z).2 (by simp [hz])) with e|h1
   ·rw [e] at hz;exact absurd hz (ne hb.1)
   ·exact h1
def listsL (w:Nat):Nat→List (List Int)
 | 0=>[[]]
 | k+1=>(List.range w).flatMap fun (x:Nat)=>(listsL w k).map fun l=>(x:Int)::l
theorem mem_lists {w:Nat} {l:List Int}:∀ {k:Nat},l∈listsL w k↔l.length=k∧∀ x∈l,0≤x∧x<w:=by
 intro k
 induction k generalizing l with
 | zero =>
  rw [listsL,List.mem_singleton]
  constructor
  ·rintro rfl;exact ⟨rfl,fun _ h=>by cases h⟩
  ·rintro ⟨h,_⟩;exact List.eq_nil_of_length_eq_zero h
 | succ k ih =>
  rw [listsL,List.mem_flatMap]
  constructor
  ·rintro ⟨x,hx,h⟩
   rw [List.mem_range] at hx
   obtain ⟨t,ht,rfl⟩:=List.mem_map.1 h
   obtain ⟨h1,h2⟩:=ih.1 ht
   refine ⟨by simp [h1],fun y hy=>?_⟩
   rcases List.mem_cons.1 hy with rfl|hy
   ·omega
   ·exact h2 y hy
  ·rintro ⟨h1,h2⟩
   cases l with
   | nil=>simp at h1
   | cons x t =>
    have hx:=h2 x (by simp)
    exact ⟨x.toNat,List.mem_range.2 (by omega),List.mem_map.2 ⟨t,ih.2 ⟨by simpa using h1,fun y hy=>h2 y (by simp [hy])⟩,by rw [Int.toNat_of_nonneg hx.1]⟩⟩
theorem lists_sorted (w:Nat):∀ k,(listsL w k).Pairwise (fun a b=>bef a b=true)
 | 0=>List.pairwise_singleton _ _
 | k+1=>by
  rw [listsL]
  refine List.pairwise_flatMap.2 ⟨fun x _=>?_,List.Pairwise.imp ?_ (List.pairwise_lt_range (n:=w))⟩
  ·rw [List.pairwise_map]
   exact (lists_sorted w k).imp fun h=>by simp only [bef,if_true];exact h
  ·intro a b hab x hx y hy
   obtain ⟨t,_,rfl⟩:=List.mem_map.1 hx
   obtain ⟨u,_,rfl⟩:=List.mem_map.1 hy
   rw [bef,if_neg (by omega)]
   simp;omega
def linesL (w:Nat):List (List Int):=(List.range 5).flatMap fun k=>listsL w k
theorem mem_lines {w:Nat} {l:List Int}:l∈linesL w↔l.length≤4∧∀ x∈l,0≤x∧x<w:=by
 rw [linesL,List.mem_flatMap]
 constructor
 ·rintro ⟨k,hk,h⟩
  rw [List.mem_range] at hk
  obtain ⟨h1,h2⟩:=mem_lists.1 h
  exact ⟨by omega,h2⟩
 ·rintro ⟨h1,h2⟩
  exact ⟨l.length,List.mem_range.2 (by omega),mem_lists.2 ⟨rfl,h2⟩⟩
def minL {α:Type} (m:α→Int):List α→Int
 | []=>0
 | [x]=>m x
 | x::y::l=>min (m x) (minL m (y::l))
def leastL {α:Type} (m:α→Int) (l:List α):List α:=l.filter fun x=>m x==minL m l
theorem minL_le {α:Type} {m:α→Int}:∀ {l:List α},∀ x∈l,minL m l≤m x
 | [y],x,h=>by rw [List.mem_singleton.1 h];exact Int.le_refl _
 | y::z::l,x,h=>by
  rw [minL]
  rcases List.mem_cons.1 h with rfl|h
  ·omega
  ·have:=minL_le (m:=m) x h;omega
theorem minL_mem {α:Type} {m:α→Int}:∀ {l:List α},l≠[]→∃ x∈l,m x=minL m l
 | [],h=>absurd rfl h
 | [y],_=>⟨y,by simp,rfl⟩
 | y::z::l,_=>by
  obtain ⟨x,hx,e⟩:=minL_mem (m:=m) (l:=z::l) (by simp)
  rw [minL]
  by_cases h:m y≤minL m (z::l)
  ·exact ⟨y,by simp,by omega⟩
  ·exact ⟨x,by simp [hx],by omega⟩
end Go.Den.Ve
end
section
namespace Go.Den.Ve
abbrev Sp:=Int×Int
def stepsL:List Int→List Int→List Sp
 | [],[]=>[]
 | [],b::m=>(3,b)::stepsL [] m
 | a::l,[]=>(4,a)::stepsL l []
 | a::l,b::m =>
  if a=b then (1,a)::stepsL l m
  else if lev l m≤lev (a::l) m∧lev l m≤lev l (b::m) then (2,b)::stepsL l m
  else if lev (a::l) m≤lev l (b::m) then (3,b)::stepsL (a::l) m
  else (4,a)::stepsL l (b::m)
 termination_by l m=>l.length+m.length
def led1 (x:Sp):List Int→List Int→Option (List Int×List Int)
 | a::l,b::m =>
  if x.1=1 then (if x.2=b∧a=b then some (l,m) else none)
  else if x.1=2 then (if x.2=b∧a≠b then some (l,m) else none)
  else if x.1=3 then (if x.2=b then some (a::l,m) else none)
  else if x.1=4 then (if x.2=a then some (l,b::m) else none) else none
 | [],b::m=>if x.1=3∧x.2=b then some ([],m) else none
 | a::l,[]=>if x.1=4∧x.2=a then some (l,[]) else none
 | [],[]=>none
def ledL:List Sp→List Int→List Int→Bool
 | [],l,m=>l.isEmpty&&m.isEmpty
 | x::s,l,m=>match led1 x l m with
  | none=>false
  | some p=>ledL s p.1 p.2
def costL:List Sp→Nat
 | []=>0
 | x::s=>costL s+if x.1=1 then 0 else 1
inductive Led:List Sp→List Int→List Int→Prop
 | nil:Led [] [] []
 | keep {s:List Sp} {l m:List Int} (a:Int) (h:Led s l m):Led ((1,a)::s) (a::l) (a::m)
 | change {s:List Sp} {l m:List Int} (a b:Int) (e:a≠b) (h:Led s l m):Led ((2,b)::s) (a::l) (b::m)
 | add {s:List Sp} {l m:List Int} (b:Int) (h:Led s l m):Led ((3,b)::s) l (b::m)
 | drop {s:List Sp} {l m:List Int} (a:Int) (h:Led s l m):Led ((4,a)::s) (a::l) m
theorem led_of:∀ {s:List Sp} {l m:List Int},ledL s l m=true→Led s l m
 | [],[],[],_ => .nil
 | [],a::l,m,h=>by simp [ledL] at h
 | [],[],b::m,h=>by simp [ledL] at h
 | (k,w)::s,[],[],h=>by simp [ledL,led1] at h
 | (k,w)::s,[],b::m,h=>by
  simp only [ledL,led1] at h
  by_cases e:k=3∧w=b
  ·obtain ⟨rfl,rfl⟩:=e
   simp only [and_self,if_true] at h
   exact .add _ (led_of h)
  ·rw [if_neg e] at h;cases h
 | (k,w)::s,a::l,[],h=>by
  simp only [ledL,led1] at h
  by_cases e:k=4∧w=a
  ·obtain ⟨rfl,rfl⟩:=e
   simp only [and_self,if_true] at h
   exact .drop _ (led_of h)
  ·rw [if_neg e] at h;cases h
 | (k,w)::s,a::l,b::m,h=>by
  simp only [ledL,led1] at h
  by_cases e1:k=1
  ·subst e1
   rw [if_pos rfl] at h
   by_cases e:w=b∧a=b
   ·obtain ⟨rfl,rfl⟩:=e
    rw [if_pos ⟨rfl,rfl⟩] at h
    exact .keep _ (led_of h)
   ·rw [if_neg e] at h;cases h
  ·rw [if_neg e1] at h
   by_cases e2:k=2
   ·subst e2
    rw [if_pos rfl] at h
    by_cases e:w=b∧a≠b
    ·rw [if_pos e] at h
     obtain ⟨rfl,e⟩:=e
     exact .change _ _ e (led_of h)
    ·rw [if_neg e] at h;cases h
   ·rw [if_neg e2] at h
    by_cases e3:k=3
    ·subst e3
     rw [if_pos rfl] at h
     by_cases e:w=b
     ·subst e
      rw [if_pos rfl] at h
      exact .add _ (led_of h)
     ·rw [if_neg e] at h;cases h
    ·rw [if_neg e3] at h
     by_cases e4:k=4
     ·subst e4
      rw [if_pos rfl] at h
      by_cases e:w=a
      ·subst e
       rw [if_pos rfl] at h
       exact .drop _ (led_of h)
      ·rw [if_neg e] at h;cases h
     ·rw [if_neg e4] at h;cases h
theorem Led.is {s:List Sp} {l m:List Int} (h:Led s l m):ledL s l m=true:=by
 induction h with
 | nil=>rfl
 | keep a _ ih=>simp [ledL,led1,ih]
 | change a b e _ ih=>simp [ledL,led1,e,ih]
 | @add s l m b _ ih=>cases l <;> simp [ledL,led1,ih]
 | @drop s l m a _ ih=>cases m <;> simp [ledL,led1,ih]
theorem Led.ed {s:List Sp} {l m:List Int} (h:Led s l m):Ed l m (costL s):=by
 induction h with
 | nil=>exact .nil
 | keep a _ ih=>exact .keep a ih
 | change a b e _ ih=>exact .change a b ih
 | add b _ ih=>exact .add b ih
 | drop a _ ih=>exact .drop a ih
theorem Led.len {s:List Sp} {l m:List Int} (h:Led s l m):s.length≤l.length+m.length:=by
 induction h with
 | nil=>exact Nat.le_refl _
 | keep a _ ih=>simp only [List.length_cons];omega
 | change a b e _ ih=>simp only [List.length_cons];omega
 | add b _ ih=>simp only [List.length_cons];omega
 | drop a _ ih=>simp only [List.length_cons];omega
def soonL:List Sp→List Sp→Bool
 | a::s,b::t=>if a=b then soonL s t else decide (a.1<b.1) || (decide (a.1=b.1)&&decide (a.2<b.2))
 | [],_::_=>true
 | _,[]=>false
theorem soon_self:∀ s:List Sp,soonL s s=false
 | []=>rfl
 | a::s=>by rw [soonL,if_pos rfl];exact soon_self s
def stepsR:List Int→List Int→Int→Option (List Sp)
 | [],[],n=>if n=0 then some [] else none
 | [],b::m,n=>if n<0 then none else (stepsR [] m (n - 1)).map fun s=>(3,b)::s
 | a::l,[],n=>if n<0 then none else (stepsR l [] (n - 1)).map fun s=>(4,a)::s
 | a::l,b::m,n=>if n<0 then none else
  match stepsR l m (if a=b then n else n - 1) with
  | some s=>some (((if a=b then 1 else 2),b)::s)
  | none=>match stepsR (a::l) m (n - 1) with
   | some s=>some ((3,b)::s)
   | none=>(stepsR l (b::m) (n - 1)).map fun s=>(4,a)::s
 termination_by l m=>l.length+m.length
end Go.Den.Ve
end
section
namespace Go.Den.Ve
theorem minL_cons {α:Type} (m:α→Int) (x:α) {l:List α} (h:l≠[]):minL m (x::l)=min (m x) (minL m l):=by
 cases l with
 | nil=>exact absurd rfl h
 | cons y l=>rfl
theorem minL_snoc {α:Type} (m:α→Int) (x:α):∀ {l:List α},l≠[]→minL m (l++[x])=min (minL m l) (m x)
 | [y],_=>rfl
 | y::z::l,_=>by
  have:=minL_snoc m x (l:=z::l) (by simp)
  rw [List.cons_append,minL_cons m y (l:=z::l++[x]) (by simp),this,minL_cons m y (l:=z::l) (by simp)]
  omega
def holdL:List Int→List Int→Bool
 | _,[]=>true
 | [],_::_=>false
 | w::line,x::list=>if x=w then holdL line list else holdL line (x::list)
def commonL (w:Nat) (P:List Int→Bool):Nat→List Int
 | 0=>[]
 | k+1=>match (listsL w (k+1)).find? P with
  | some l=>l
  | none=>commonL w P k
def commonR (P:List Int→Bool):List Int→List (List Int)→List Int
 | out,[]=>out
 | out,l::t=>commonR P (if (decide (l.length>out.length)&&P l)=true then l else out) t
structure Longest (P:List Int→Bool) (ls:List (List Int)) (c:List Int):Prop where
 mem:c∈ls
 is:P c=true
 best:∀ l∈ls,P l=true→l.length<c.length∨l.length=c.length∧(l=c∨bef c l=true)
theorem find_first {lt:List Int→List Int→Bool} {P:List Int→Bool}:∀ {ls:List (List Int)} {c:List Int},ls.Pairwise (fun a b=>lt a b=true)→ls.find? P=some c→c∈ls∧P c=true∧∀ l∈ls,P l=true→l=c∨lt c l=true
 | [],_,_,h=>by cases h
 | x::ls,c,hp,h=>by
  rw [List.pairwise_cons] at hp
  rw [List.find?_cons] at h
  cases hx:P x
  ·rw [hx] at h
   obtain ⟨h1,h2,h3⟩:=find_first hp.2 h
   refine ⟨by simp [h1],h2,fun l hl hP=>?_⟩
   rcases List.mem_cons.1 hl with rfl|hl
   ·rw [hx] at hP;cases hP
   ·exact h3 l hl hP
  ·rw [hx] at h
   simp only [Option.some.injEq] at h
   subst h
   refine ⟨by simp,hx,fun l hl _=>?_⟩
   rcases List.mem_cons.1 hl with rfl|hl
   ·exact .inl rfl
   ·exact .inr (hp.1 l hl)
theorem common_longest {w:Nat} {P:List Int→Bool} (h0:P []=true):∀ {k:Nat},k≤4→(∀ l∈linesL w,P l=true→l.length≤k)→Longest P (linesL w) (commonL w P k)
 | 0,_,hl=>⟨mem_lines.2 ⟨by simp [commonL],by simp [commonL]⟩,h0,fun l h1 h2=>by
   have:=hl l h1 h2
   refine .inr ⟨by simp only [commonL,List.length_nil];omega,.inl ?_⟩
   cases l with
   | nil=>rfl
   | cons=>simp at this⟩
 | k+1,hk,hl=>by
  cases hf:(listsL w (k+1)).find? P with
  | some c =>
   obtain ⟨h1,h2,h3⟩:=find_first (lists_sorted w (k+1)) hf
   rw [mem_lists] at h1
   have e:commonL w P (k+1)=c:=by rw [commonL,hf]
   rw [e]
   refine ⟨mem_lines.2 ⟨by omega,h1.2⟩,h2,fun l hm hP=>?_⟩
   have q:=hl l hm hP
   by_cases hq:l.length=k+1
   ·exact .inr ⟨hq.trans h1.1.symm,h3 l (mem_lists.2 ⟨hq,(mem_lines.1 hm).2⟩) hP⟩
   ·exact .inl (by omega)
  | none =>
   have e:commonL w P (k+1)=commonL w P k:=by rw [commonL,hf]
   rw [e]
   refine common_longest h0 (by omega) fun l hm hP=>?_
   have q:=hl l hm hP
   by_cases hq:l.length=k+1
   ·rw [List.find?_eq_none] at hf
    exact absurd hP (hf l (mem_lists.2 ⟨hq,(mem_lines.1 hm).2⟩))
   ·omega
theorem commonR_is {P:List Int→Bool}:∀ {post pre:List (List Int)} {out:List Int},(pre++post).Pairwise (fun a b=>before a b=true)→(Longest P pre out)→Longest P (pre++post) (commonR P out post)
 | [],pre,out,_,h=>by rw [List.append_nil];exact h
 | x::post,pre,out,hp,h=>by
  have e:pre++x::post=(pre++[x])++post:=by simp
  rw [e] at hp ⊢
  rw [commonR]
  refine commonR_is hp ?_
  have hlt:∀ y∈pre,before y x=true:=fun y hy=>by
   rw [List.append_assoc,List.pairwise_append] at hp
   exact hp.2.2 y hy x (by simp)
  split
  ·rename_i hc
   simp only [Bool.and_eq_true,decide_eq_true_eq] at hc
   refine ⟨by simp,hc.2,fun l hl hP=>?_⟩
   rcases List.mem_append.1 hl with hl|hl
   ·rcases h.best l hl hP with h1|⟨h1,_⟩ <;> exact .inl (by omega)
   ·rw [List.mem_singleton.1 hl];exact .inr ⟨rfl,.inl rfl⟩
  ·rename_i hc
   simp only [Bool.and_eq_true,decide_eq_true_eq,not_and,Bool.not_eq_true] at hc
   refine ⟨by simp [h.mem],h.is,fun l hl hP=>?_⟩
   rcases List.mem_append.1 hl with hl|hl
   ·exact h.best l hl hP
   ·rw [List.mem_singleton.1 hl] at hP ⊢
    have q:=hlt out h.mem
    unfold before at q
    by_cases e2:out.length=x.length
    ·rw [if_pos e2] at q
     exact .inr ⟨e2.symm,.inr q⟩
    ·rw [if_neg e2,decide_eq_true_eq] at q
     rw [hc q] at hP;cases hP
end Go.Den.Ve
end
section
namespace Go.Den.Ve
def climbL (tree:List Int):Nat→Int→Int
 | 0,x=>x
 | k+1,x=>climbL tree k (if 0≤x then tree.getD x.toNat 0 else x)
def treeB (n:Nat) (tree:List Int):Bool :=
 decide (tree.length=n)&&(tree.all (fun x=>decide (-1≤x)&&decide (x<n))&&(List.range n).all fun i=>decide (climbL tree n i<0))
theorem climb_self {tree:List Int} {i:Nat} (h:tree.getD i 0=i):∀ k,climbL tree k i=i
 | 0=>rfl
 | k+1=>by rw [climbL,if_pos (by omega),Int.toNat_natCast,h];exact climb_self h k
def anyT (n:Nat):List (List Int):=(listsL (n+1) n).map fun l=>l.map fun x=>x - 1
theorem bef_map {f:Int→Int} (hf:∀ a b,a<b↔f a<f b):∀ l m:List Int,bef (l.map f) (m.map f)=bef l m
 | [],[]=>rfl
 | [],_::_=>rfl
 | _::_,[]=>rfl
 | a::l,b::m=>by
  simp only [List.map_cons,bef]
  have h1:=hf a b
  have h2:=hf b a
  by_cases e:a=b
  ·subst e;rw [if_pos rfl,if_pos rfl];exact bef_map hf l m
  ·rw [if_neg e,if_neg (by omega)]
   exact decide_eq_decide.2 h1.symm
def treesL (n:Nat):List (List Int):=(anyT n).filter (treeB n)
def growT (n i:Nat) (l:List Int):List (List Int):=((List.range (n+1)).filter fun (p:Nat)=>decide ((p:Int) - 1≠i)).map fun (p:Nat)=>l++[(p:Int) - 1]
def levT (n:Nat):Nat→List (List Int)
 | 0=>[[]]
 | i+1=>(levT n i).flatMap (growT n i)
theorem bef_app:∀ {l m:List Int} (s t:List Int),bef l m=true→l.length=m.length→bef (l++s) (m++t)=true
 | [],[],s,t,h,_=>by cases h
 | a::l,b::m,s,t,h,e=>by
  simp only [List.cons_append,bef] at h ⊢
  by_cases e1:a=b
  ·rw [if_pos e1] at h ⊢;exact bef_app s t h (by simpa using e)
  ·rw [if_neg e1] at h ⊢;exact h
theorem bef_pre (s t:List Int):∀ l:List Int,bef (l++s) (l++t)=bef s t
 | []=>rfl
 | a::l=>by rw [List.cons_append,List.cons_append,bef,if_pos rfl];exact bef_pre s t l
theorem mem_levT {n:Nat}:∀ {i:Nat} {t:List Int},t∈levT n i↔t.length=i∧∀ k,∀ h:k<t.length,-1≤t[k]∧t[k]<n∧t[k]≠k
 | 0,t=>by
  rw [levT,List.mem_singleton]
  constructor
  ·rintro rfl;exact ⟨rfl,fun k h=>by cases h⟩
  ·exact fun h=>List.length_eq_zero_iff.1 h.1
 | i+1,t=>by
  rw [levT,List.mem_flatMap]
  constructor
  ·rintro ⟨l,hl,h⟩
   obtain ⟨h1,h2⟩:=mem_levT.1 hl
   rw [growT,List.mem_map] at h
   obtain ⟨p,hp,rfl⟩:=h
   rw [List.mem_filter,List.mem_range,decide_eq_true_eq] at hp
   refine ⟨by simp [h1],fun k hk=>?_⟩
   by_cases e:k<l.length
   ·rw [List.getElem_append_left e];exact h2 k e
   ·have:k=l.length:=by simp at hk;omega
    subst this
    rw [List.getElem_append_right (Nat.le_refl _)]
    simp only [Nat.sub_self,List.getElem_cons_zero]
    omega
  ·rintro ⟨h1,h2⟩
   have e:=List.dropLast_concat_getLast (l:=t) (by intro e;rw [e] at h1;cases h1)
   have hl:t.dropLast.length=i:=by rw [List.length_dropLast];omega
   refine ⟨t.dropLast,mem_levT.2 ⟨hl,fun k hk=>?_⟩,?_⟩
   ·rw [List.getElem_dropLast];exact h2 k _
   ·rw [growT,List.mem_map]
    have q:=h2 i (by omega)
    have hg:t.getLast (by intro e;rw [e] at h1;cases h1)=t[i]'(by omega):=by
     rw [List.getLast_eq_getElem];congr 1;omega
    refine ⟨(t[i]'(by omega)+1).toNat,?_,?_⟩
    ·rw [List.mem_filter,List.mem_range,decide_eq_true_eq]
     omega
    ·rw [Int.toNat_of_nonneg (by omega),show t[i]'(by omega)+1 - 1=t[i]'(by omega) by omega,← hg]
     exact e
theorem levT_sorted (n:Nat):∀ i,(levT n i).Pairwise (fun a b=>bef a b=true)
 | 0=>List.pairwise_singleton _ _
 | i+1=>by
  rw [levT]
  refine List.pairwise_flatMap.2 ⟨fun l _=>?_,List.Pairwise.imp_of_mem ?_ (levT_sorted n i)⟩
  ·rw [growT,List.pairwise_map]
   refine List.Pairwise.imp ?_ ((List.pairwise_lt_range (n:=n+1)).sublist List.filter_sublist)
   intro a b hab
   rw [bef_pre,bef,if_neg (by omega)]
   simp;omega
  ·intro a b ha hb hab x hx y hy
   rw [growT,List.mem_map] at hx hy
   obtain ⟨p,_,rfl⟩:=hx
   obtain ⟨q,_,rfl⟩:=hy
   exact bef_app _ _ hab ((mem_levT.1 ha).1.trans (mem_levT.1 hb).1.symm)
end Go.Den.Ve
end
section
namespace Go.Den.Ve
structure LN where
 lost:Bool
 words:List Int
structure BK where
 words:Int
 copies:List (List LN)
def inN (x lo hi:Int):Bool:=decide (lo≤x)&&decide (x≤hi)
def lineB (w:Int) (l:List Int):Bool:=decide (l.length≤4)&&l.all (fun x=>inN x 0 (w - 1))
def lnB (w:Int) (x:LN):Bool:=lineB w x.words&&!(x.lost&&!x.words.isEmpty)
def lines1 (b:BK):Nat:=(b.copies.headD []).length
def copyB (b:BK) (c:List LN):Bool:=decide (c.length=lines1 b)&&c.all (lnB b.words)
def bookB (b:BK):Bool:=inN b.words 1 3&&(inN b.copies.length 1 5&&(inN (lines1 b) 1 4&&b.copies.all (copyB b)))
def txtB (b:BK) (t:List (List Int)):Bool:=decide (t.length=lines1 b)&&t.all (lineB b.words)
structure OkB (b:BK):Prop where
 w1:1≤b.words
 w3:b.words≤3
 c1:1≤b.copies.length
 c5:b.copies.length≤5
 l1:1≤lines1 b
 l4:lines1 b≤4
 all:∀ c∈b.copies,c.length=lines1 b∧∀ x∈c,lineB b.words x.words=true∧(x.lost=true→x.words=[])
theorem lineB_iff {w:Int} {l:List Int}:lineB w l=true↔l.length≤4∧∀ x∈l,0≤x∧x<w:=by
 simp only [lineB,inN,Bool.and_eq_true,decide_eq_true_eq,List.all_eq_true]
 constructor
 ·rintro ⟨h1,h2⟩;exact ⟨h1,fun x hx=>by have:=h2 x hx;omega⟩
 ·rintro ⟨h1,h2⟩;exact ⟨h1,fun x hx=>by have:=h2 x hx;omega⟩
def takenI (l:List Int) (x:LN):Int:=if x.lost then 0 else lev l x.words
def cost1 (b:BK) (i:Nat) (l:List Int):Int:=(b.copies.map fun c=>takenI l (c.getD i ⟨true,[]⟩)).sum
def leastB (b:BK) (i:Nat):List (List Int):=leastL (cost1 b i) (linesL b.words.toNat)
def manyB (b:BK) (i:Nat):Int:=minL (cost1 b i) (linesL b.words.toNat)
def commonB (b:BK) (i:Nat):List Int:=commonL b.words.toNat (fun l=>(leastB b i).all fun x=>holdL x l) 4
theorem sum_le {α:Type} {f g:α→Int}:∀ {l:List α},(∀ x∈l,f x≤g x)→(l.map f).sum≤(l.map g).sum
 | [],_=>Int.le_refl _
 | x::l,h=>by
  have:=sum_le (l:=l) fun y hy=>h y (by simp [hy])
  have:=h x (by simp)
  simp only [List.map_cons,List.sum_cons];omega
theorem sum_eq {α:Type} {f g:α→Int}:∀ {l:List α},(∀ x∈l,f x≤g x)→(l.map f).sum=(l.map g).sum→∀ x∈l,f x=g x
 | [],_,_,_,h=>by cases h
 | x::l,h,e,y,hy=>by
  have h1:=sum_le (l:=l) fun y hy=>h y (by simp [hy])
  have h2:=h x (by simp)
  simp only [List.map_cons,List.sum_cons] at e
  rcases List.mem_cons.1 hy with rfl|hy
  ·omega
  ·exact sum_eq (l:=l) (fun y hy=>h y (by simp [hy])) (by omega) y hy
def copiedI (from':List (List Int)) (c:List LN):Int:=((List.range c.length).map fun i=>takenI (from'.getD i []) (c.getD i ⟨true,[]⟩)).sum
def linesW (c:List LN):List (List Int):=c.map LN.words
def takesI (b:BK) (t:List (List Int)) (n:Nat) (p:Int):Int:=copiedI (if p<0 then t else linesW (b.copies.getD p.toNat [])) (b.copies.getD n [])
def totalI (b:BK) (t:List (List Int)) (tree:List Int):Int:=((List.range tree.length).map fun n=>takesI b t n (tree.getD n 0)).sum
def wholeT (b:BK):List (List Int):=(List.range (lines1 b)).map fun i=>(leastB b i).headD []
def wholeN (b:BK):Int:=(List.range (lines1 b)).foldl (fun n i=>n*((leastB b i).length:Int)) 1
def wholeC (b:BK):Int:=((List.range (lines1 b)).map fun i=>manyB b i).sum
end Go.Den.Ve
end

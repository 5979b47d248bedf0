/- Part of the proofs of laws of the package version. Texts: DenAny, DenAuto, DenGo, DenShort, DenIterV. -/
import Derived.Test.YtehdcjbdhkkipaaGreatDoorVMAk
set_option linter.unusedSimpArgs false
set_option linter.unusedVariables false
section
namespace Go.Den
def ClA (E:Env) (f:PV) (args:List PV) (st:St) (P:CR→St→Prop):Prop:=∃ r st',Cl E f args st r st'∧P r st'
def FnA (rs:List DRes) (st:St) (P:CR→St→Prop):Ex→List PV→St→Prop:=fun e tm1 st1=>match e with
 | .normal | .ret=>∃ v,results tm1 st1.heap rs=some v∧P (.ret (finishCall st st1 v).1) (finishCall st st1 v).2
 | .panic v=>P (.panic v) { heap:=st1.heap,lo:=min st.lo st1.lo }
 | .exit _=>False
theorem cla_fn{E:Env}{st:St}{g:Nat}{a c args:List PV}{n:Nat}{rs:List DRes}{b:DCode}{P:CR→St→Prop}(hp:∀ rec,E.prim g rec (a++args++c) st=none)(hf:E.fn g=some ⟨n,rs,b⟩)(k:Nat)(hk:(a++args++c).length=k)(hkn:k≤n)
  (h:∀ tm,tm.length=n→(∀ i,i<k→tg tm i=(a++args++c).getD i undef)→Wp E b (FnA rs st P) tm { heap:=st.heap,lo:=st.heap.length }):ClA E (.func g a c) args st P:=by
 have:=h ((a++args++c)++List.replicate (n - (a++args++c).length) undef) (by simp at hk ⊢;omega) (fun i hi=>by
  unfold tg
  rw[List.getD_eq_getElem?_getD,List.getD_eq_getElem?_getD,List.getElem?_append_left (by omega)])
 unfold Wp at this
 obtain⟨N,e,tm1,st1,h1,h2⟩:=this
 have key:∀ v,(e = .normal∨e = .ret)→results tm1 st1.heap rs=some v→P (.ret (finishCall st st1 v).1) (finishCall st st1 v).2→ClA E (.func g a c) args st P:=by
  intro v he h3 h4
  refine⟨_,_,cl_of_wp (r := .ret (finishCall st st1 v).1) (st':=(finishCall st st1 v).2) hp hf ?_,h4⟩
  unfold Wp
  refine⟨N,e,tm1,st1,h1,?_⟩
  rcases he with rfl|rfl <;> exact⟨v,h3,_,rfl,rfl⟩
 unfold FnA at h2
 cases e with
 | normal=>obtain⟨v,h3,h4⟩:=h2;exact key v (.inl rfl) h3 h4
 | ret=>obtain⟨v,h3,h4⟩:=h2;exact key v (.inr rfl) h3 h4
 | exit i=>exact h2.elim
 | panic u =>
  refine⟨_,_,cl_of_wp (r := .panic u) (st':={ heap:=st1.heap,lo:=min st.lo st1.lo }) hp hf ?_,h2⟩
  unfold Wp
  exact⟨N,.panic u,tm1,st1,h1,rfl,rfl⟩
theorem fna_ret{rs:List DRes}{st:St}{P:CR→St→Prop}{tm1:List PV}{st1:St}{v:PV}(hr:results tm1 st1.heap rs=some v)(h:P (.ret (finishCall st st1 v).1) (finishCall st st1 v).2):FnA rs st P .ret tm1 st1:=⟨v,hr,h⟩
theorem fna_normal{rs:List DRes}{st:St}{P:CR→St→Prop}{tm1:List PV}{st1:St}{v:PV}(hr:results tm1 st1.heap rs=some v)(h:P (.ret (finishCall st st1 v).1) (finishCall st st1 v).2):FnA rs st P .normal tm1 st1:=⟨v,hr,h⟩
theorem fna_panic{rs:List DRes}{st:St}{P:CR→St→Prop}{tm1:List PV}{st1:St}{v:PV}(h:P (.panic v) { heap:=st1.heap,lo:=min st.lo st1.lo }):FnA rs st P (.panic v) tm1 st1:=h
attribute [irreducible] FnA
section
variable{E:Env}{Q:Ex→List PV→St→Prop}{tm:List PV}{st:St}
theorem wops_callA{f:Opd}{args:List Opd}{dst:Option Nat}{g:Option (Nat×Bool)}{os:List DOper}{b:Bool}{fv:PV}{P:CR→St→Prop}(hw:wants tm g=b)(hb:b=true)(hf:f.ev tm=fv)(hc:ClA E fv (evs tm args) st P)(h:∀ v st1,P (.ret v) st1→WOps E os Q (put tm dst v) st1)(hx:∀ v st1,P (.panic v) st1→Q (.panic v) tm st1):WOps E (⟨.call f args,dst,g⟩::os) Q tm st:=by
 obtain⟨r,st1,hcl,hP⟩:=hc
 cases r with
 | ret v=>exact wops_call (hw.trans hb) hf hcl (h v st1 hP)
 | panic v =>
  obtain⟨N,hN⟩:=hcl
  unfold WOps
  refine⟨N,_,_,_,fun n hn=>?_,hx v st1 hP⟩
  simp only[stepOps,hw,hb,if_true,stepOp,hf,hN n hn]
theorem wopsD_callA{QD:Ex→List PV→St→List Foot→Prop}{f:Opd}{args:List Opd}{dst:Option Nat}{g:Option (Nat×Bool)}{b:Bool}{fv:PV}{P:CR→St→Prop}(hw:wants tm g=b)(hb:b=true)(hf:f.ev tm=fv)(hc:ClA E fv (evs tm args) { st with lo:=st.heap.length } P)
  (h:∀ v st1,P (.ret v) st1→QD .normal (put tm dst v) { st1 with lo:=min st.lo st1.lo } [footOf tm (.call f args) st.heap.length st1.lo]) (hx:∀ v st1,P (.panic v) st1→QD (.panic v) tm { st1 with lo:=min st.lo st1.lo } [footOf tm (.call f args) st.heap.length st1.lo]):WOpsD E [⟨.call f args,dst,g⟩] QD tm st:=by
 obtain⟨r,st1,⟨N,hN⟩,hP⟩:=hc
 unfold WOpsD
 cases r with
 | ret v =>
  refine⟨N,_,_,_,_,_,fun n hn=>?_,(Finer.refl []).cons (f':=fineOf (.call f args) (footOf tm (.call f args) st.heap.length st1.lo) st.heap st1.heap) (fun l hc=>fine_le hc) (fun l hc=>fine_ld hc),h v st1 hP⟩
  simp only[stepOpsD,hw,hb,if_true,stepOp,hf,hN n hn]
 | panic v =>
  refine⟨N,_,_,_,_,_,fun n hn=>?_,(Finer.refl []).cons (f':=fineOf (.call f args) (footOf tm (.call f args) st.heap.length st1.lo) st.heap st1.heap) (fun l hc=>fine_le hc) (fun l hc=>fine_ld hc),hx v st1 hP⟩
  simp only[stepOpsD,hw,hb,if_true,stepOp,hf,hN n hn,List.isEmpty_nil]
theorem step_next{rec:Rec}{x:Opd}{l pos:Nat}{s:ByteArray}(hx:x.ev tm = .ptr l 0)(hl:hp st l=some (.iter s pos))(hp:pos<s.size):stepOp E rec tm st (.nextStr x)=some (.val (.tuple [.bool true,.int .i64 pos,.int .i32 (Utf8.decode s pos).1]) (setVar st l (.iter s (pos+(Utf8.decode s pos).2)))):=by
 have h:st.heap[l]? = some (.iter s pos):=hl
 simp only[stepOp,hx,h,hp,if_true]
theorem step_end{rec:Rec}{x:Opd}{l pos:Nat}{s:ByteArray}(hx:x.ev tm = .ptr l 0)(hl:hp st l=some (.iter s pos))(hp:¬ pos<s.size):stepOp E rec tm st (.nextStr x)=some (.val (.tuple [.bool false]) st):=by
 have h:st.heap[l]? = some (.iter s pos):=hl
 simp only[stepOp,hx,h,hp,if_false]
theorem op_rangeStr{rec:Rec}{x:Opd}:stepOp E rec tm st (.rangeStr x)=match x.ev tm with
  | .str s=>some (.val (.ptr st.heap.length 0) (st.push (.iter s 0)))
  | _=>none:=rfl
end
theorem decode_low(s:ByteArray)(i:Nat)(h:(s.get! i).toNat<128):Utf8.decode s i=((s.get! i).toNat,1):=by
 unfold Utf8.decode
 simp only[Nat.add_zero]
 rw[if_pos h]
theorem decode_high(s:ByteArray)(i:Nat)(h:128≤(s.get! i).toNat):128≤(Utf8.decode s i).1:=by
 unfold Utf8.decode
 simp only[Nat.add_zero]
 rw[if_neg (by omega)]
 have e:128≤Utf8.runeError:=by decide
 split
 ·split
  ·rename_i h;simpa using h
  ·exact e
 ·split
  ·split
   ·rename_i h
    simp only[Bool.and_eq_true,decide_eq_true_eq] at h
    show 128≤_
    omega
   ·exact e
  ·split
   ·split
    ·rename_i h
     simp only[Bool.and_eq_true,decide_eq_true_eq] at h
     show 128≤_
     omega
    ·exact e
   ·exact e
end Go.Den
end
section
namespace Go.Den
attribute [go_sem] Nat.reduceEqDiff Nat.reduceLT Nat.reduceLeDiff Nat.reduceAdd Nat.reduceMul Nat.reduceSub Int.reduceLE Int.reduceLT Int.reduceToNat Int.reduceNeg reduceCtorEq
attribute [go_sem] reduceIte
def Hid (R:Prop):Prop:=R
theorem Hid.out{R:Prop}(h:Hid R):R:=h
theorem Hid.mk{R:Prop}(h:R):Hid R:=h
attribute [irreducible] Hid
theorem fnil:True:=trivial
theorem bw{a b:Prop}(x:a)(y:b):a∧b:=⟨x,y⟩
theorem bw3{a0 a1 a2:Prop}(x0:a0)(x1:a1)(x2:a2):a0∧a1∧a2:=⟨x0,x1,x2⟩
theorem bw4{a0 a1 a2 a3:Prop}(x0:a0)(x1:a1)(x2:a2)(x3:a3):a0∧a1∧a2∧a3:=⟨x0,x1,x2,x3⟩
theorem bw5{a0 a1 a2 a3 a4:Prop}(x0:a0)(x1:a1)(x2:a2)(x3:a3)(x4:a4):a0∧a1∧a2∧a3∧a4:=⟨x0,x1,x2,x3,x4⟩
theorem bw6{a0 a1 a2 a3 a4 a5:Prop}(x0:a0)(x1:a1)(x2:a2)(x3:a3)(x4:a4)(x5:a5):a0∧a1∧a2∧a3∧a4∧a5:=⟨x0,x1,x2,x3,x4,x5⟩
theorem bw7{a0 a1 a2 a3 a4 a5 a6:Prop}(x0:a0)(x1:a1)(x2:a2)(x3:a3)(x4:a4)(x5:a5)(x6:a6):a0∧a1∧a2∧a3∧a4∧a5∧a6:=⟨x0,x1,x2,x3,x4,x5,x6⟩
theorem bw8{a0 a1 a2 a3 a4 a5 a6 a7:Prop}(x0:a0)(x1:a1)(x2:a2)(x3:a3)(x4:a4)(x5:a5)(x6:a6)(x7:a7):a0∧a1∧a2∧a3∧a4∧a5∧a6∧a7:=⟨x0,x1,x2,x3,x4,x5,x6,x7⟩
theorem bw9{a0 a1 a2 a3 a4 a5 a6 a7 a8:Prop}(x0:a0)(x1:a1)(x2:a2)(x3:a3)(x4:a4)(x5:a5)(x6:a6)(x7:a7)(x8:a8):a0∧a1∧a2∧a3∧a4∧a5∧a6∧a7∧a8:=⟨x0,x1,x2,x3,x4,x5,x6,x7,x8⟩
theorem bw10{a0 a1 a2 a3 a4 a5 a6 a7 a8 a9:Prop}(x0:a0)(x1:a1)(x2:a2)(x3:a3)(x4:a4)(x5:a5)(x6:a6)(x7:a7)(x8:a8)(x9:a9):a0∧a1∧a2∧a3∧a4∧a5∧a6∧a7∧a8∧a9:=⟨x0,x1,x2,x3,x4,x5,x6,x7,x8,x9⟩
theorem bw11{a0 a1 a2 a3 a4 a5 a6 a7 a8 a9 a10:Prop}(x0:a0)(x1:a1)(x2:a2)(x3:a3)(x4:a4)(x5:a5)(x6:a6)(x7:a7)(x8:a8)(x9:a9)(x10:a10):a0∧a1∧a2∧a3∧a4∧a5∧a6∧a7∧a8∧a9∧a10:=⟨x0,x1,x2,x3,x4,x5,x6,x7,x8,x9,x10⟩
theorem bw12{a0 a1 a2 a3 a4 a5 a6 a7 a8 a9 a10 a11:Prop}(x0:a0)(x1:a1)(x2:a2)(x3:a3)(x4:a4)(x5:a5)(x6:a6)(x7:a7)(x8:a8)(x9:a9)(x10:a10)(x11:a11):a0∧a1∧a2∧a3∧a4∧a5∧a6∧a7∧a8∧a9∧a10∧a11:=⟨x0,x1,x2,x3,x4,x5,x6,x7,x8,x9,x10,x11⟩
theorem bw13{a0 a1 a2 a3 a4 a5 a6 a7 a8 a9 a10 a11 a12:Prop}(x0:a0)(x1:a1)(x2:a2)(x3:a3)(x4:a4)(x5:a5)(x6:a6)(x7:a7)(x8:a8)(x9:a9)(x10:a10)(x11:a11)(x12:a12):a0∧a1∧a2∧a3∧a4∧a5∧a6∧a7∧a8∧a9∧a10∧a11∧a12:=⟨x0,x1,x2,x3,x4,x5,x6,x7,x8,x9,x10,x11,x12⟩
theorem bw14{a0 a1 a2 a3 a4 a5 a6 a7 a8 a9 a10 a11 a12 a13:Prop}(x0:a0)(x1:a1)(x2:a2)(x3:a3)(x4:a4)(x5:a5)(x6:a6)(x7:a7)(x8:a8)(x9:a9)(x10:a10)(x11:a11)(x12:a12)(x13:a13):a0∧a1∧a2∧a3∧a4∧a5∧a6∧a7∧a8∧a9∧a10∧a11∧a12∧a13:=⟨x0,x1,x2,x3,x4,x5,x6,x7,x8,x9,x10,x11,x12,x13⟩
theorem bw15{a0 a1 a2 a3 a4 a5 a6 a7 a8 a9 a10 a11 a12 a13 a14:Prop}(x0:a0)(x1:a1)(x2:a2)(x3:a3)(x4:a4)(x5:a5)(x6:a6)(x7:a7)(x8:a8)(x9:a9)(x10:a10)(x11:a11)(x12:a12)(x13:a13)(x14:a14):a0∧a1∧a2∧a3∧a4∧a5∧a6∧a7∧a8∧a9∧a10∧a11∧a12∧a13∧a14:=⟨x0,x1,x2,x3,x4,x5,x6,x7,x8,x9,x10,x11,x12,x13,x14⟩
theorem bw16{a0 a1 a2 a3 a4 a5 a6 a7 a8 a9 a10 a11 a12 a13 a14 a15:Prop}(x0:a0)(x1:a1)(x2:a2)(x3:a3)(x4:a4)(x5:a5)(x6:a6)(x7:a7)(x8:a8)(x9:a9)(x10:a10)(x11:a11)(x12:a12)(x13:a13)(x14:a14)(x15:a15):a0∧a1∧a2∧a3∧a4∧a5∧a6∧a7∧a8∧a9∧a10∧a11∧a12∧a13∧a14∧a15:=⟨x0,x1,x2,x3,x4,x5,x6,x7,x8,x9,x10,x11,x12,x13,x14,x15⟩
theorem bw22{a0 a1 a2 a3 a4 a5 a6 a7 a8 a9 a10 a11 a12 a13 a14 a15 a16 a17 a18 a19 a20 a21:Prop}(x0:a0)(x1:a1)(x2:a2)(x3:a3)(x4:a4)(x5:a5)(x6:a6)(x7:a7)(x8:a8)(x9:a9)(x10:a10)(x11:a11)(x12:a12)(x13:a13)(x14:a14)(x15:a15)(x16:a16)(x17:a17)(x18:a18)(x19:a19)(x20:a20)(x21:a21):a0∧a1∧a2∧a3∧a4∧a5∧a6∧a7∧a8∧a9∧a10∧a11∧a12∧a13∧a14∧a15∧a16∧a17∧a18∧a19∧a20∧a21:=⟨x0,x1,x2,x3,x4,x5,x6,x7,x8,x9,x10,x11,x12,x13,x14,x15,x16,x17,x18,x19,x20,x21⟩
theorem bw31{a0 a1 a2 a3 a4 a5 a6 a7 a8 a9 a10 a11 a12 a13 a14 a15 a16 a17 a18 a19 a20 a21 a22 a23 a24 a25 a26 a27 a28 a29 a30:Prop}(x0:a0)(x1:a1)(x2:a2)(x3:a3)(x4:a4)(x5:a5)(x6:a6)(x7:a7)(x8:a8)(x9:a9)(x10:a10)(x11:a11)(x12:a12)(x13:a13)(x14:a14)(x15:a15)(x16:a16)(x17:a17)(x18:a18)(x19:a19)(x20:a20)(x21:a21)(x22:a22)(x23:a23)(x24:a24)(x25:a25)(x26:a26)(x27:a27)(x28:a28)(x29:a29)(x30:a30):a0∧a1∧a2∧a3∧a4∧a5∧a6∧a7∧a8∧a9∧a10∧a11∧a12∧a13∧a14∧a15∧a16∧a17∧a18∧a19∧a20∧a21∧a22∧a23∧a24∧a25∧a26∧a27∧a28∧a29∧a30:=⟨x0,x1,x2,x3,x4,x5,x6,x7,x8,x9,x10,x11,x12,x13,x14,x15,x16,x17,x18,x19,x20,x21,x22,x23,x24,x25,x26,x27,x28,x29,x30⟩
theorem isS{α:Type}(a:α):(some a).isSome=true:=rfl
end Go.Den
end
section
namespace Go.Den
def calm:DOp→Bool
 | .load .. => false
 | .lookup .. => false
 | .bytesToStr .. => false
 | .store .. => false
 | _=>true
theorem foot_calm{tm:List PV}{o:DOp}{m:Nat}(h:calm o=true):footOf tm o m m = .quiet:=by
 cases o <;> first|(simp[footOf];done)|cases h
theorem clash_q(l:Nat):clash l .quiet=false:=rfl
theorem clash_l(l m:Nat):clash l (.ld m)=false:=rfl
theorem clash_s(l m:Nat):clash l (.st m)=(l==m):=rfl
theorem clash_w(l m:Nat):clash l (.wr m)=decide (m≤l):=rfl
theorem hp_lo(s:St)(x l:Nat):hp { heap:=s.heap,lo:=x } l=hp s l:=rfl
attribute [go_sem] hp_lo
section
variable{E:Env}{tm:List PV}{st:St}{QD:Ex→List PV→St→List Foot→Prop}{dst:Option Nat}{g:Option (Nat×Bool)}{os:List DOper}{b:Bool}{v:PV}
theorem wopsD_light{o:DOp}(hc:calm o=true)(hlo:st.lo≤st.heap.length)(hw:wants tm g=b)(hb:b=true)(ho:∀ rec (st1:St),st1.heap=st.heap→(∀ l,hp st1 l=hp st l)→stepOp E rec tm st1 o=some (.val v st1))
  (h:WOpsD E os (fun e tm' st' fs=>QD e tm' st' (.quiet::fs)) (put tm dst v) st):WOpsD E (⟨o,dst,g⟩::os) QD tm st :=
 wopsD_pure' hlo hw hb ho (by rw[foot_calm hc];exact h)
theorem wopsD_pushF{o:DOp}{ob:HObj}(hc:calm o=true)(hlo:st.lo≤st.heap.length)(hw:wants tm g=b)(hb:b=true)(ho:∀ rec (st1:St),st1.heap=st.heap→stepOp E rec tm st1 o=some (.val v (st1.push ob)))
  (h:WOpsD E os (fun e tm' st' fs=>QD e tm' st' (.quiet::fs)) (put tm dst v) (st.push ob)):WOpsD E (⟨o,dst,g⟩::os) QD tm st :=
 wopsD_push hlo hw hb ho (by rw[foot_calm hc];exact h)
theorem wopsD_ldC{agg:Bool}{sz:Nat}{a:Opd}{cs:List PV}(hlo:st.lo≤st.heap.length)(hw:wants tm g=b)(hb:b=true)(ha:a.ev tm = .cptr cs)(hv:rdPart agg sz cs=some v)
  (h:WOpsD E os (fun e tm' st' fs=>QD e tm' st' (.quiet::fs)) (put tm dst v) st):WOpsD E (⟨.load agg sz a,dst,g⟩::os) QD tm st :=
 wopsD_pure' (v:=v) hlo hw hb (fun rec st1 _ _=>by simp only[stepOp,ha,hv,Option.map_some]) (by simp only[footOf,ha];exact h)
theorem wopsD_ldP{agg:Bool}{sz:Nat}{a:Opd}{l off:Nat}{cs:List PV}(hlo:st.lo≤st.heap.length)(hw:wants tm g=b)(hb:b=true)(ha:a.ev tm = .ptr l off)(hh:hp st l=some (.var cs))(ht:decide (off≤cs.length)=true)(hv:rdPart agg sz (cs.drop off)=some v)
  (h:WOpsD E os (fun e tm' st' fs=>QD e tm' st' (.ld l::fs)) (put tm dst v) st):WOpsD E (⟨.load agg sz a,dst,g⟩::os) QD tm st :=
 wopsD_pure' (v:=v) hlo hw hb (fun rec st1 _ h1=>by
  have h2:st1.heap[l]? = some (.var cs):=(h1 l).trans hh
  simp only[stepOp,ha,h2,of_decide_eq_true ht,if_true,hv,Option.map_some]) (by simp only[footOf,ha];exact h)
theorem wopsD_store{sz:Nat}{a x:Opd}{l off:Nat}{cs p cs':List PV}(hlo:st.lo≤st.heap.length)(hw:wants tm g=b)(hb:b=true)(ha:a.ev tm = .ptr l off)(hx:(x.ev tm).cells=p)(hh:hp st l=some (.var cs))(hp:(decide (p.length=sz)&&(decide (off+sz≤cs.length)&&p.all PV.isCell))=true)(hs:splice cs off p=cs')
  (h:WOpsD E os (fun e tm' st' fs=>QD e tm' st' (.st l::fs)) (put tm dst undef) (setVar st l (.var cs'))):WOpsD E (⟨.store sz a x,dst,g⟩::os) QD tm st:=by
 simp only[Bool.and_eq_true,decide_eq_true_eq] at hp
 refine wopsD_set (v:=undef) (l:=l) (ob := .var cs') hlo (Nat.le_of_lt (hp_lt hh)) hw hb (fun rec st1 _ h1=>?_) (by simp only[footOf,ha];exact h)
 have h2:st1.heap[l]? = some (.var cs):=(h1 l).trans hh
 simp only[stepOp,ha,h2,hx,hp,and_self,if_true,hs]
end
theorem go2{P C G R:Prop}(ff:P)(cc:C)(r:R)(k:P→C→Hid R→G:=by
 intro ff cc hR
 (repeat (first
  | apply wp_seq|apply wp_region_ops|apply wp_dregion_ops|apply wp_block_seq|apply wp_block_region|apply wp_block_cond|apply wp_block_dregion|apply wp_scope|apply wp_ret|apply wp_skip|apply wp_exit|apply andThen_normal|apply andThen_ret|apply andThen_exit|apply andThen_panic|apply inBlock_panic|apply inBlock_normal|apply inBlock_ret|apply inBlock_same|(apply inBlock_other (by decide))|apply wops_nil
  | (refine wops_one' (by simp only[↓reduceIte,go_sem,ff];first|done|rfl) (by with_reducible rfl) (fun rec=>by simp only[↓reduceIte,go_sem,ff];with_reducible rfl) (by with_reducible rfl) ?_)
  | (refine wops_index (by simp only[↓reduceIte,go_sem,ff];first|done|rfl) (by with_reducible rfl) (by simp only[↓reduceIte,go_sem,ff];first|done|rfl) (by assumption) (by simp only[↓reduceIte,go_sem,ff];first|done|rfl) (by first|assumption|omega) ?_)
  | (refine wops_indexI (by simp only[↓reduceIte,go_sem,ff];first|done|rfl) (by with_reducible rfl) (by simp only[↓reduceIte,go_sem,ff];first|done|rfl) (by assumption) (by simp only[↓reduceIte,go_sem,ff];first|done|rfl) (by first|assumption|omega) (by first|assumption|omega) ?_)
  | (refine wopsD_light rfl (by first|omega|(simp only[lo_push,lo_setVar,len_push,len_setVar];omega)) (by simp only[↓reduceIte,go_sem,ff];first|done|rfl) (by with_reducible rfl) (fun rec st1 he hh=>by simp only[↓reduceIte,go_sem,ff,he,hh];with_reducible rfl) ?_)
  | (refine wopsD_ldC (by first|omega|(simp only[lo_push,lo_setVar,len_push,len_setVar];omega)) (by simp only[↓reduceIte,go_sem,ff];first|done|rfl) (by with_reducible rfl) (by simp only[↓reduceIte,go_sem,ff];first|done|rfl) (by simp only[↓reduceIte,go_sem,ff];with_reducible rfl) ?_)
  | (refine wopsD_ldP (by first|omega|(simp only[lo_push,lo_setVar,len_push,len_setVar];omega)) (by simp only[↓reduceIte,go_sem,ff];first|done|rfl) (by with_reducible rfl) (by simp only[↓reduceIte,go_sem,ff];first|done|rfl) (by simp only[↓reduceIte,go_sem,ff];first|done|rfl) (by simp only[↓reduceIte,go_sem,ff];first|done|rfl) (by simp only[↓reduceIte,go_sem,ff];with_reducible rfl) ?_)
  | (refine wopsD_store (by first|omega|(simp only[lo_push,lo_setVar,len_push,len_setVar];omega)) (by simp only[↓reduceIte,go_sem,ff];first|done|rfl) (by with_reducible rfl) (by simp only[↓reduceIte,go_sem,ff];first|done|rfl) (by simp only[↓reduceIte,go_sem,ff];first|done|rfl) (by simp only[↓reduceIte,go_sem,ff];first|done|rfl) (by simp only[↓reduceIte,go_sem,ff];first|done|rfl) (by simp only[↓reduceIte,go_sem,ff];with_reducible rfl) ?_)
  | (refine wopsD_pushF rfl (by first|omega|(simp only[lo_push,lo_setVar,len_push,len_setVar];omega)) (by simp only[↓reduceIte,go_sem,ff];first|done|rfl) (by with_reducible rfl) (fun rec st1 he=>by simp only[↓reduceIte,go_sem,ff,he];with_reducible rfl) ?_)
  | (refine wopsD_index (by first|omega|(simp only[lo_push,lo_setVar,len_push,len_setVar];omega)) (by simp only[↓reduceIte,go_sem,ff];first|done|rfl) (by with_reducible rfl) (by simp only[↓reduceIte,go_sem,ff];first|done|rfl) (by assumption) (by simp only[↓reduceIte,go_sem,ff];first|done|rfl) (by first|assumption|omega) ?_)
  | (refine wopsD_indexI (by first|omega|(simp only[lo_push,lo_setVar,len_push,len_setVar];omega)) (by simp only[↓reduceIte,go_sem,ff];first|done|rfl) (by with_reducible rfl) (by simp only[↓reduceIte,go_sem,ff];first|done|rfl) (by assumption) (by simp only[↓reduceIte,go_sem,ff];first|done|rfl) (by first|assumption|omega) (by first|assumption|omega) ?_)
  | (refine wopsD_skip' (by simp only[↓reduceIte,go_sem,ff];first|done|rfl) (by with_reducible rfl) ?_)|(apply wopsD_nil;refine⟨by first|exact footOk_quiet (by rfl)|(simp only[footOk,clash_q,clash_l,clash_s,clash_w,List.all_cons,List.all_nil,List.getElem?_cons_zero,List.getElem?_cons_succ,Bool.and_true,Bool.not_false,Bool.not_eq_true',beq_eq_false_iff_ne,decide_eq_false_iff_not,Bool.and_eq_true,ff];first|done|omega|(simp;done)),?_⟩)
  | (refine wops_panic (by simp only[↓reduceIte,go_sem,ff];first|done|rfl) (by with_reducible rfl) (by simp only[↓reduceIte,go_sem,ff];first|done|rfl) ?_)
  | (refine wops_skip' (by simp only[↓reduceIte,go_sem,ff];first|done|rfl) (by with_reducible rfl) ?_)|(refine wp_condT (by simp only[↓reduceIte,go_sem,ff];first|done|rfl) ?_)|(refine wp_condF (by simp only[↓reduceIte,go_sem,ff];first|done|rfl) ?_)
  | (refine wopsD_call (by first|omega|(simp only[lo_push,lo_setVar,len_push,len_setVar];omega)) (by simp only[↓reduceIte,go_sem,ff];first|done|rfl) (by with_reducible rfl) (by simp only[↓reduceIte,go_sem,ff];first|done|rfl) (fun st1 he=>by simp only[↓reduceIte,go_sem,ff];first|(apply cc.1 <;> first|assumption|omega|decide)|(apply cc.2.1 <;> first|assumption|omega|decide)|(apply cc.2.2.1 <;> first|assumption|omega|decide)|(apply cc.2.2.2.1 <;> first|assumption|omega|decide)|(apply cc.2.2.2.2.1 <;> first|assumption|omega|decide)|(apply cc.2.2.2.2.2.1 <;> first|assumption|omega|decide)|(apply cc.2.2.2.2.2.2.1 <;> first|assumption|omega|decide)|(apply cc.2.2.2.2.2.2.2.1 <;> first|assumption|omega|decide)|(apply cc.2.2.2.2.2.2.2.2.1 <;> first|assumption|omega|decide)) ?_)
  | (refine wops_call' (by simp only[↓reduceIte,go_sem,ff];first|done|rfl) (by with_reducible rfl) (by simp only[↓reduceIte,go_sem,ff];first|done|rfl) (by simp only[↓reduceIte,go_sem,ff];first|(apply cc.1 <;> first|assumption|omega|decide)|(apply cc.2.1 <;> first|assumption|omega|decide)|(apply cc.2.2.1 <;> first|assumption|omega|decide)|(apply cc.2.2.2.1 <;> first|assumption|omega|decide)|(apply cc.2.2.2.2.1 <;> first|assumption|omega|decide)|(apply cc.2.2.2.2.2.1 <;> first|assumption|omega|decide)|(apply cc.2.2.2.2.2.2.1 <;> first|assumption|omega|decide)|(apply cc.2.2.2.2.2.2.2.1 <;> first|assumption|omega|decide)|(apply cc.2.2.2.2.2.2.2.2.1 <;> first|assumption|omega|decide)) ?_)))
 exact hR.out):G:=k ff cc (.mk r)
end Go.Den
end
section
namespace Go.Den
theorem sG{P G:Prop}(ff:P)(k:P→G:=by intro ff;simp only[↓reduceIte,go_sem,ff]):G:=k ff
theorem sR{P G:Prop}(ff:P)(k:P→G:=by intro ff;simp only[↓reduceIte,go_sem,ff];first|done|rfl):G:=k ff
theorem fQ{P G:Prop}(ff:P)(k:P→G:=by
 intro ff
 refine fnq_flat (results_one ?_) ?_ ?_
 ·rw[rdRes_tmp];simp only[↓reduceIte,go_sem,ff];first|done|rfl
 ·first|exact Nat.le_refl _|omega|(simp only[lo_push,lo_setVar];omega)
 ·rfl):G:=k ff
theorem fY{P G:Prop}(ff:P)(k:P→G:=by
 intro ff
 refine fnq_tuple ?_ ?_ ?_
 ·simp only[results,rdResL,rdRes_tmp,rdRes_c,rcR_p,↓reduceIte,go_sem,ff];first|done|rfl
 ·first|exact Nat.le_refl _|omega|(simp only[lo_push,lo_setVar];omega)
 ·rfl):G:=k ff
theorem fX{P:Prop}{rs:List DRes}{st:St}{R:PV→St→Prop}{e:Ex}{tm1:List PV}{st1:St}(v:PV)(ff:P)(h:R (finishCall st st1 v).1 (finishCall st st1 v).2)(he:e = .ret∨e = .normal:=by first|exact .inl rfl|exact .inr rfl)(k:P→results tm1 st1.heap rs=some v:=by intro ff;simp only[results,rdResL,rdRes_tmp,rdRes_c,rcR_p,↓reduceIte,go_sem,ff];first|done|rfl):FnR rs st R e tm1 st1:=by
 rcases he with rfl|rfl
 ·exact fnr_ret (k ff) h
 ·exact fnr_normal (k ff) h
theorem lN{P:Prop}{W:List Nat}{a b:List PV}{n:Nat}(hS:Same W a b)(ff:P)(k:P→a.length=n:=by intro ff;simp only[put_len,ff]):b.length=n:=hS.1.trans (k ff)
theorem tQ{P:Prop}{W:List Nat}{a b:List PV}{i:Nat}{v:PV}(hS:Same W a b)(ff:P)(hi:W.contains i=false:=by first|decide|rfl)(k:P→tg a i=v:=by intro ff;simp only[↓reduceIte,go_sem,ff]):tg b i=v:=(hS.2 i hi).trans (k ff)
section
variable{E:Env}{st:St}{g:Nat}{a c args:List PV}{n:Nat}{rs:List DRes}{b:DCode}{x0 x1 x2 x3 x4:PV}
section
variable{r:CR}{st':St}(hp:∀ r a s,E.prim g r a s=none)(hf:E.fn g=some ⟨n,rs,b⟩)
include hp hf
theorem cF0(h:∀ tm,tm.length=n→Wp E b (FnQ rs st r st') tm { heap:=st.heap,lo:=st.heap.length })(hk:a++args++c=[]:=by rfl):Cl E (.func g a c) args st r st' :=
 cl_fn (hp · _ _) hf 0 (by rw[hk];rfl) (Nat.zero_le _) fun tm hl _=>h tm hl
theorem cF1(h:∀ tm,tm.length=n→tg tm 0=x0→Wp E b (FnQ rs st r st') tm { heap:=st.heap,lo:=st.heap.length })(hk:a++args++c=[x0]:=by rfl)(hn:1≤n:=by decide):Cl E (.func g a c) args st r st' :=
 cl_fn (hp · _ _) hf 1 (by rw[hk];rfl) hn fun tm hl hg=>by rw[hk] at hg;exact h tm hl (hg 0 (by decide))
theorem cF2(h:∀ tm,tm.length=n→tg tm 0=x0→tg tm 1=x1→Wp E b (FnQ rs st r st') tm { heap:=st.heap,lo:=st.heap.length })(hk:a++args++c=[x0,x1]:=by rfl)(hn:2≤n:=by decide):Cl E (.func g a c) args st r st' :=
 cl_fn (hp · _ _) hf 2 (by rw[hk];rfl) hn fun tm hl hg=>by rw[hk] at hg;exact h tm hl (hg 0 (by decide)) (hg 1 (by decide))
theorem cF3(h:∀ tm,tm.length=n→tg tm 0=x0→tg tm 1=x1→tg tm 2=x2→Wp E b (FnQ rs st r st') tm { heap:=st.heap,lo:=st.heap.length })(hk:a++args++c=[x0,x1,x2]:=by rfl)(hn:3≤n:=by decide):Cl E (.func g a c) args st r st' :=
 cl_fn (hp · _ _) hf 3 (by rw[hk];rfl) hn fun tm hl hg=>by rw[hk] at hg;exact h tm hl (hg 0 (by decide)) (hg 1 (by decide)) (hg 2 (by decide))
theorem cF4(h:∀ tm,tm.length=n→tg tm 0=x0→tg tm 1=x1→tg tm 2=x2→tg tm 3=x3→Wp E b (FnQ rs st r st') tm { heap:=st.heap,lo:=st.heap.length })(hk:a++args++c=[x0,x1,x2,x3]:=by rfl)(hn:4≤n:=by decide):Cl E (.func g a c) args st r st' :=
 cl_fn (hp · _ _) hf 4 (by rw[hk];rfl) hn fun tm hl hg=>by rw[hk] at hg;exact h tm hl (hg 0 (by decide)) (hg 1 (by decide)) (hg 2 (by decide)) (hg 3 (by decide))
end
section
variable{R:PV→St→Prop}(hp:∀ r a s,E.prim g r a s=none)(hf:E.fn g=some ⟨n,rs,b⟩)
include hp hf
theorem cG0(h:∀ tm,tm.length=n→Wp E b (FnR rs st R) tm { heap:=st.heap,lo:=st.heap.length })(hk:a++args++c=[]:=by rfl):ClR E (.func g a c) args st R :=
 clr_fn (hp · _ _) hf 0 (by rw[hk];rfl) (Nat.zero_le _) fun tm hl _=>h tm hl
theorem cG1(h:∀ tm,tm.length=n→tg tm 0=x0→Wp E b (FnR rs st R) tm { heap:=st.heap,lo:=st.heap.length })(hk:a++args++c=[x0]:=by rfl)(hn:1≤n:=by decide):ClR E (.func g a c) args st R :=
 clr_fn (hp · _ _) hf 1 (by rw[hk];rfl) hn fun tm hl hg=>by rw[hk] at hg;exact h tm hl (hg 0 (by decide))
theorem cG2(h:∀ tm,tm.length=n→tg tm 0=x0→tg tm 1=x1→Wp E b (FnR rs st R) tm { heap:=st.heap,lo:=st.heap.length })(hk:a++args++c=[x0,x1]:=by rfl)(hn:2≤n:=by decide):ClR E (.func g a c) args st R :=
 clr_fn (hp · _ _) hf 2 (by rw[hk];rfl) hn fun tm hl hg=>by rw[hk] at hg;exact h tm hl (hg 0 (by decide)) (hg 1 (by decide))
theorem cG3(h:∀ tm,tm.length=n→tg tm 0=x0→tg tm 1=x1→tg tm 2=x2→Wp E b (FnR rs st R) tm { heap:=st.heap,lo:=st.heap.length })(hk:a++args++c=[x0,x1,x2]:=by rfl)(hn:3≤n:=by decide):ClR E (.func g a c) args st R :=
 clr_fn (hp · _ _) hf 3 (by rw[hk];rfl) hn fun tm hl hg=>by rw[hk] at hg;exact h tm hl (hg 0 (by decide)) (hg 1 (by decide)) (hg 2 (by decide))
end
section
variable{R:CR→St→Prop}(hp:∀ r a s,E.prim g r a s=none)(hf:E.fn g=some ⟨n,rs,b⟩)
include hp hf
theorem cA1(h:∀ tm,tm.length=n→tg tm 0=x0→Wp E b (FnA rs st R) tm { heap:=st.heap,lo:=st.heap.length })(hk:a++args++c=[x0]:=by rfl)(hn:1≤n:=by decide):ClA E (.func g a c) args st R :=
 cla_fn (hp · _ _) hf 1 (by rw[hk];rfl) hn fun tm hl hg=>by rw[hk] at hg;exact h tm hl (hg 0 (by decide))
theorem cA2(h:∀ tm,tm.length=n→tg tm 0=x0→tg tm 1=x1→Wp E b (FnA rs st R) tm { heap:=st.heap,lo:=st.heap.length })(hk:a++args++c=[x0,x1]:=by rfl)(hn:2≤n:=by decide):ClA E (.func g a c) args st R :=
 cla_fn (hp · _ _) hf 2 (by rw[hk];rfl) hn fun tm hl hg=>by rw[hk] at hg;exact h tm hl (hg 0 (by decide)) (hg 1 (by decide))
end
end
theorem cR{P:Prop}{E:Env}{Q:Ex→List PV→St→Prop}{tm:List PV}{st:St}{f:Opd}{as:List Opd}{args:List PV}{dst:Option Nat}{g:Option (Nat×Bool)}{os:List DOper}{fv:PV}{R:PV→St→Prop}(ff:P)(hc:ClR E fv args st R)(h:∀ v st1,R v st1→WOps E os Q (put tm dst v) st1)
  (hw:P→wants tm g=true:=by intro ff;first|exact wants_none _|(simp only[↓reduceIte,go_sem,ff];first|done|rfl)) (hf:P→f.ev tm=fv:=by intro ff;simp only[↓reduceIte,go_sem,ff];first|done|rfl) (ha:P→evs tm as=args:=by intro ff;simp only[↓reduceIte,go_sem,ff];first|done|rfl):WOps E (⟨.call f as,dst,g⟩::os) Q tm st :=
 wops_callR (hw ff) rfl (hf ff) (by rw[ha ff];exact hc) h
theorem aP{P:Prop}{E:Env}{Q:Ex→List PV→St→Prop}{tm:List PV}{st:St}{sz:Nat}{x y:Opd}{dst:Option Nat}{os:List DOper}{m n k:Nat}{v w:PV}{cs ys:List PV}(ff:P)(ho:OwnS m st sz v n cs)
  (h:∀ v' st',OwnS m st' sz v' (n+k) (cs++ys.map PV.share)→Fr m st st'→(∀ l o,hp st l=some o→(∀ b,o ≠ .tag b)→hp st' l=some o)→WOps E os Q (put tm dst v') st')
  (hx:P→x.ev tm=v:=by intro ff;simp only[↓reduceIte,go_sem,ff];first|done|rfl) (hy:P→y.ev tm=w:=by intro ff;simp only[↓reduceIte,go_sem,ff];first|done|rfl) (hyl:w.sl=some (k,ys):=by rfl) (hm:m≤st.heap.length:=by first|omega|(simp only[len_push,len_setVar];omega)) (hl:ys.length=k*sz:=by rfl) (hc:ys.all PV.isCell=true:=by rfl) (hn:n+k≤maxList:=by simp only[maxList];omega):WOps E (⟨.append false sz x y,dst,none⟩::os) Q tm st :=
 wops_append rfl rfl (hx ff) (hy ff) ho hyl hm hl hc hn h
theorem n4{a b:Nat}(h:a<b):((a=b)=False)∧(∀ k,(a=b+k)=False)∧((a<b)=True)∧∀ k,(a<b+k)=True:=⟨neL h,neA h,ltL h,ltA h⟩
theorem wS(k:Nat)(h:k+1<9223372036854775808):IntKind.wrap .i64 ((k:Int)+1)=((k+1:Nat):Int):=wrap_nat h
section
variable{α β:Type}{f:α→β}{a1 a2 a3 a4 a5:α}{x1 x2 x3 x4 x5:β}
theorem mv1(h:[a1].map f=[x1]):f a1=x1:=by simpa using h
theorem mv2(h:[a1,a2].map f=[x1,x2]):f a1=x1∧f a2=x2:=by simpa using h
theorem mv3(h:[a1,a2,a3].map f=[x1,x2,x3]):f a1=x1∧f a2=x2∧f a3=x3:=by simpa using h
theorem mv4(h:[a1,a2,a3,a4].map f=[x1,x2,x3,x4]):f a1=x1∧f a2=x2∧f a3=x3∧f a4=x4:=by simpa using h
theorem mv5(h:[a1,a2,a3,a4,a5].map f=[x1,x2,x3,x4,x5]):f a1=x1∧f a2=x2∧f a3=x3∧f a4=x4∧f a5=x5:=by simpa using h
end
end Go.Den
end
section
namespace Go.Den
def isLoop:HObj→Bool
 | .loop .. => true
 | _=>false
def Has (h:List HObj) (L:List (Nat×HObj)):Prop:=∀ p∈L,h[p.1]? = some p.2∧isLoop p.2=false
theorem Has.ext{h h':List HObj}{L:List (Nat×HObj)}(H:Has h L)(x:HExt h h'):Has h' L:=fun p hp=>⟨x.var (H p hp).1,(H p hp).2⟩
theorem Has.loop{h:List HObj}{L:List (Nat×HObj)}{l:Nat}{o o':HObj}(H:Has h L)(hl:h[l]? = some o)(ho:isLoop o=true):Has (h.set l o') L:=fun p hp=>by
 obtain⟨h1,h2⟩:=H p hp
 refine⟨?_,h2⟩
 rw[List.getElem?_set_ne]
 ·exact h1
 ·rintro rfl;rw[hl] at h1;cases h1;rw[ho] at h2;cases h2
theorem Has.hp{st:St}{L:List (Nat×HObj)}{l:Nat}{o:HObj}(H:Has st.heap L)(hm:(l,o)∈L):hp st l=some o:=(H _ hm).1
theorem Has.nil(h:List HObj):Has h []:=fun _ hp=>by cases hp
theorem Has.cons{st:St}{L:List (Nat×HObj)}{l:Nat}{o:HObj}(h:Den.hp st l=some o)(ho:isLoop o=false)(H:Has st.heap L):Has st.heap ((l,o)::L):=fun p hp=>by
 rcases List.mem_cons.1 hp with rfl|hp
 ·exact⟨h,ho⟩
 ·exact H p hp
def LoopSt (w:Nat) (P:List HObj→Prop):Prop:=∀ h l o o',w<l→P h→h[l]? = some o→isLoop o=true→isLoop o'=true→P (h.set l o')
structure YldU {α:Type} (E:Env) (y:PV) (X:List α) (Rep:PV→α→Prop) (W:Nat→Prop) (e u w:Nat) (I:Nat→List HObj→Prop) (S:List HObj→Prop):Prop where
 stab:∀ i h h',I i h→HExt h h'→I i h'
 stabS:∀ h h',S h→HExt h h'→S h'
 loopI:∀ i,LoopSt w (I i)
 loopS:LoopSt w S
 eu:e≤u
 uw:u≤w
 Ww:∀ l,W l→l≤w
 cell:y.isCell=true
 cells:y.cells=[y]
 step:∀ i (hi:i<X.length) v st,Rep v X[i]→I i st.heap→e≤st.lo→st.lo≤st.heap.length→w<st.heap.length→∃ b st',Cl E y [v] st (.ret (.bool b)) st'∧KeepV W st.heap st'.heap∧e≤st'.lo∧st'.lo≤u∧(b=true→I (i+1) st'.heap)∧(b=false→S st'.heap)
def IterU {α:Type} (E:Env) (f:PV) (st0:St) (X:List α) (Rep:PV→α→Prop) (priv:Nat→Prop):Prop :=
 ∀ (y:PV) (W:Nat→Prop) (e u w:Nat) (I:Nat→List HObj→Prop) (S:List HObj→Prop),YldU E y X Rep W e u w I S→(∀ l,priv l→¬ W l)→I 0 st0.heap→e≤st0.lo→st0.lo≤st0.heap.length→w<st0.heap.length →
  ∃ v st',Cl E f [y] st0 (.ret v) st'∧KeepV W st0.heap st'.heap∧e≤st'.lo∧st'.lo≤st'.heap.length∧((X.length=0∧st'=st0)∨st'.lo≤u)∧(I X.length st'.heap∨S st'.heap)
theorem KeepV.kset{W:Nat→Prop}{a:List HObj}{b:St}{l:Nat}{o:HObj}(h:KeepV W a b.heap)(hl:W l∨a.length≤l):KeepV W a (setVar b l o).heap:=by
 rcases hl with hl|hl
 ·refine⟨by rw[len_setVar];exact h.1,fun x ob hx hk hn=>?_⟩
  have:=hp_setVar b l x o
  rw[if_neg (by rintro rfl;exact hn hl)] at this
  exact this.trans (h.2 x ob hx hk hn)
 ·exact h.set hl
theorem KeepV.kpush{W:Nat→Prop}{a:List HObj}{b:St}{o:HObj}(h:KeepV W a b.heap):KeepV W a (b.push o).heap:=h.trans ((HExt.push b o).keep W)
theorem KeepV.kext{W:Nat→Prop}{a b c:List HObj}(h:KeepV W a b)(x:HExt b c):KeepV W a c:=h.trans (x.keep W)
def BodyU (W:Nat→Prop) (e:Nat) (U:Nat→Prop) (s0:St) (J:List HObj→Prop) (D:Jump→List HObj→Prop):Ex→List PV→St→Prop:=fun ex _ s3 =>
 KeepV W s0.heap s3.heap∧e≤s3.lo∧s3.lo≤s3.heap.length∧U s3.lo∧match ex with
  | .normal=>J s3.heap
  | .ret=>D .ret s3.heap
  | .exit x=>D (.exit x) s3.heap
  | .panic _=>False
section
variable{E:Env}{Q:Ex→List PV→St→Prop}{tm:List PV}{st:St}
theorem wp_rangeU{α:Type}{X:List α}{Rep:PV→α→Prop}{f:Opd}{g p:Nat}{fa fc:List PV}{assign body:DCode}{priv:Nat→Prop}(W:Nat→Prop)(e u:Nat)(J:Nat→List HObj→Prop)(D:Jump→List HObj→Prop)(hf:f.ev tm = .func g fa fc)(hI:IterU E (.func g fa fc) (st.push (.loop tm [p] assign body .ready none)) X Rep priv)
  (hW:∀ l,priv l→¬ W l∧l≠st.heap.length) (hWl:∀ l,W l→l<st.heap.length) (he:e≤st.lo) (hwf:st.lo≤st.heap.length) (heu:e≤u) (hu:u≤st.heap.length)
  (stab:∀ i h h',J i h→HExt h h'→J i h') (stabD:∀ j h h',D j h→HExt h h'→D j h') (stabL:∀ i h l o o',st.heap.length≤l→J i h→h[l]? = some o→isLoop o=true→isLoop o'=true→J i (h.set l o')) (stabDL:∀ j h l o o',st.heap.length≤l→D j h→h[l]? = some o→isLoop o=true→isLoop o'=true→D j (h.set l o'))
  (init:J 0 st.heap)
  (step:∀ i (hi:i<X.length) v st1,Rep v X[i]→J i st1.heap→e≤st1.lo→st1.lo≤st1.heap.length→st.heap.length<st1.heap.length→(∃ o,hp st1 st.heap.length=some o∧isLoop o=true)→Wp E assign (fun ex tm1 st2=>ex = .normal∧HExt st1.heap st2.heap∧e≤st2.lo∧st2.lo≤st2.heap.length ∧
   ∀ o,isLoop o=true→Wp E body (BodyU W e (fun lo=>lo≤u∨u=st.heap.length) (setVar st2 st.heap.length o) (J (i+1)) D) tm1 (setVar st2 st.heap.length o)) (put tm (some p) v) st1)
  (done:∀ st',J X.length st'.heap→KeepV W st.heap st'.heap→e≤st'.lo→st'.lo≤st'.heap.length→((X.length=0∧st'.lo=st.lo)∨st'.lo≤u)→Q .normal tm st')
  (stop:∀ j st',D j st'.heap→KeepV W st.heap st'.heap→e≤st'.lo→st'.lo≤st'.heap.length→((X.length=0∧st'.lo=st.lo)∨st'.lo≤u)→Q (jumpEx j) tm st') :
  Wp E (.rangeFunc f [p] assign body) Q tm st:=by
 have hp0:hp (st.push (.loop tm [p] assign body .ready none)) st.heap.length=some (.loop tm [p] assign body .ready none):=by rw[hp_push,if_pos rfl]
 have hLn:¬ W st.heap.length:=fun h=>by have:=hWl _ h;omega
 have Y:YldU E (.yield st.heap.length) X Rep (fun l=>W l∨l=st.heap.length) e u st.heap.length (fun i h=>J i h∧h[st.heap.length]? = some (.loop tm [p] assign body .ready none)) (fun h=>∃ j,D j h∧h[st.heap.length]? = some (.loop tm [p] assign body .done (some j))):=by
  refine⟨fun i h h' ⟨h1,h2⟩ hx=>⟨stab i h h' h1 hx,by rw[hx.2 _ (List.getElem?_eq_some_iff.1 h2).1];exact h2⟩,fun h h' ⟨j,h1,h2⟩ hx=>⟨j,stabD j h h' h1 hx,by rw[hx.2 _ (List.getElem?_eq_some_iff.1 h2).1];exact h2⟩,
   fun i h l o o' hw ⟨h1,h3⟩ hl ho ho'=>⟨stabL i h l o o' (by omega) h1 hl ho ho',by rw[List.getElem?_set_ne (by omega)];exact h3⟩,fun h l o o' hw ⟨j,h1,h3⟩ hl ho ho'=>⟨j,stabDL j h l o o' (by omega) h1 hl ho ho',by rw[List.getElem?_set_ne (by omega)];exact h3⟩,
   heu,hu,fun l hl=>by rcases hl with h|h;exact Nat.le_of_lt (hWl l h);exact Nat.le_of_eq h,rfl,rfl,?_⟩
  rintro i hi v st1 hv ⟨hJ,hLp⟩ helo hwf1 hwl
  have hA:=step i hi v st1 hv hJ helo hwf1 hwl ⟨_,hLp,rfl⟩
  unfold Wp at hA
  obtain⟨N,ex,tm1,st2,hN,rfl,hx,he2,hwf2,hB⟩:=hA
  have hL2:hp st2 st.heap.length=some (.loop tm [p] assign body .ready none):=hx.hp hLp
  have hl2:=hp_lt hL2
  have hB1:=hB (.loop tm [p] assign body .busy none) rfl
  unfold Wp at hB1
  obtain⟨M,ex,tm3,st3,hM,hk3,he3,hwf3,hU3,hD⟩:=hB1
  have hL3:hp st3 st.heap.length=some (.loop tm [p] assign body .busy none):=hk3.2 _ _ (by have:=hp_setVar st2 st.heap.length st.heap.length (.loop tm [p] assign body .busy none);rw[if_pos rfl,if_pos hl2] at this;exact this) rfl hLn
  have hkeep:∀ s q,KeepV (fun l=>W l∨l=st.heap.length) st1.heap (setVar st3 st.heap.length (.loop tm [p] assign body s q)).heap:=by
   intro s q
   refine (hx.keep _).trans ⟨by have:=hk3.1;rw[len_setVar] at this ⊢;exact this,fun l o ho hk hn=>?_⟩
   have h1:=hp_setVar st3 st.heap.length l (.loop tm [p] assign body s q)
   rw[if_neg (fun h=>hn (.inr h))] at h1
   have h2:=hp_setVar st2 st.heap.length l (.loop tm [p] assign body .busy none)
   rw[if_neg (fun h=>hn (.inr h))] at h2
   exact h1.trans (hk3.2 _ _ (h2.trans ho) hk (fun h=>hn (.inl h)))
  have hlo:∀ s q,(setVar st3 st.heap.length (.loop tm [p] assign body s q)).lo≤u:=fun s q=>by rw[lo_setVar];rcases hU3 with h|h <;> omega
  have hle:∀ s q,e≤(setVar st3 st.heap.length (.loop tm [p] assign body s q)).lo:=fun s q=>by rw[lo_setVar];omega
  have hat:∀ s q,(setVar st3 st.heap.length (.loop tm [p] assign body s q)).heap[st.heap.length]? = some (.loop tm [p] assign body s q):=fun s q=>by
   have:=hp_setVar st3 st.heap.length st.heap.length (.loop tm [p] assign body s q)
   rw[if_pos rfl,if_pos (hp_lt hL3)] at this
   exact this
  have hL1':st1.heap[st.heap.length]? = some (.loop tm [p] assign body .ready none):=hLp
  have hL2':st2.heap[st.heap.length]? = some (.loop tm [p] assign body .ready none):=hL2
  have hL3':st3.heap[st.heap.length]? = some (.loop tm [p] assign body .busy none):=hL3
  have mk:∀ (b:Bool) (s:LSt) (q:Option Jump),(∀ n,max N M≤n→round (run E n) st.heap.length [v] st1=some (.ret (.bool b),setVar st3 st.heap.length (.loop tm [p] assign body s q)))→Cl E (.yield st.heap.length) [v] st1 (.ret (.bool b)) (setVar st3 st.heap.length (.loop tm [p] assign body s q)):=by
   intro b s q h
   refine⟨max N M+1,fun n hn=>?_⟩
   obtain⟨m,rfl⟩:∃ m,n=m+1:=⟨n - 1,by omega⟩
   exact h m (by omega)
  cases ex with
  | normal =>
   refine⟨true,_,mk true .ready none (fun n hn=>?_),hkeep _ _,hle _ _,hlo _ _,fun _=>⟨stabL _ _ _ _ _ (Nat.le_refl _) hD hL3' rfl rfl,hat _ _⟩,fun h=>by cases h⟩
   simp only[round,hL1',setParams_one,hN n (by omega),setLoop,hL2',id_eq,hM n (by omega),hL3',Option.map_some]
  | ret =>
   refine⟨false,_,mk false .done (some .ret) (fun n hn=>?_),hkeep _ _,hle _ _,hlo _ _,(fun h=>by cases h),fun _=>⟨.ret,stabDL _ _ _ _ _ (Nat.le_refl _) hD hL3' rfl rfl,hat _ _⟩⟩
   simp only[round,hL1',setParams_one,hN n (by omega),setLoop,hL2',id_eq,hM n (by omega),hL3',Option.map_some]
  | exit x =>
   refine⟨false,_,mk false .done (some (.exit x)) (fun n hn=>?_),hkeep _ _,hle _ _,hlo _ _,(fun h=>by cases h),fun _=>⟨.exit x,stabDL _ _ _ _ _ (Nat.le_refl _) hD hL3' rfl rfl,hat _ _⟩⟩
   simp only[round,hL1',setParams_one,hN n (by omega),setLoop,hL2',id_eq,hM n (by omega),hL3',Option.map_some]
  | panic v=>exact hD.elim
 obtain⟨v,st1,⟨N,hN⟩,hk,he1,hwf1,hlo1,hfin⟩:=hI (.yield st.heap.length) (fun l=>W l∨l=st.heap.length) e u st.heap.length _ _ Y
  (fun l hl h=>by obtain⟨h1,h2⟩:=hW l hl;rcases h with h|h;exact h1 h;exact h2 h) ⟨stab 0 _ _ init (.push st _),hp0⟩ he (by rw[lo_push,len_push];omega) (by rw[len_push];omega)
 have hpush:({ heap:=st.heap++[.loop tm [p] assign body .ready none],lo:=st.lo }:St)=st.push (.loop tm [p] assign body .ready none):=rfl
 have hkeep:∀ s q,KeepV W st.heap (setVar st1 st.heap.length (.loop tm [p] assign body s q)).heap:=by
  intro s q
  have h1:=hk.1
  rw[len_push] at h1
  refine⟨by rw[len_setVar];omega,fun l o ho hko hn=>?_⟩
  have hl:=(List.getElem?_eq_some_iff.1 ho).1
  have h2:=hk.2 l o (by have:=hp_push st (.loop tm [p] assign body .ready none) l;rw[if_neg (by omega)] at this;exact this.trans ho) hko (by rintro (h|h);exact hn h;omega)
  have:=hp_setVar st1 st.heap.length l (.loop tm [p] assign body s q)
  rw[if_neg (by omega)] at this
  exact this.trans h2
 have hlen:st.heap.length<st1.heap.length:=by have:=hk.1;rw[len_push] at this;omega
 have hlo:∀ s q,e≤(setVar st1 st.heap.length (.loop tm [p] assign body s q)).lo:=fun s q=>by rw[lo_setVar];omega
 have hwfs:∀ s q,(setVar st1 st.heap.length (.loop tm [p] assign body s q)).lo≤(setVar st1 st.heap.length (.loop tm [p] assign body s q)).heap.length:=fun s q=>by rw[lo_setVar,len_setVar];omega
 have hup:∀ s q,(X.length=0∧(setVar st1 st.heap.length (.loop tm [p] assign body s q)).lo=st.lo)∨(setVar st1 st.heap.length (.loop tm [p] assign body s q)).lo≤u:=fun s q=>by
  rcases hlo1 with ⟨h1,h2⟩|h1
  ·left;refine⟨h1,?_⟩;rw[lo_setVar,h2,lo_push];omega
  ·right;rw[lo_setVar];omega
 rcases hfin with ⟨hJ,hL⟩|⟨j,hD,hL⟩
 ·refine .of_step N (fun n hn=>?_) (done _ (stabL _ _ _ _ _ (Nat.le_refl _) hJ hL rfl rfl) (hkeep .over none) (hlo _ _) (hwfs _ _) (hup _ _))
  simp only[stepCode,hf,hpush,hN n hn,setLoop,hL,id_eq]
 ·have hq:=stop j _ (stabDL _ _ _ _ _ (Nat.le_refl _) hD hL rfl rfl) (hkeep .over (some j)) (hlo _ _) (hwfs _ _) (hup _ _)
  cases j with
  | ret =>
   refine .of_step N (fun n hn=>?_) hq
   simp only[stepCode,hf,hpush,hN n hn,setLoop,hL,id_eq,jumpEx]
  | exit i =>
   refine .of_step N (fun n hn=>?_) hq
   simp only[stepCode,hf,hpush,hN n hn,setLoop,hL,id_eq,jumpEx]
theorem wp_rangeV{α:Type}{X:List α}{Rep:PV→α→Prop}{f:Opd}{g p d:Nat}{fa fc:List PV}{body:DCode}{priv:Nat→Prop}(ws:List Nat)(e:Nat)(R:Nat→List (Nat×HObj)→Prop)(D:Jump→List (Nat×HObj)→Prop)(hf:f.ev tm = .func g fa fc)(hI:∀ o,IterU E (.func g fa fc) (st.push o) X Rep priv)
  (hpl:p<tm.length) (hW:∀ l,priv l→l∉ws∧l≠st.heap.length) (hWl:∀ l∈ws,l<st.heap.length) (he:e≤st.lo) (hwf:st.lo≤st.heap.length)
  (init:∃ L,Has st.heap L∧R 0 L)
  (step:∀ i (hi:i<X.length) v s0 L,Rep v X[i]→Has s0.heap L→R i L→e≤s0.lo→s0.lo≤s0.heap.length→st.heap.length<s0.heap.length→Wp E body (BodyU (fun l=>l∈ws) e (fun _=>True) s0 (fun h=>∃ L,Has h L∧R (i+1) L) (fun j h=>∃ L,Has h L∧D j L)) (put (put tm (some p) v) (some d) v) s0)
  (done:∀ st' L,Has st'.heap L→R X.length L→KeepV (fun l=>l∈ws) st.heap st'.heap→e≤st'.lo→st'.lo≤st'.heap.length→Q .normal tm st')
  (stop:∀ j st' L,Has st'.heap L→D j L→KeepV (fun l=>l∈ws) st.heap st'.heap→e≤st'.lo→st'.lo≤st'.heap.length→Q (jumpEx j) tm st') :
  Wp E (.rangeFunc f [p] (.region [⟨.val (.t p),some d,none⟩]) body) Q tm st:=by
 refine wp_rangeU (fun l=>l∈ws) e st.heap.length (fun i h=>∃ L,Has h L∧R i L) (fun j h=>∃ L,Has h L∧D j L) hf (hI _) hW hWl he hwf (by omega) (Nat.le_refl _)
  (fun i h h' ⟨L,h1,h2⟩ hx=>⟨L,h1.ext hx,h2⟩) (fun j h h' ⟨L,h1,h2⟩ hx=>⟨L,h1.ext hx,h2⟩) (fun i h l o o' _ ⟨L,h1,h2⟩ hl ho _=>⟨L,h1.loop hl ho,h2⟩) (fun j h l o o' _ ⟨L,h1,h2⟩ hl ho _=>⟨L,h1.loop hl ho,h2⟩) init ?_
  (fun st' ⟨L,h1,h2⟩ hk hle hw _=>done st' L h1 h2 hk hle hw) (fun j st' ⟨L,h1,h2⟩ hk hle hw _=>stop j st' L h1 h2 hk hle hw)
 rintro i hi v st1 hv ⟨L,hH,hR⟩ he1 hwf1 hlt ⟨ol,hol,hol2⟩
 apply wp_region_ops
 refine wops_one rfl (fun rec=>by rw[op_val,ev_t,tg_same hpl]) ?_
 apply wops_nil
 refine⟨rfl,.refl _,he1,hwf1,fun o ho=>?_⟩
 have hHs:Has (setVar st1 st.heap.length o).heap L:=hH.loop hol hol2
 refine (step i hi v (setVar st1 st.heap.length o) L hv hHs hR (by rw[lo_setVar];omega) (by rw[lo_setVar,len_setVar];omega) (by rw[len_setVar];exact hlt)).mono ?_
 rintro ex tm3 s3 ⟨k1,k2,k3,_,k4⟩
 exact⟨k1,k2,k3,.inr rfl,k4⟩
theorem wp_rangeB{α:Type}{X:List α}{Rep:PV→α→Prop}{f:Opd}{g p d:Nat}{fa fc z:List PV}{body:DCode}{priv:Nat→Prop}(ws:List Nat)(e:Nat)(R:Nat→List (Nat×HObj)→Prop)(D:Jump→List (Nat×HObj)→Prop)(hf:f.ev tm = .func g fa fc)(hI:∀ o,IterU E (.func g fa fc) (st.push o) X Rep priv)(hRep:∀ v x,Rep v x→v.cells=[v]∧v.isCell=true)(hz:z.length=1)
  (hpl:p<tm.length) (hdl:d<tm.length) (hpd:p≠d) (hW:∀ l,priv l→l∉ws∧l≠st.heap.length) (hWl:∀ l∈ws,l<st.heap.length) (he:e≤st.lo) (hwf:st.lo≤st.heap.length)
  (init:∃ L,Has st.heap L∧R 0 L)
  (step:∀ i (hi:i<X.length) v s0 L p0,Rep v X[i]→Has s0.heap L→R i L→hp s0 p0=some (.var [v])→st.heap.length<p0→e≤s0.lo→s0.lo≤s0.heap.length→Wp E body (BodyU (fun l=>l∈ws) e (fun _=>True) s0 (fun h=>∃ L,Has h L∧R (i+1) L) (fun j h=>∃ L,Has h L∧D j L)) (put (put (put tm (some p) v) (some d) (.ptr p0 0)) none undef) s0)
  (done:∀ st' L,Has st'.heap L→R X.length L→KeepV (fun l=>l∈ws) st.heap st'.heap→e≤st'.lo→st'.lo≤st'.heap.length→Q .normal tm st')
  (stop:∀ j st' L,Has st'.heap L→D j L→KeepV (fun l=>l∈ws) st.heap st'.heap→e≤st'.lo→st'.lo≤st'.heap.length→Q (jumpEx j) tm st') :
  Wp E (.rangeFunc f [p] (.region [⟨.alloc z,some d,none⟩,⟨.store 1 (.t d) (.t p),none,none⟩]) body) Q tm st:=by
 refine wp_rangeU (fun l=>l∈ws) e st.heap.length (fun i h=>∃ L,Has h L∧R i L) (fun j h=>∃ L,Has h L∧D j L) hf (hI _) hW hWl he hwf (by omega) (Nat.le_refl _)
  (fun i h h' ⟨L,h1,h2⟩ hx=>⟨L,h1.ext hx,h2⟩) (fun j h h' ⟨L,h1,h2⟩ hx=>⟨L,h1.ext hx,h2⟩) (fun i h l o o' _ ⟨L,h1,h2⟩ hl ho _=>⟨L,h1.loop hl ho,h2⟩) (fun j h l o o' _ ⟨L,h1,h2⟩ hl ho _=>⟨L,h1.loop hl ho,h2⟩) init ?_
  (fun st' ⟨L,h1,h2⟩ hk hle hw _=>done st' L h1 h2 hk hle hw) (fun j st' ⟨L,h1,h2⟩ hk hle hw _=>stop j st' L h1 h2 hk hle hw)
 rintro i hi v st1 hv ⟨L,hH,hR⟩ he1 hwf1 hlt ⟨ol,hol,hol2⟩
 obtain⟨hc1,hc2⟩:=hRep v _ hv
 apply wp_region_ops
 refine wops_one rfl (fun rec=>op_alloc) ?_
 have hs:hp (st1.push (.var z)) st1.heap.length=some (.var z):=by rw[hp_push,if_pos rfl]
 refine wops_one (v:=undef) (st1:=setVar (st1.push (.var z)) st1.heap.length (.var [v])) rfl (fun rec=>?_) ?_
 ·have e1:z.drop 1=[]:=List.drop_eq_nil_of_le (by omega)
  rw[op_store,ev_t,ev_t,tg_same (by rw[put_len];exact hdl),tg_ne (fun h=>hpd h.symm),tg_same hpl,stP,hs]
  simp only[hc1,splice,List.take_zero,List.nil_append,List.length_cons,List.length_nil,Nat.zero_add,e1,List.append_nil,hz,Nat.le_refl,List.all_cons,hc2,List.all_nil,Bool.and_self,and_self,if_true]
 apply wops_nil
 have hx:HExt st1.heap (setVar (st1.push (.var z)) st1.heap.length (.var [v])).heap:=(((Fr.refl st1.heap.length st1).push (Nat.le_refl _)).setVar (Nat.le_refl _)).hext
 refine⟨rfl,hx,by rw[lo_setVar,lo_push];omega,by rw[lo_setVar,len_setVar,lo_push,len_push];omega,fun o ho=>?_⟩
 refine (step i hi v (setVar (setVar (st1.push (.var z)) st1.heap.length (.var [v])) st.heap.length o) L st1.heap.length hv ((hH.ext hx).loop (hx.hp hol) hol2) hR ?_ hlt (by rw[lo_setVar,lo_setVar,lo_push];omega) (by rw[lo_setVar,len_setVar,lo_setVar,len_setVar,lo_push,len_push];omega)).mono ?_
 ·rw[hp_setVar,if_neg (by omega),hp_setVar,if_pos rfl,if_pos (by rw[len_push];omega)]
 ·rintro ex tm3 s3 ⟨k1,k2,k3,_,k4⟩
  exact⟨k1,k2,k3,.inr rfl,k4⟩
end
def OwnP (m sz:Nat) (v:PV) (n:Nat) (cs:List PV):Prop:=cs.length=n*sz∧((n=0∧v = .nilslice)∨∃ t,v = .slice (.tag t sz) n cs∧m≤t)
def tagL:PV→List (Nat×HObj)
 | .slice (.tag t _) _ _=>[(t,.tag true)]
 | _=>[]
theorem OwnP.own{m sz n:Nat}{v:PV}{cs:List PV}{st:St}(h:OwnP m sz v n cs)(H:Has st.heap (tagL v)):OwnS m st sz v n cs:=⟨h.1,h.2.imp id fun ⟨t,h1,h2⟩=>⟨t,h1,h2,by subst h1;exact H.hp (by simp[tagL])⟩⟩
theorem OwnS.p{m sz n:Nat}{v:PV}{cs:List PV}{st:St}(h:OwnS m st sz v n cs):OwnP m sz v n cs∧Has st.heap (tagL v):=by
 obtain⟨h0,⟨h1,h2⟩|⟨t,h1,h2,h3⟩⟩:=h
 ·subst h2;exact⟨⟨h0,.inl ⟨h1,rfl⟩⟩,.nil _⟩
 ·subst h1;exact⟨⟨h0,.inr ⟨t,rfl,h2⟩⟩,.cons h3 rfl (.nil _)⟩
theorem OwnP.nil{m sz:Nat}:OwnP m sz .nilslice 0 []:=⟨by simp,.inl ⟨rfl,rfl⟩⟩
theorem Has.left{h:List HObj}{L M:List (Nat×HObj)}(H:Has h (L++M)):Has h L:=fun p hp=>H p (List.mem_append.2 (.inl hp))
theorem Has.right{h:List HObj}{L M:List (Nat×HObj)}(H:Has h (L++M)):Has h M:=fun p hp=>H p (List.mem_append.2 (.inr hp))
theorem Has.app{h:List HObj}{L M:List (Nat×HObj)}(H:Has h L)(H':Has h M):Has h (L++M):=fun p hp=>by
 rcases List.mem_append.1 hp with h1|h1
 ·exact H p h1
 ·exact H' p h1
theorem keep_app{W:Nat→Prop}{a b:St}(h:∀ l o,hp a l=some o→(∀ b,o ≠ .tag b)→hp b l=some o)(hl:a.heap.length≤b.heap.length):KeepV W a.heap b.heap:=⟨hl,fun l o ho hk _=>h l o ho (by rintro b rfl;cases hk)⟩
end Go.Den
end

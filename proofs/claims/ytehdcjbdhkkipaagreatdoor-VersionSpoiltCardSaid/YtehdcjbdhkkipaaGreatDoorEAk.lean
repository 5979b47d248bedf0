/- Part of the proofs of laws of the package version. Texts: DenOpL, DenLoop. -/
import Derived.Test.YtehdcjbdhkkipaaGreatDoorEAj
set_option linter.unusedSimpArgs false
set_option linter.unusedVariables false
section
namespace Go.Den
def PV.sl:PV→Option (Nat×List PV)
 | .nilslice=>some (0,[])
 | .slice _ n cs=>some (n,cs)
 | _=>none
def PV.slen:PV→Option Nat
 | .nilslice=>some 0
 | .slice _ n _=>some n
 | .hslice _ _ n=>some n
 | _=>none
structure SlOf {α:Type} (sz:Nat) (enc:α→List PV) (F:PV) (l:List α):Prop where
 sl:F.sl=some (l.length,l.flatMap enc)
 len:∀ a∈l,(enc a).length=sz
theorem sl_cells {F:PV} {r:Nat×List PV} (h:F.sl=some r):F.cells=[F]:=by cases F <;> first|rfl|cases h
theorem sl_isCell {F:PV} {r:Nat×List PV} (h:F.sl=some r):F.isCell=true:=by cases F <;> first|rfl|cases h
theorem sl_slen {F:PV} {n:Nat} {cs:List PV} (h:F.sl=some (n,cs)):F.slen=some n:=by
 cases F <;> simp_all [PV.sl,PV.slen]
theorem SlOf.cells {α:Type} {sz:Nat} {enc:α→List PV} {F:PV} {l:List α} (h:SlOf sz enc F l):F.cells=[F]:=sl_cells h.sl
theorem SlOf.isCell {α:Type} {sz:Nat} {enc:α→List PV} {F:PV} {l:List α} (h:SlOf sz enc F l):F.isCell=true:=sl_isCell h.sl
theorem SlOf.slen {α:Type} {sz:Nat} {enc:α→List PV} {F:PV} {l:List α} (h:SlOf sz enc F l):F.slen=some l.length:=sl_slen h.sl
theorem SlOf.nil {α:Type} {sz:Nat} {enc:α→List PV}:SlOf sz enc .nilslice ([]:List α):=⟨rfl,fun _ h=>by cases h⟩
theorem flatMap_len {α:Type} {sz:Nat} {enc:α→List PV}:∀ {l:List α},(∀ a∈l,(enc a).length=sz)→(l.flatMap enc).length=l.length*sz
 | [],_=>by simp
 | a::l,h=>by
  rw [List.flatMap_cons,List.length_append,h a (by simp),flatMap_len (fun b hb=>h b (by simp [hb])),List.length_cons,Nat.succ_mul]
  omega
theorem flatMap_drop {α:Type} {sz:Nat} {enc:α→List PV}:∀ {l:List α} (i:Nat),(∀ a∈l,(enc a).length=sz)→(l.flatMap enc).drop (i*sz)=(l.drop i).flatMap enc
 | l,0,_=>by simp
 | [],i+1,_=>by simp
 | a::l,i+1,h=>by
  rw [List.flatMap_cons,List.drop_succ_cons,Nat.succ_mul,Nat.add_comm,← List.drop_drop,← h a (by simp),List.drop_left,h a (by simp)]
  exact flatMap_drop i (fun b hb=>h b (by simp [hb]))
theorem flatMap_take {α:Type} {sz:Nat} {enc:α→List PV}:∀ {l:List α} (i:Nat),(∀ a∈l,(enc a).length=sz)→(l.flatMap enc).take (i*sz)=(l.take i).flatMap enc
 | l,0,_=>by simp
 | [],i+1,_=>by simp
 | a::l,i+1,h=>by
  rw [List.flatMap_cons,List.take_succ_cons,Nat.succ_mul,Nat.add_comm,List.flatMap_cons,← h a (by simp),List.take_length_add_append,h a (by simp)]
  rw [flatMap_take i (fun b hb=>h b (by simp [hb]))]
theorem SlOf.at {α:Type} {sz:Nat} {enc:α→List PV} {F:PV} {l:List α} (h:SlOf sz enc F l) {i:Nat} (hi:i<l.length):((l.flatMap enc).drop (i*sz)).take sz=enc l[i]:=by
 rw [flatMap_drop i h.len,List.drop_eq_getElem_cons hi,List.flatMap_cons]
 have:=h.len l[i] (List.getElem_mem hi)
 rw [List.take_append_of_le_length (by omega),List.take_of_length_le (by omega)]
section
variable {E:Env} {rec:Rec} {tm:List PV} {st:St}
theorem op_val {x:Opd}:stepOp E rec tm st (.val x)=some (.val (x.ev tm) st):=rfl
theorem op_pick {c a b:Opd}:stepOp E rec tm st (.pick c a b)=match c.ev tm with
  | .bool t=>some (.val (if t then a.ev tm else b.ev tm) st)
  | _=>none:=rfl
theorem op_box {x:Opd}:stepOp E rec tm st (.box x)=some (.val (.ptr st.heap.length 0) (st.push (.var (x.ev tm).cells))):=rfl
theorem op_alloc {z:List PV}:stepOp E rec tm st (.alloc z)=some (.val (.ptr st.heap.length 0) (st.push (.var z))):=rfl
theorem op_build {z:List PV} {ps:List (Nat×Nat×Opd)}:stepOp E rec tm st (.build z ps)=match fillD tm z ps with
  | some cs=>some (.val (.agg cs) st)
  | none=>none:=rfl
theorem op_buildSlice {sz n:Nat} {z:List PV} {ps:List (Nat×Nat×Opd)}:stepOp E rec tm st (.buildSlice sz n z ps)=match fillD tm z ps with
  | some cs=>some (.val (.slice (.tag st.heap.length sz) n (cs.map PV.share)) (st.push (.tag true)))
  | none=>none:=rfl
theorem op_buildSliceS {sz n:Nat} {z:List PV} {ps:List (Nat×Nat×Opd)}:stepOp E rec tm st (.buildSliceS sz n z ps)=match fillD tm z ps with
  | some cs=>some (.val (.slice .shared n (cs.map PV.share)) st)
  | none=>none:=rfl
def ldR (agg:Bool) (sz:Nat) (a:PV) (st:St):Option OpR :=
 match a with
 | .ptr l off=>match hp st l with
  | some (.var cs)=>if off≤cs.length then (rdPart agg sz (cs.drop off)).map (.val · st) else none
  | _=>none
 | .cptr cs=>(rdPart agg sz cs).map (.val · st)
 | .aptr l off=>match hp st l with
  | some (.arr cs)=>if off≤cs.length then (rdPart agg sz (cs.drop off)).map (.val · st) else none
  | _=>none
 | _=>none
theorem op_load {agg:Bool} {sz:Nat} {a:Opd}:stepOp E rec tm st (.load agg sz a)=ldR agg sz (a.ev tm) st:=rfl
theorem ldR_cptr {agg:Bool} {sz:Nat} {cs:List PV}:ldR agg sz (.cptr cs) st=(rdPart agg sz cs).map (.val · st):=rfl
theorem ldR_aptr {agg:Bool} {sz l off:Nat} {cs:List PV} (h:hp st l=some (.arr cs)):ldR agg sz (.aptr l off) st=if off≤cs.length then (rdPart agg sz (cs.drop off)).map (.val · st) else none:=by
 simp only [ldR,h]
def stR (sz:Nat) (a x:PV) (st:St):Option OpR :=
 match a with
 | .ptr l off=>match hp st l with
  | some (.var cs)=>if x.cells.length=sz∧off+sz≤cs.length∧x.cells.all PV.isCell=true then some (.val undef (setVar st l (.var (splice cs off x.cells)))) else none
  | _=>none
 | .aptr l off=>match hp st l with
  | some (.arr cs)=>if x.cells.length=sz∧off+sz≤cs.length∧x.cells.all PV.isCell=true then some (.val undef (setVar st l (.arr (splice cs off x.cells)))) else none
  | _=>none
 | _=>none
theorem op_store {sz:Nat} {a x:Opd}:stepOp E rec tm st (.store sz a x)=stR sz (a.ev tm) (x.ev tm) st:=rfl
theorem op_nilCheck {x:Opd}:stepOp E rec tm st (.nilCheck x)=match x.ev tm with
  | .ptr l o=>some (.val (.ptr l o) st)
  | .cptr cs=>some (.val (.cptr cs) st)
  | .func f a c=>some (.val (.func f a c) st)
  | _=>none:=rfl
theorem op_binI {op:BinOp} {x y:Opd}:stepOp E rec tm st (.binI op x y)=match x.ev tm,y.ev tm with
  | .int k a,.int k' b=>if k=k' then (binI op k a b).map (.val · st) else none
  | _,_=>none:=rfl
theorem op_binS {op:BinOp} {x y:Opd}:stepOp E rec tm st (.binS op x y)=match x.ev tm,y.ev tm with
  | .str a,.str b=>(binS op a b).map (.val · st)
  | _,_=>none:=rfl
theorem op_binB {n:Bool} {x y:Opd}:stepOp E rec tm st (.binB n x y)=match x.ev tm,y.ev tm with
  | .bool a,.bool b=>some (.val (.bool (if n then !(a==b) else a==b)) st)
  | _,_=>none:=rfl
theorem op_eqAgg {n:Bool} {k:Nat} {x y:Opd}:stepOp E rec tm st (.eqAgg n k x y)=match x.ev tm,y.ev tm with
  | .agg a,.agg b=>match ints a,ints b with
   | some l,some m=>if l.length=k∧m.length=k then some (.val (.bool (if n then !(l==m) else l==m)) st) else none
   | _,_=>none
  | _,_=>none:=rfl
theorem op_isNilS {n:Bool} {x:Opd}:stepOp E rec tm st (.isNilS n x)=match x.ev tm with
  | .nilslice=>some (.val (.bool (!n)) st)
  | .slice _ _ _=>some (.val (.bool n) st)
  | _=>none:=rfl
theorem op_not {x:Opd}:stepOp E rec tm st (.not x)=match x.ev tm with
  | .bool b=>some (.val (.bool !b) st)
  | _=>none:=rfl
theorem op_neg {x:Opd}:stepOp E rec tm st (.neg x)=match x.ev tm with
  | .int k n=>some (.val (.int k (k.wrap (0 - n))) st)
  | _=>none:=rfl
theorem op_toInt {k:IntKind} {x:Opd}:stepOp E rec tm st (.toInt k x)=match x.ev tm with
  | .int _ n=>some (.val (.int k (k.wrap n)) st)
  | _=>none:=rfl
theorem op_mkIface {t:Nat} {x:Opd}:stepOp E rec tm st (.mkIface t x)=some (.val (.iface t (x.ev tm)) st):=rfl
theorem op_mkFunc {f:Nat} {a c:List Opd}:stepOp E rec tm st (.mkFunc f a c)=some (.val (.func f (evs tm a) (evs tm c)) st):=rfl
theorem op_mkMap:stepOp E rec tm st .mkMap=some (.val (.map st.heap.length) (st.push (.map []))):=rfl
theorem op_fieldAddr {off:Nat} {x:Opd}:stepOp E rec tm st (.fieldAddr off x)=match x.ev tm with
  | .ptr l o=>some (.val (.ptr l (o+off)) st)
  | .aptr l o=>some (.val (.aptr l (o+off)) st)
  | .cptr cs=>if off≤cs.length then some (.val (.cptr (cs.drop off)) st) else none
  | _=>none:=rfl
theorem op_part {agg:Bool} {sz off:Nat} {x:Opd}:stepOp E rec tm st (.part agg sz off x)=match x.ev tm with
  | .agg cs=>if off≤cs.length then (rdPart agg sz (cs.drop off)).map (.val · st) else none
  | _=>none:=rfl
theorem op_extract {x:Opd} {i:Nat}:stepOp E rec tm st (.extract x i)=match x.ev tm with
  | .tuple vs=>(vs[i]?).map (.val · st)
  | _=>none:=rfl
theorem op_len {x:Opd}:stepOp E rec tm st (.len x)=match (x.ev tm).slen with
  | some n=>some (.val (.int .i64 n) st)
  | none=>none:=by
 simp only [stepOp]
 cases x.ev tm <;> rfl
theorem op_lenStr {x:Opd}:stepOp E rec tm st (.lenStr x)=match x.ev tm with
  | .str s=>some (.val (.int .i64 s.size) st)
  | _=>none:=rfl
theorem op_minmax {mx:Bool} {x:Opd} {ys:List Opd}:stepOp E rec tm st (.minmax mx x ys)=(mm mx (x.ev tm) (evs tm ys)).map (.val · st):=rfl
theorem op_indexArr {agg:Bool} {len sz:Nat} {x i:Opd}:stepOp E rec tm st (.indexArr agg len sz x i)=match x.ev tm,i.ev tm with
  | .agg cs,.int _ i=>if 0≤i∧i<len∧i.toNat*sz≤cs.length then (rdPart agg sz (cs.drop (i.toNat*sz))).map (.val · st) else none
  | _,_=>none:=rfl
end
section
variable {E:Env} {Q:Ex→List PV→St→Prop} {QD:Ex→List PV→St→List Foot→Prop} {tm:List PV} {st:St}
theorem step_index {α:Type} {rec:Rec} {sz:Nat} {x i:Opd} {enc:α→List PV} {F:PV} {l:List α} {k:IntKind} {j:Int} (hx:x.ev tm=F) (hF:SlOf sz enc F l) (hi:i.ev tm = .int k j) (h0:0≤j) (hj:j.toNat<l.length):stepOp E rec tm st (.indexAddr sz x i)=some (.val (.cptr (enc l[j.toNat])) st):=by
 have h1:=hF.sl
 simp only [stepOp,hx,hi]
 cases F <;> simp only [PV.sl,Option.some.injEq,Prod.mk.injEq,reduceCtorEq] at h1
 ·obtain ⟨rfl,rfl⟩:=h1
  dsimp only
  rw [if_pos ⟨h0,by omega⟩,hF.at hj]
 ·rw [← h1.1] at hj;simp at hj
theorem step_slice {α:Type} {rec:Rec} {sz:Nat} {x:Opd} {lo hi:Option Opd} {enc:α→List PV} {F:PV} {l:List α} {a b:Nat} (hx:x.ev tm=F) (hF:SlOf sz enc F l) (hb:bound tm hi l.length=some b) (ha:bound tm lo 0=some a) (hab:a≤b) (hbl:b≤l.length) :
  ∃ F',stepOp E rec tm st (.slice sz x lo hi)=some (.val F' st)∧SlOf sz enc F' ((l.drop a).take (b - a)):=by
 have h1:=hF.sl
 simp only [stepOp,hx]
 have hl:∀ e∈(l.drop a).take (b - a),(enc e).length=sz:=fun e he=>hF.len e (List.mem_of_mem_drop (List.mem_of_mem_take he))
 cases F <;> simp only [PV.sl,Option.some.injEq,Prod.mk.injEq,reduceCtorEq] at h1
 ·rename_i o n cs
  obtain ⟨rfl,rfl⟩:=h1
  simp only [hb,ha]
  rw [if_pos ⟨hab,hbl,flatMap_len hF.len⟩]
  refine ⟨_,rfl,?_,hl⟩
  simp only [PV.sl]
  rw [flatMap_drop a hF.len,flatMap_take (b - a) (fun e he=>hF.len e (List.mem_of_mem_drop he))]
  congr 2
  simp;omega
 ·have:l=[]:=by simpa using h1.1.symm
  subst this
  simp only [List.length_nil,Nat.le_zero] at hbl
  subst hbl
  have:a=0:=by omega
  subst this
  simp only [List.length_nil] at hb
  simp only [hb,ha]
  exact ⟨_,rfl,rfl,hl⟩
theorem wopsD_pure' {o:DOp} {dst:Option Nat} {g:Option (Nat×Bool)} {os:List DOper} {b:Bool} {v:PV} (hlo:st.lo≤st.heap.length) (hw:wants tm g=b) (hb:b=true) (ho:∀ rec (st1:St),st1.heap=st.heap→(∀ l,hp st1 l=hp st l)→stepOp E rec tm st1 o=some (.val v st1))
  (h:WOpsD E os (fun e tm' st' fs=>QD e tm' st' (footOf tm o st.heap.length st.heap.length::fs)) (put tm dst v) st):WOpsD E (⟨o,dst,g⟩::os) QD tm st :=
 wopsD_pure hlo (hw.trans hb) (fun rec st1 h1=>ho rec st1 h1 (fun l=>by simp only [hp,h1])) h
theorem wopsD_push {o:DOp} {dst:Option Nat} {g:Option (Nat×Bool)} {os:List DOper} {b:Bool} {v:PV} {ob:HObj} (hlo:st.lo≤st.heap.length) (hw:wants tm g=b) (hb:b=true) (ho:∀ rec (st1:St),st1.heap=st.heap→stepOp E rec tm st1 o=some (.val v (st1.push ob)))
  (h:WOpsD E os (fun e tm' st' fs=>QD e tm' st' (footOf tm o st.heap.length st.heap.length::fs)) (put tm dst v) (st.push ob)):WOpsD E (⟨o,dst,g⟩::os) QD tm st:=by
 refine wopsD_cons (hw.trans hb) 0 (fun n _=>ho _ _ rfl) ?_
 have:({ heap:=((⟨st.heap,st.heap.length⟩:St).push ob).heap,lo:=min st.lo ((⟨st.heap,st.heap.length⟩:St).push ob).lo }:St)=st.push ob:=by
  simp only [St.push,Nat.min_eq_left hlo]
 rw [this]
 exact h
theorem wopsD_set {o:DOp} {dst:Option Nat} {g:Option (Nat×Bool)} {os:List DOper} {b:Bool} {v:PV} {l:Nat} {ob:HObj} (hlo:st.lo≤st.heap.length) (hl:l≤st.heap.length) (hw:wants tm g=b) (hb:b=true) (ho:∀ rec (st1:St),st1.heap=st.heap→(∀ l,hp st1 l=hp st l)→stepOp E rec tm st1 o=some (.val v (setVar st1 l ob)))
  (h:WOpsD E os (fun e tm' st' fs=>QD e tm' st' (footOf tm o st.heap.length l::fs)) (put tm dst v) (setVar st l ob)):WOpsD E (⟨o,dst,g⟩::os) QD tm st:=by
 refine wopsD_cons (hw.trans hb) 0 (fun n _=>ho _ _ rfl (fun _=>rfl)) ?_
 have:({ heap:=(setVar (⟨st.heap,st.heap.length⟩:St) l ob).heap,lo:=min st.lo (setVar (⟨st.heap,st.heap.length⟩:St) l ob).lo }:St)=setVar st l ob:=by
  simp only [setVar,Nat.min_eq_right hl]
 rw [this]
 have h2:(setVar (⟨st.heap,st.heap.length⟩:St) l ob).lo=l:=by simp only [setVar,Nat.min_eq_right hl]
 rw [h2]
 exact h
theorem wopsD_call {f:Opd} {args:List Opd} {dst:Option Nat} {g:Option (Nat×Bool)} {os:List DOper} {b:Bool} {fv v:PV} (hlo:st.lo≤st.heap.length) (hw:wants tm g=b) (hb:b=true) (hf:f.ev tm=fv) (hc:∀ st1:St,st1.heap=st.heap→Cl E fv (evs tm args) st1 (.ret v) st1)
  (h:WOpsD E os (fun e tm' st' fs=>QD e tm' st' (.quiet::fs)) (put tm dst v) st):WOpsD E (⟨.call f args,dst,g⟩::os) QD tm st:=by
 obtain ⟨N,hN⟩:=hc { st with lo:=st.heap.length } rfl
 refine wopsD_cons (v:=v) (st1:={ st with lo:=st.heap.length }) (hw.trans hb) N (fun n hn=>?_) ?_
 ·simp only [stepOp,hf,hN n hn]
 ·simp only [Nat.min_eq_left hlo,footOf,Nat.le_refl,if_true]
  exact h
theorem wops_call' {f:Opd} {args:List Opd} {dst:Option Nat} {g:Option (Nat×Bool)} {os:List DOper} {b:Bool} {fv v:PV} {st1:St} (hw:wants tm g=b) (hb:b=true) (hf:f.ev tm=fv) (hc:Cl E fv (evs tm args) st (.ret v) st1) (h:WOps E os Q (put tm dst v) st1):WOps E (⟨.call f args,dst,g⟩::os) Q tm st :=
 wops_call (hw.trans hb) hf hc h
theorem wops_skip' {o:DOp} {dst:Option Nat} {g:Option (Nat×Bool)} {os:List DOper} {b:Bool} (hw:wants tm g=b) (hb:b=false) (h:WOps E os Q (put tm dst undef) st):WOps E (⟨o,dst,g⟩::os) Q tm st:=wops_skip (hw.trans hb) h
theorem wopsD_skip' {o:DOp} {dst:Option Nat} {g:Option (Nat×Bool)} {os:List DOper} {b:Bool} (hw:wants tm g=b) (hb:b=false) (h:WOpsD E os (fun e tm' st' fs=>QD e tm' st' (.quiet::fs)) (put tm dst undef) st):WOpsD E (⟨o,dst,g⟩::os) QD tm st:=wopsD_skip (hw.trans hb) h
end
def RetS (st:St) (sz n:Nat) (cs:List PV) (v:PV) (st':St):Prop :=
 cs.length=n*sz∧((n=0∧v = .nilslice∧st'=st)∨(v = .slice (.tag st.heap.length sz) n cs∧st'=st.push (.tag true)))
def OwnS (m:Nat) (st:St) (sz:Nat) (v:PV) (n:Nat) (cs:List PV):Prop :=
 cs.length=n*sz∧((n=0∧v = .nilslice)∨(∃ t,v = .slice (.tag t sz) n cs∧m≤t∧hp st t=some (.tag true)))
theorem OwnS.nil {m:Nat} {st:St} {sz:Nat}:OwnS m st sz .nilslice 0 []:=⟨by simp,.inl ⟨rfl,rfl⟩⟩
theorem OwnS.mono {m m':Nat} {st:St} {sz:Nat} {v:PV} {n:Nat} {cs:List PV} (h:OwnS m st sz v n cs) (hm:m'≤m):OwnS m' st sz v n cs:=⟨h.1,h.2.imp id fun ⟨t,h2,h3,h4⟩=>⟨t,h2,by omega,h4⟩⟩
theorem OwnS.keep {m:Nat} {st st':St} {sz:Nat} {v:PV} {n:Nat} {cs:List PV} (h:OwnS m st sz v n cs) (hk:∀ t,m≤t→hp st t=some (.tag true)→hp st' t=some (.tag true)):OwnS m st' sz v n cs :=
 ⟨h.1,h.2.imp id fun ⟨t,h2,h3,h4⟩=>⟨t,h2,h3,hk t h3 h4⟩⟩
theorem OwnS.push {m:Nat} {st:St} {sz:Nat} {v:PV} {n:Nat} {cs:List PV} {o:HObj} (h:OwnS m st sz v n cs):OwnS m (st.push o) sz v n cs :=
 h.keep fun t _ h4=>by
  rw [hp_push,if_neg (by have:=hp_lt h4;omega)]
  exact h4
theorem OwnS.setVar {m:Nat} {st:St} {sz:Nat} {v:PV} {n:Nat} {cs:List PV} {l:Nat} {o:HObj} (h:OwnS m st sz v n cs) (hl:∀ b,hp st l≠some (.tag b)):OwnS m (setVar st l o) sz v n cs :=
 h.keep fun t _ h4=>by
  rw [hp_setVar,if_neg (by rintro rfl;exact hl _ h4)]
  exact h4
theorem OwnS.sl {m:Nat} {st:St} {sz:Nat} {v:PV} {n:Nat} {cs:List PV} (h:OwnS m st sz v n cs):v.sl=some (n,cs):=by
 obtain ⟨h0,⟨rfl,rfl⟩|⟨t,rfl,h3,h4⟩⟩:=h
 ·simp at h0;simp [PV.sl,h0]
 ·rfl
theorem RetS.own {m:Nat} {st st':St} {sz n:Nat} {cs:List PV} {v:PV} (h:RetS st sz n cs v st') (hm:m≤st.heap.length):OwnS m st' sz v n cs:=by
 obtain ⟨h0,⟨rfl,rfl,rfl⟩|⟨rfl,rfl⟩⟩:=h
 ·exact ⟨h0,.inl ⟨rfl,rfl⟩⟩
 ·exact ⟨h0,.inr ⟨_,rfl,hm,by rw [hp_push,if_pos rfl]⟩⟩
theorem RetS.fr {st st':St} {sz n:Nat} {cs:List PV} {v:PV} (h:RetS st sz n cs v st'):Fr st.heap.length st st':=by
 obtain ⟨h0,⟨rfl,rfl,rfl⟩|⟨rfl,rfl⟩⟩:=h
 ·exact .refl _ _
 ·exact (Fr.refl _ _).push (Nat.le_refl _)
theorem RetS.st' {st st':St} {sz n:Nat} {cs:List PV} {v:PV} (h:RetS st sz n cs v st'):st'=st∨st'=st.push (.tag true):=h.2.imp (·.2.2) (·.2)
theorem RetS.sl {st st':St} {sz n:Nat} {cs:List PV} {v:PV} (h:RetS st sz n cs v st'):v.sl=some (n,cs):=(h.own (Nat.zero_le _)).sl
theorem OwnS.append {m:Nat} {st:St} {sz:Nat} {v:PV} {n:Nat} {cs:List PV} (h:OwnS m st sz v n cs) (hm:m≤st.heap.length) {k:Nat} {ys:List PV} (hy:ys.length=k*sz) (hc:ys.all PV.isCell=true) (hn:n+k≤maxList) :
  ∃ v' st',doAppend false sz st v k ys=some (.val v' st')∧OwnS m st' sz v' (n+k) (cs++ys.map PV.share)∧Fr m st st'∧(∀ l o,hp st l=some o→(∀ b,o ≠ .tag b)→hp st' l=some o):=by
 by_cases hk:k=0
 ·subst hk
  have hy0:ys=[]:=by simpa using hy
  subst hy0
  refine ⟨v,st,?_,by simpa using h,.refl _ _,fun l o h _=>h⟩
  delta doAppend
  obtain ⟨h0,⟨rfl,rfl⟩|⟨t,rfl,h3,h4⟩⟩:=h <;> simp
 obtain ⟨h0,⟨rfl,rfl⟩|⟨t,rfl,h3,h4⟩⟩:=h
 ·refine ⟨.slice (.tag st.heap.length sz) k (ys.map PV.share),st.push (.tag true),?_,⟨?_,.inr ⟨st.heap.length,?_,hm,?_⟩⟩,(Fr.refl m st).push hm,fun l o hl ho=>?_⟩
  ·delta doAppend
   simp only [hy,hc,and_self,if_true,hk,if_false,Bool.false_eq_true]
   rw [if_pos (by omega)]
   rfl
  ·simp at h0;simp [h0,hy]
  ·simp at h0;simp [h0]
  ·rw [hp_push,if_pos rfl]
  ·rw [hp_push,if_neg (by have:=hp_lt hl;omega)]
   exact hl
 ·have ht:=hp_lt h4
  refine ⟨.slice (.tag st.heap.length sz) (n+k) (cs++ys.map PV.share),(Den.setVar st t (.tag false)).push (.tag true),?_,⟨?_,.inr ⟨st.heap.length,rfl,hm,?_⟩⟩,((Fr.refl m st).setVar h3).push (by rw [len_setVar];exact hm),fun l o hl ho=>?_⟩
  ·delta doAppend
   simp only [hy,hc,and_self,if_true,hk,if_false]
   rw [if_pos ⟨trivial,h0,hn⟩]
   have h5:st.heap[t]? = some (.tag true):=h4
   simp only [h5]
   rfl
  ·simp [h0,hy,Nat.add_mul]
  ·rw [hp_push,if_pos (by rw [len_setVar])]
  ·rw [hp_push,len_setVar,if_neg (by have:=hp_lt hl;omega),hp_setVar,if_neg (by rintro rfl;rw [h4] at hl;cases hl;exact ho _ rfl)]
   exact hl
theorem lowL_of {m:Nat} {cs:List PV} (h:∀ c∈cs,c.low m=true):lowL m cs=true:=by
 induction cs with
 | nil=>rfl
 | cons c cs ih=>simp only [lowL,Bool.and_eq_true];exact ⟨h c (by simp),ih (fun d hd=>h d (by simp [hd]))⟩
theorem OwnS.finish {st st1:St} {sz:Nat} {v:PV} {n:Nat} {cs:List PV} (h:OwnS st.heap.length st1 sz v n cs) (hlo:st.heap.length≤st1.lo) (hc:∀ m c,c∈cs→PV.low m c=true):RetS st sz n cs (finishCall st st1 v).1 (finishCall st st1 v).2:=by
 obtain ⟨h0,⟨rfl,rfl⟩|⟨t,rfl,h3,h4⟩⟩:=h
 ·rw [finish_flat hlo rfl]
  exact ⟨h0,.inl ⟨rfl,rfl,rfl⟩⟩
 ·unfold finishCall
  rw [if_pos hlo]
  have h5:st1.heap[t]? = some (.tag true):=h4
  have:letGo st.heap.length st1.heap (.slice (.tag t sz) n cs)=some (.slice (.tag st.heap.length sz) n cs,1):=by
   simp only [letGo,freeze1,retag1,lowL_of (hc _),if_true,h5,Nat.not_lt.2 h3,if_false]
   simp
  rw [this]
  exact ⟨h0,.inr ⟨rfl,rfl⟩⟩
def ClR (E:Env) (f:PV) (args:List PV) (st:St) (P:PV→St→Prop):Prop:=∃ v st',Cl E f args st (.ret v) st'∧P v st'
def FnR (rs:List DRes) (st:St) (P:PV→St→Prop):Ex→List PV→St→Prop:=fun e tm1 st1=>match e with
 | .normal | .ret=>∃ v,results tm1 st1.heap rs=some v∧P (finishCall st st1 v).1 (finishCall st st1 v).2
 | _=>False
theorem clr_fn {E:Env} {st:St} {g:Nat} {a c args:List PV} {n:Nat} {rs:List DRes} {b:DCode} {P:PV→St→Prop} (hp:∀ rec,E.prim g rec (a++args++c) st=none) (hf:E.fn g=some ⟨n,rs,b⟩) (k:Nat) (hk:(a++args++c).length=k) (hkn:k≤n)
  (h:∀ tm,tm.length=n→(∀ i,i<k→tg tm i=(a++args++c).getD i undef)→Wp E b (FnR rs st P) tm { heap:=st.heap,lo:=st.heap.length }):ClR E (.func g a c) args st P:=by
 have:=h ((a++args++c)++List.replicate (n - (a++args++c).length) undef) (by simp at hk ⊢;omega) (fun i hi=>by
  unfold tg
  rw [List.getD_eq_getElem?_getD,List.getD_eq_getElem?_getD,List.getElem?_append_left (by omega)])
 unfold Wp at this
 obtain ⟨N,e,tm1,st1,h1,h2⟩:=this
 have key:∀ v,(e = .normal∨e = .ret)→results tm1 st1.heap rs=some v→P (finishCall st st1 v).1 (finishCall st st1 v).2→ClR E (.func g a c) args st P:=by
  intro v he h3 h4
  refine ⟨_,_,cl_of_wp (r := .ret (finishCall st st1 v).1) (st':=(finishCall st st1 v).2) hp hf ?_,h4⟩
  unfold Wp
  refine ⟨N,e,tm1,st1,h1,?_⟩
  rcases he with rfl|rfl <;> exact ⟨v,h3,_,rfl,rfl⟩
 unfold FnR at h2
 cases e with
 | normal=>obtain ⟨v,h3,h4⟩:=h2;exact key v (.inl rfl) h3 h4
 | ret=>obtain ⟨v,h3,h4⟩:=h2;exact key v (.inr rfl) h3 h4
 | exit i=>exact h2.elim
 | panic v=>exact h2.elim
theorem fnr_ret {rs:List DRes} {st:St} {P:PV→St→Prop} {tm1:List PV} {st1:St} {v:PV} (hr:results tm1 st1.heap rs=some v) (h:P (finishCall st st1 v).1 (finishCall st st1 v).2):FnR rs st P .ret tm1 st1:=⟨v,hr,h⟩
theorem fnr_normal {rs:List DRes} {st:St} {P:PV→St→Prop} {tm1:List PV} {st1:St} {v:PV} (hr:results tm1 st1.heap rs=some v) (h:P (finishCall st st1 v).1 (finishCall st st1 v).2):FnR rs st P .normal tm1 st1:=⟨v,hr,h⟩
attribute [irreducible] FnR
theorem wops_callR {E:Env} {Q:Ex→List PV→St→Prop} {tm:List PV} {st:St} {f:Opd} {args:List Opd} {dst:Option Nat} {g:Option (Nat×Bool)} {os:List DOper} {b:Bool} {fv:PV} {P:PV→St→Prop} (hw:wants tm g=b) (hb:b=true) (hf:f.ev tm=fv) (hc:ClR E fv (evs tm args) st P) (h:∀ v st1,P v st1→WOps E os Q (put tm dst v) st1):WOps E (⟨.call f args,dst,g⟩::os) Q tm st:=by
 obtain ⟨v,st',h1,h2⟩:=hc
 exact wops_call (hw.trans hb) hf h1 (h v st' h2)
end Go.Den
end
section
namespace Go.Den
section
variable {E:Env} {Q:Ex→List PV→St→Prop} {tm:List PV} {st:St}
theorem andThen_mono {K K':List PV→St→Prop} {Q Q':Ex→List PV→St→Prop} (hk:∀ tm st,K tm st→K' tm st) (hq:∀ e tm st,e ≠ .normal→Q e tm st→Q' e tm st):∀ e tm st,andThen K Q e tm st→andThen K' Q' e tm st:=by
 intro e tm st h
 unfold andThen at h ⊢
 cases e with
 | normal=>exact hk _ _ h
 | ret=>exact hq _ _ _ (by simp) h
 | exit i=>exact hq _ _ _ (by simp) h
 | panic v=>exact hq _ _ _ (by simp) h
theorem andThen_eq_normal {K:List PV→St→Prop} {Q:Ex→List PV→St→Prop} {tm:List PV} {st:St}:andThen K Q .normal tm st=K tm st:=by unfold andThen;rfl
theorem andThen_eq_ret {K:List PV→St→Prop} {Q:Ex→List PV→St→Prop} {tm:List PV} {st:St}:andThen K Q .ret tm st=Q .ret tm st:=by unfold andThen;rfl
theorem andThen_eq_exit {K:List PV→St→Prop} {Q:Ex→List PV→St→Prop} {tm:List PV} {st:St} {i:Nat}:andThen K Q (.exit i) tm st=Q (.exit i) tm st:=by unfold andThen;rfl
theorem andThen_eq_panic {K:List PV→St→Prop} {Q:Ex→List PV→St→Prop} {tm:List PV} {st:St} {v:PV}:andThen K Q (.panic v) tm st=Q (.panic v) tm st:=by unfold andThen;rfl
theorem inBlock_eq_normal {Q:Ex→List PV→St→Prop} {tm:List PV} {st:St} {id:Nat}:inBlock id Q .normal tm st=Q .normal tm st:=by unfold inBlock;rfl
theorem inBlock_eq_ret {Q:Ex→List PV→St→Prop} {tm:List PV} {st:St} {id:Nat}:inBlock id Q .ret tm st=Q .ret tm st:=by unfold inBlock;rfl
theorem inBlock_eq_panic {Q:Ex→List PV→St→Prop} {tm:List PV} {st:St} {id:Nat} {v:PV}:inBlock id Q (.panic v) tm st=Q (.panic v) tm st:=by unfold inBlock;rfl
theorem inBlock_eq_exit {Q:Ex→List PV→St→Prop} {tm:List PV} {st:St} {id i:Nat}:inBlock id Q (.exit i) tm st=if i=id then Q .normal tm st else Q (.exit i) tm st:=by unfold inBlock;rfl
theorem inBlock_mono {Q Q':Ex→List PV→St→Prop} {id:Nat} (h:∀ e tm st,Q e tm st→Q' e tm st):∀ e tm st,inBlock id Q e tm st→inBlock id Q' e tm st:=by
 intro e tm st hq
 cases e with
 | normal=>rw [inBlock_eq_normal] at hq ⊢;exact h _ _ _ hq
 | ret=>rw [inBlock_eq_ret] at hq ⊢;exact h _ _ _ hq
 | panic v=>rw [inBlock_eq_panic] at hq ⊢;exact h _ _ _ hq
 | exit i=>rw [inBlock_eq_exit] at hq ⊢;split at hq <;> rename_i hi <;> simp only [hi,if_true,if_false] <;> exact h _ _ _ hq
theorem wrap_nat {n:Nat} (h:n<9223372036854775808):IntKind.wrap .i64 (n:Int)=n:=by
 have:IntKind.wrap .i64 (n:Int)=_:=rfl
 simp [IntKind.wrap,IntKind.bits,IntKind.signed]
 omega
theorem wp_range {a c d k j:Nat} {y:Opd} {body:DCode} (N:Nat) (vs:List Nat) (J:Nat→List PV→St→Prop) (hN:N<9223372036854775808) (ha:tg tm a = .int .i64 0) (hy:y.ev tm = .int .i64 N)
  (hl:a<tm.length∧c<tm.length∧d<tm.length)
  (hd:(a != c&&a != d&&!(writes body).contains a&&y.reads.all (fun r=>r != a&&r != c&&r != d&&!(writes body).contains r)&&vs.all (fun v=>v != a&&v != c&&v != d))=true)
  (init:J 0 (vs.map (tg tm)) st)
  (step:∀ i,i<N→∀ tm1 st1,J i (vs.map (tg tm1)) st1→Same (a::c::d::writes body) tm tm1→tg tm1 a = .int .i64 i→Wp E body (inBlock j (andThen (fun tm2 st2=>J (i+1) (vs.map (tg tm2)) st2) (inBlock k Q))) tm1 st1)
  (done:∀ tm1 st1,J N (vs.map (tg tm1)) st1→Same (a::c::d::writes body) tm tm1→Q .normal tm1 st1) :
  Wp E (.block k (.loop (.seq (.region [⟨.binI .lss (.t a) y,some c,none⟩]) (.seq (.cond (.t c) .skip (.exit k)) (.seq (.block j body) (.region [⟨.binI .add (.t a) (.c (.int .i64 1)),some d,none⟩,⟨.val (.t d),some a,none⟩])))))) Q tm st:=by
 simp only [Bool.and_eq_true,bne_iff_ne,ne_eq,Bool.not_eq_true',List.all_eq_true] at hd
 obtain ⟨⟨⟨⟨hac,had⟩,hba⟩,hyr⟩,hvs⟩:=hd
 have hvs':∀ (x:Nat) (v:PV) (tm1:List PV),(x=a∨x=c∨x=d)→vs.map (tg (put tm1 (some x) v))=vs.map (tg tm1):=by
  intro x v tm1 hx
  apply List.map_congr_left
  intro u hu
  have:=hvs u hu
  exact tg_ne (by rintro rfl;rcases hx with h|h|h <;> simp_all)
 have hyv:∀ tm1,Same (a::c::d::writes body) tm tm1→y.ev tm1 = .int .i64 N:=by
  intro tm1 h1
  cases y with
  | c v=>exact hy
  | t r =>
   have:=hyr r (by simp [Opd.reads])
   rw [ev_t,h1.2 r (by simp_all),← ev_t,hy]
 apply wp_block
 refine wp_loop (fun m tm1 st1=>∃ i,i≤N∧m=N - i∧J i (vs.map (tg tm1)) st1∧Same (a::c::d::writes body) tm tm1∧tg tm1 a = .int .i64 i) ?_ N ⟨0,Nat.zero_le _,rfl,init,.refl _ _,ha⟩
 rintro m tm1 st1 ⟨i,hi,rfl,hJ,hS,hia⟩
 have hlen:tm1.length=tm.length:=hS.1
 apply wp_seq
 apply wp_region_ops
 refine wops_one (v := .bool (decide ((i:Int)<N))) (st1:=st1) rfl (fun rec=>?_) ?_
 ·simp only [op_binI,ev_t,hia,hyv tm1 hS,if_true,binI,Option.map_some]
 apply wops_nil
 apply andThen_normal
 have hS1:Same (a::c::d::writes body) tm (put tm1 (some c) (.bool (decide ((i:Int)<N)))):=hS.trans (.put (fun x hx=>by cases hx;simp))
 have hc1:tg (put tm1 (some c) (.bool (decide ((i:Int)<N)))) c = .bool (decide ((i:Int)<N)):=tg_same (by omega)
 apply wp_seq
 refine wp_cond hc1 ?_
 by_cases hlt:i<N
 ·have ht:decide ((i:Int)<N)=true:=by simp;omega
  simp only [ht,if_true]
  apply wp_skip
  apply andThen_normal
  apply wp_seq
  apply wp_block
  rw [ht] at hS1
  have hb:=step i hlt (put tm1 (some c) (.bool true)) st1 (by rw [hvs' c _ _ (by simp)];exact hJ) hS1 (by rw [tg_ne (fun h=>hac h.symm)];exact hia)
  refine (wp_frame hb).mono fun e tm2 st2 ⟨h1,h2⟩=>?_
  have hS2:Same (a::c::d::writes body) tm tm2:=hS1.trans (h2.mono fun i hi=>by simp_all)
  have ha2:tg tm2 a = .int .i64 i:=by rw [h2.2 a hba,tg_ne (fun h=>hac h.symm)];exact hia
  have fin:∀ tm2 st2,J (i+1) (vs.map (tg tm2)) st2→Same (a::c::d::writes body) tm tm2→tg tm2 a = .int .i64 i→Wp E (.region [⟨.binI .add (.t a) (.c (.int .i64 1)),some d,none⟩,⟨.val (.t d),some a,none⟩]) (andThen (fun tm3 st3=>∃ m',m'<N - i∧∃ i,i≤N∧m'=N - i∧J i (vs.map (tg tm3)) st3∧Same (a::c::d::writes body) tm tm3∧tg tm3 a = .int .i64 i) (inBlock k Q)) tm2 st2:=by
   intro tm2 st2 hJ2 hS2 ha2
   apply wp_region_ops
   refine wops_one (v := .int .i64 ((i+1:Nat):Int)) (st1:=st2) rfl (fun rec=>?_) ?_
   ·simp only [op_binI,ev_t,ev_c,ha2,if_true,binI,Option.map_some]
    have:=wrap_nat (n:=i+1) (by omega)
    rw [← this];rfl
   refine wops_one (v := .int .i64 ((i+1:Nat):Int)) (st1:=st2) rfl (fun rec=>?_) ?_
   ·rw [op_val,ev_t,tg_same (by have:=hS2.1;omega)]
   apply wops_nil
   apply andThen_normal
   refine ⟨N - (i+1),by omega,i+1,by omega,rfl,?_,?_,?_⟩
   ·rw [hvs' a _ _ (by simp),hvs' d _ _ (by simp)];exact hJ2
   ·exact (hS2.trans (.put (fun x hx=>by cases hx;simp))).trans (.put (fun x hx=>by cases hx;simp))
   ·exact tg_same (by rw [put_len];have:=hS2.1;omega)
  refine inBlock_mono (Q:=andThen (fun tm2 st2=>J (i+1) (vs.map (tg tm2)) st2∧Same (a::c::d::writes body) tm tm2∧tg tm2 a = .int .i64 i) (inBlock k Q)) ?_ e tm2 st2 ?_
  ·intro e tm2 st2 h
   cases e with
   | normal =>
    rw [andThen_eq_normal] at h ⊢
    exact fin _ _ h.1 h.2.1 h.2.2
   | ret=>rw [andThen_eq_ret] at h;rw [andThen_eq_ret,andThen_eq_ret];exact h
   | panic v=>rw [andThen_eq_panic] at h;rw [andThen_eq_panic,andThen_eq_panic];exact h
   | exit x=>rw [andThen_eq_exit] at h;rw [andThen_eq_exit,andThen_eq_exit];exact h
  ·cases e with
   | normal=>rw [inBlock_eq_normal,andThen_eq_normal] at h1 ⊢;exact ⟨h1,hS2,ha2⟩
   | ret=>rw [inBlock_eq_ret,andThen_eq_ret] at h1 ⊢;exact h1
   | panic v=>rw [inBlock_eq_panic,andThen_eq_panic] at h1 ⊢;exact h1
   | exit x =>
    rw [inBlock_eq_exit] at h1 ⊢
    split at h1
    ·rename_i hx;rw [if_pos hx,andThen_eq_normal] at *;exact ⟨h1,hS2,ha2⟩
    ·rename_i hx;rw [if_neg hx,andThen_eq_exit] at *;exact h1
 ·have ht:decide ((i:Int)<N)=false:=by simp;omega
  simp only [ht,Bool.false_eq_true,if_false]
  apply wp_exit
  apply andThen_exit
  apply andThen_exit
  apply inBlock_same
  have:i=N:=by omega
  subst this
  rw [ht] at hS1
  exact done _ _ (by rw [hvs' c _ _ (by simp)];exact hJ) hS1
theorem wp_for {c k j:Nat} {cnd body inc:DCode} (vs:List Nat) (J:Nat→List PV→St→Prop) (mu:Nat→Nat)
  (init:J 0 (vs.map (tg tm)) st)
  (step:∀ i tm1 st1,J i (vs.map (tg tm1)) st1→Same (writes cnd++writes body++writes inc) tm tm1 →
   Wp E cnd (andThen (fun tm2 st2=>∃ b,tg tm2 c = .bool b∧(b=false→Q .normal tm2 st2)∧(b=true→mu (i+1)<mu i ∧
    Wp E body (inBlock j (andThen (fun tm3 st3=>Wp E inc (andThen (fun tm4 st4=>J (i+1) (vs.map (tg tm4)) st4) (inBlock k Q)) tm3 st3) (inBlock k Q))) tm2 st2)) (inBlock k Q)) tm1 st1) :
  Wp E (.block k (.loop (.seq (.seq cnd (.cond (.t c) .skip (.exit k))) (.seq (.block j body) inc)))) Q tm st:=by
 apply wp_block
 have hS:∀ tm1 tm2,Same (writes (.seq (.seq cnd (.cond (.t c) .skip (.exit k))) (.seq (.block j body) inc))) tm1 tm2→Same (writes cnd++writes body++writes inc) tm1 tm2:=fun tm1 tm2 h=>h.mono fun i hi=>by simpa [writes] using hi
 refine wp_loopF (fun m tm1 st1=>∃ i,m=mu i∧J i (vs.map (tg tm1)) st1) ?_ (mu 0) ⟨0,rfl,init⟩
 rintro m tm1 st1 ⟨i,rfl,hJ⟩ hs
 apply wp_seq
 apply wp_seq
 refine (step i tm1 st1 hJ (hS _ _ hs)).mono (andThen_mono ?_ ?_)
 ·rintro tm2 st2 ⟨b,hb,h1,h2⟩
  refine wp_cond hb ?_
  cases b
  ·simp only [Bool.false_eq_true,if_false]
   apply wp_exit
   apply andThen_exit
   apply andThen_exit
   apply inBlock_same
   exact h1 rfl
  ·simp only [if_true]
   apply wp_skip
   apply andThen_normal
   obtain ⟨h3,h4⟩:=h2 rfl
   apply wp_seq
   apply wp_block
   refine h4.mono (inBlock_mono ?_)
   intro e tm st h
   cases e with
   | normal =>
    rw [andThen_eq_normal] at h ⊢
    exact h.mono (andThen_mono (fun tm st h=>⟨mu (i+1),h3,i+1,rfl,h⟩) (fun e tm st _ h=>h))
   | ret=>rw [andThen_eq_ret] at h;rw [andThen_eq_ret,andThen_eq_ret];exact h
   | panic v=>rw [andThen_eq_panic] at h;rw [andThen_eq_panic,andThen_eq_panic];exact h
   | exit x=>rw [andThen_eq_exit] at h;rw [andThen_eq_exit,andThen_eq_exit];exact h
 ·intro e tm2 st2 he h
  cases e with
  | normal=>exact absurd rfl he
  | ret=>rw [andThen_eq_ret,andThen_eq_ret];exact h
  | exit i=>rw [andThen_eq_exit,andThen_eq_exit];exact h
  | panic v=>rw [andThen_eq_panic,andThen_eq_panic];exact h
theorem wops_index {α:Type} {sz:Nat} {x i:Opd} {dst:Option Nat} {g:Option (Nat×Bool)} {os:List DOper} {b:Bool} {enc:α→List PV} {F:PV} {l:List α} {kk:IntKind} {n:Nat} (hw:wants tm g=b) (hb:b=true) (hx:x.ev tm=F) (hF:SlOf sz enc F l) (hi:i.ev tm = .int kk n) (hj:n<l.length) (h:WOps E os Q (put tm dst (.cptr (enc l[n]))) st):WOps E (⟨.indexAddr sz x i,dst,g⟩::os) Q tm st :=
 wops_one (hw.trans hb) (fun rec=>step_index hx hF hi (by omega) (by simpa using hj)) (by simpa using h)
theorem wops_indexI {α:Type} {sz:Nat} {x i:Opd} {dst:Option Nat} {g:Option (Nat×Bool)} {os:List DOper} {b:Bool} {enc:α→List PV} {F:PV} {l:List α} {kk:IntKind} {n:Int} (hw:wants tm g=b) (hb:b=true) (hx:x.ev tm=F) (hF:SlOf sz enc F l) (hi:i.ev tm = .int kk n) (h0:0≤n) (hj:n.toNat<l.length) (h:WOps E os Q (put tm dst (.cptr (enc l[n.toNat]))) st):WOps E (⟨.indexAddr sz x i,dst,g⟩::os) Q tm st :=
 wops_one (hw.trans hb) (fun rec=>step_index hx hF hi h0 hj) h
theorem wops_slice {α:Type} {sz:Nat} {x:Opd} {lo hi:Option Opd} {dst:Option Nat} {g:Option (Nat×Bool)} {os:List DOper} {b:Bool} {enc:α→List PV} {F:PV} {l:List α} {n m:Nat} (hw:wants tm g=b) (hb:b=true) (hx:x.ev tm=F) (hF:SlOf sz enc F l) (hh:bound tm hi l.length=some m) (hl:bound tm lo 0=some n) (hnm:n≤m) (hm:m≤l.length) (h:∀ F',SlOf sz enc F' ((l.drop n).take (m - n))→WOps E os Q (put tm dst F') st):WOps E (⟨.slice sz x lo hi,dst,g⟩::os) Q tm st:=by
 obtain ⟨F',_,h2⟩:=step_slice (E:=E) (rec:=run E 0) (st:=st) hx hF hh hl hnm hm
 refine wops_one (hw.trans hb) (fun rec=>?_) (h F' h2)
 obtain ⟨F2,h3,h4⟩:=step_slice (E:=E) (rec:=rec) (st:=st) hx hF hh hl hnm hm
 rename_i h5
 have:some (OpR.val F2 st)=some (OpR.val F' st):=by rw [← h3,← h5];simp only [stepOp]
 rw [h3,this]
theorem wopsD_index {QD:Ex→List PV→St→List Foot→Prop} {α:Type} {sz:Nat} {x i:Opd} {dst:Option Nat} {g:Option (Nat×Bool)} {os:List DOper} {b:Bool} {enc:α→List PV} {F:PV} {l:List α} {kk:IntKind} {n:Nat} (hlo:st.lo≤st.heap.length) (hw:wants tm g=b) (hb:b=true) (hx:x.ev tm=F) (hF:SlOf sz enc F l) (hi:i.ev tm = .int kk n) (hj:n<l.length) (h:WOpsD E os (fun e tm' st' fs=>QD e tm' st' (.quiet::fs)) (put tm dst (.cptr (enc l[n]))) st):WOpsD E (⟨.indexAddr sz x i,dst,g⟩::os) QD tm st:=by
 refine wopsD_pure hlo (hw.trans hb) (fun rec st1 _=>step_index hx hF hi (by omega) (by simpa using hj)) ?_
 simp only [footOf,Nat.le_refl,if_true]
 simpa using h
theorem wopsD_indexI {QD:Ex→List PV→St→List Foot→Prop} {α:Type} {sz:Nat} {x i:Opd} {dst:Option Nat} {g:Option (Nat×Bool)} {os:List DOper} {b:Bool} {enc:α→List PV} {F:PV} {l:List α} {kk:IntKind} {n:Int} (hlo:st.lo≤st.heap.length) (hw:wants tm g=b) (hb:b=true) (hx:x.ev tm=F) (hF:SlOf sz enc F l) (hi:i.ev tm = .int kk n) (h0:0≤n) (hj:n.toNat<l.length) (h:WOpsD E os (fun e tm' st' fs=>QD e tm' st' (.quiet::fs)) (put tm dst (.cptr (enc l[n.toNat]))) st):WOpsD E (⟨.indexAddr sz x i,dst,g⟩::os) QD tm st:=by
 refine wopsD_pure hlo (hw.trans hb) (fun rec st1 _=>step_index hx hF hi h0 hj) ?_
 simp only [footOf,Nat.le_refl,if_true]
 exact h
theorem wopsD_slice {QD:Ex→List PV→St→List Foot→Prop} {α:Type} {sz:Nat} {x:Opd} {lo hi:Option Opd} {dst:Option Nat} {g:Option (Nat×Bool)} {os:List DOper} {b:Bool} {enc:α→List PV} {F:PV} {l:List α} {n m:Nat} (hlo:st.lo≤st.heap.length) (hw:wants tm g=b) (hb:b=true) (hx:x.ev tm=F) (hF:SlOf sz enc F l) (hh:bound tm hi l.length=some m) (hl:bound tm lo 0=some n) (hnm:n≤m) (hm:m≤l.length) (h:∀ F',SlOf sz enc F' ((l.drop n).take (m - n))→WOpsD E os (fun e tm' st' fs=>QD e tm' st' (.quiet::fs)) (put tm dst F') st):WOpsD E (⟨.slice sz x lo hi,dst,g⟩::os) QD tm st:=by
 obtain ⟨F',h5,h2⟩:=step_slice (E:=E) (rec:=run E 0) (st:=st) hx hF hh hl hnm hm
 refine wopsD_pure hlo (hw.trans hb) (fun rec st1 h1=>?_) (v:=F') ?_
 ·obtain ⟨F2,h3,h4⟩:=step_slice (E:=E) (rec:=rec) (st:=st1) hx hF hh hl hnm hm
  obtain ⟨F3,h6,h7⟩:=step_slice (E:=E) (rec:=rec) (st:=st) hx hF hh hl hnm hm
  have h8:some (OpR.val F3 st)=some (OpR.val F' st):=by rw [← h6,← h5];simp only [stepOp]
  have h9:F2=F3:=by
   simp only [stepOp,hx] at h3 h6
   cases F <;> simp only [hh,hl] at h3 h6 <;> (try (split at h3 <;> split at h6 <;> simp_all)) <;> simp_all
  rw [h3,h9]
  simp only [Option.some.injEq,OpR.val.injEq,and_true] at h8
  rw [h8]
 ·simp only [footOf,Nat.le_refl,if_true]
  exact h F' h2
theorem wops_append {sz:Nat} {x y:Opd} {dst:Option Nat} {g:Option (Nat×Bool)} {os:List DOper} {b:Bool} {m n k:Nat} {v w:PV} {cs ys:List PV} (hw:wants tm g=b) (hb:b=true) (hx:x.ev tm=v) (hy:y.ev tm=w) (ho:OwnS m st sz v n cs) (hyl:w.sl=some (k,ys)) (hm:m≤st.heap.length) (hl:ys.length=k*sz) (hc:ys.all PV.isCell=true) (hn:n+k≤maxList)
  (h:∀ v' st',OwnS m st' sz v' (n+k) (cs++ys.map PV.share)→Fr m st st'→(∀ l o,hp st l=some o→(∀ b,o ≠ .tag b)→hp st' l=some o)→WOps E os Q (put tm dst v') st'):WOps E (⟨.append false sz x y,dst,g⟩::os) Q tm st:=by
 obtain ⟨v',st',h1,h2,h3,h4⟩:=ho.append hm hl hc hn
 refine wops_one (hw.trans hb) (fun rec=>?_) (h v' st' h2 h3 h4)
 simp only [stepOp,hx,hy]
 cases w <;> simp only [PV.sl,Option.some.injEq,Prod.mk.injEq,reduceCtorEq] at hyl
 ·obtain ⟨rfl,rfl⟩:=hyl;exact h1
 ·obtain ⟨rfl,rfl⟩:=hyl;exact h1
theorem ldP {agg:Bool} {sz l off:Nat}:ldR agg sz (.ptr l off) st=match hp st l with
  | some (.var cs)=>if off≤cs.length then (rdPart agg sz (cs.drop off)).map (.val · st) else none
  | _=>none:=rfl
theorem ldA {agg:Bool} {sz l off:Nat}:ldR agg sz (.aptr l off) st=match hp st l with
  | some (.arr cs)=>if off≤cs.length then (rdPart agg sz (cs.drop off)).map (.val · st) else none
  | _=>none:=rfl
theorem stP {sz l off:Nat} {x:PV}:stR sz (.ptr l off) x st=match hp st l with
  | some (.var cs)=>if x.cells.length=sz∧off+sz≤cs.length∧x.cells.all PV.isCell=true then some (.val undef (setVar st l (.var (splice cs off x.cells)))) else none
  | _=>none:=rfl
theorem stA {sz l off:Nat} {x:PV}:stR sz (.aptr l off) x st=match hp st l with
  | some (.arr cs)=>if x.cells.length=sz∧off+sz≤cs.length∧x.cells.all PV.isCell=true then some (.val undef (setVar st l (.arr (splice cs off x.cells)))) else none
  | _=>none:=rfl
theorem wp_condT {c:Opd} {a b:DCode} (hc:c.ev tm = .bool true) (h:Wp E a Q tm st):Wp E (.cond c a b) Q tm st:=wp_cond hc (by simpa using h)
theorem wp_condF {c:Opd} {a b:DCode} (hc:c.ev tm = .bool false) (h:Wp E b Q tm st):Wp E (.cond c a b) Q tm st:=wp_cond hc (by simpa using h)
theorem wp_block_seq {id:Nat} {a b:DCode} (h:Wp E (.seq a b) (inBlock id Q) tm st):Wp E (.block id (.seq a b)) Q tm st:=wp_block h
theorem wp_block_cond {id:Nat} {c:Opd} {a b:DCode} (h:Wp E (.cond c a b) (inBlock id Q) tm st):Wp E (.block id (.cond c a b)) Q tm st:=wp_block h
theorem wp_block_region {id:Nat} {os:List DOper} (h:Wp E (.region os) (inBlock id Q) tm st):Wp E (.block id (.region os)) Q tm st:=wp_block h
theorem wp_block_dregion {id:Nat} {os:List DOper} {fr:List (Nat×List Nat)} (h:Wp E (.dregion os fr) (inBlock id Q) tm st):Wp E (.block id (.dregion os fr)) Q tm st:=wp_block h
end
theorem cells_bool (b:Bool):(PV.bool b).cells=[.bool b]:=rfl
theorem isCell_bool (b:Bool):(PV.bool b).isCell=true:=rfl
theorem cells_int (k:IntKind) (n:Int):(PV.int k n).cells=[.int k n]:=rfl
theorem isCell_int (k:IntKind) (n:Int):(PV.int k n).isCell=true:=rfl
theorem cells_str (s:ByteArray):(PV.str s).cells=[.str s]:=rfl
theorem isCell_str (s:ByteArray):(PV.str s).isCell=true:=rfl
theorem cells_ptr (l o:Nat):(PV.ptr l o).cells=[.ptr l o]:=rfl
theorem isCell_ptr (l o:Nat):(PV.ptr l o).isCell=true:=rfl
theorem cells_cptr (c:List PV):(PV.cptr c).cells=[.cptr c]:=rfl
theorem isCell_cptr (c:List PV):(PV.cptr c).isCell=true:=rfl
theorem cells_nilptr  : (PV.nilptr ).cells=[.nilptr ]:=rfl
theorem isCell_nilptr  : (PV.nilptr ).isCell=true:=rfl
theorem cells_slice (o:Own) (n:Nat) (c:List PV):(PV.slice o n c).cells=[.slice o n c]:=rfl
theorem isCell_slice (o:Own) (n:Nat) (c:List PV):(PV.slice o n c).isCell=true:=rfl
theorem cells_nilslice  : (PV.nilslice ).cells=[.nilslice ]:=rfl
theorem isCell_nilslice  : (PV.nilslice ).isCell=true:=rfl
theorem cells_hslice (l z n:Nat):(PV.hslice l z n).cells=[.hslice l z n]:=rfl
theorem isCell_hslice (l z n:Nat):(PV.hslice l z n).isCell=true:=rfl
theorem cells_map (l:Nat):(PV.map l).cells=[.map l]:=rfl
theorem isCell_map (l:Nat):(PV.map l).isCell=true:=rfl
theorem cells_nilmap  : (PV.nilmap ).cells=[.nilmap ]:=rfl
theorem isCell_nilmap  : (PV.nilmap ).isCell=true:=rfl
theorem cells_func (f:Nat) (a c:List PV):(PV.func f a c).cells=[.func f a c]:=rfl
theorem isCell_func (f:Nat) (a c:List PV):(PV.func f a c).isCell=true:=rfl
theorem cells_nilfunc  : (PV.nilfunc ).cells=[.nilfunc ]:=rfl
theorem isCell_nilfunc  : (PV.nilfunc ).isCell=true:=rfl
theorem cells_yield (l:Nat):(PV.yield l).cells=[.yield l]:=rfl
theorem isCell_yield (l:Nat):(PV.yield l).isCell=true:=rfl
theorem cells_iface (t:Nat) (v:PV):(PV.iface t v).cells=[.iface t v]:=rfl
theorem isCell_iface (t:Nat) (v:PV):(PV.iface t v).isCell=true:=rfl
theorem cells_niliface  : (PV.niliface ).cells=[.niliface ]:=rfl
theorem isCell_niliface  : (PV.niliface ).isCell=true:=rfl
theorem wants_true (tm:List PV) (d:Nat):wants tm (some (d,true))=match tg tm d with
  | .bool c=>c
  | _=>false:=by
 rw [wants_tg];cases tg tm d <;> simp
theorem wants_false (tm:List PV) (d:Nat):wants tm (some (d,false))=match tg tm d with
  | .bool c=>!c
  | _=>false:=by
 rw [wants_tg];cases tg tm d <;> simp
theorem SlOf.of_sl {α:Type} {sz:Nat} {enc:α→List PV} {v:PV} {n:Nat} {cs:List PV} {l:List α} (h:v.sl=some (n,cs)) (hn:n=l.length) (hc:cs=l.flatMap enc) (hl:∀ a,(enc a).length=sz):SlOf sz enc v l:=⟨by rw [h,hn,hc],fun a _=>hl a⟩
def isQ:Option Foot→Bool
 | some .quiet=>true
 | none=>true
 | _=>false
theorem footOk_quiet {fs:List Foot} {free:List (Nat×List Nat)} (h:free.all (fun p=>p.2.all (fun j=>isQ fs[j]?))=true):footOk fs free=true:=by
 simp only [footOk,List.all_eq_true] at h ⊢
 intro p hp
 have h1:=h p hp
 split
 ·simp only [List.all_eq_true]
  intro j hj
  have h2:=h1 j hj
  split
  ·rename_i f hf
   rw [hf] at h2
   cases f <;> simp_all [isQ,clash]
  ·rfl
 ·rfl
theorem rdRes_hp {tm:List PV} {t l off:Nat} {agg:Bool} {sz:Nat} {st:St} (ht:tg tm t = .ptr l off):rdRes tm st.heap (.cell t agg sz)=match hp st l with
  | some (.var cs)=>if off≤cs.length then rdPart agg sz (cs.drop off) else none
  | _=>none:=rdRes_cell ht
theorem ltL {a b:Nat} (h:a<b):(a<b)=True:=by simp [h]
theorem ltA {a b:Nat} (h:a<b) (k:Nat):(a<b+k)=True:=by simp;omega
theorem neL {a b:Nat} (h:a<b):(a=b)=False:=by simp;omega
theorem neA {a b:Nat} (h:a<b) (k:Nat):(a=b+k)=False:=by simp;omega
theorem share_int (k:IntKind) (n:Int):(PV.int k n).share = .int k n:=rfl
theorem share_bool (b:Bool):(PV.bool b).share = .bool b:=rfl
theorem share_str (s:ByteArray):(PV.str s).share = .str s:=rfl
theorem share_slice (o:Own) (n:Nat) (c:List PV):(PV.slice o n c).share = .slice .shared n c:=rfl
theorem share_nilslice:PV.nilslice.share = .nilslice:=rfl
theorem cells_agg (cs:List PV):(PV.agg cs).cells=cs:=rfl
theorem slen_nilslice:PV.nilslice.slen=some 0:=rfl
theorem slen_slice (o:Own) (n:Nat) (c:List PV):(PV.slice o n c).slen=some n:=rfl
theorem slen_hslice (l z n:Nat):(PV.hslice l z n).slen=some n:=rfl
theorem RetS.hp {st st':St} {sz n:Nat} {cs:List PV} {v:PV} (h:RetS st sz n cs v st') {l:Nat} {o:HObj} (hl:hp st l=some o):hp st' l=some o:=by
 rcases h.st' with rfl|rfl
 ·exact hl
 ·rw [hp_push,if_neg (by have:=hp_lt hl;omega)];exact hl
theorem RetS.lo {st st':St} {sz n:Nat} {cs:List PV} {v:PV} (h:RetS st sz n cs v st'):st'.lo=st.lo:=by
 rcases h.st' with rfl|rfl <;> rfl
theorem RetS.len {st st':St} {sz n:Nat} {cs:List PV} {v:PV} (h:RetS st sz n cs v st'):st.heap.length≤st'.heap.length:=by
 rcases h.st' with rfl|rfl
 ·omega
 ·rw [len_push];omega
theorem wopsD_callS {E:Env} {QD:Ex→List PV→St→List Foot→Prop} {tm:List PV} {st:St} {f:Opd} {args:List Opd} {dst:Option Nat} {g:Option (Nat×Bool)} {os:List DOper} {b:Bool} {fv:PV} {sz n:Nat} {cs:List PV} (hlo:st.lo≤st.heap.length) (hw:wants tm g=b) (hb:b=true) (hf:f.ev tm=fv) (hc:∀ st1:St,st1.heap=st.heap→ClR E fv (evs tm args) st1 (RetS st1 sz n cs))
  (h:∀ v st',RetS st sz n cs v st'→WOpsD E os (fun e tm' st' fs=>QD e tm' st' (.quiet::fs)) (put tm dst v) st'):WOpsD E (⟨.call f args,dst,g⟩::os) QD tm st:=by
 obtain ⟨v,st1,⟨N,hN⟩,hR⟩:=hc { st with lo:=st.heap.length } rfl
 refine wopsD_cons (v:=v) (st1:=st1) (hw.trans hb) N (fun n hn=>?_) ?_
 ·simp only [stepOp,hf,hN n hn]
 ·have hq:footOf tm (.call f args) st.heap.length st1.lo = .quiet:=by
   simp only [footOf]
   rw [hR.lo]
   simp
  rw [hq]
  obtain ⟨h0,⟨rfl,rfl,rfl⟩|⟨rfl,rfl⟩⟩:=hR
  ·simp only [Nat.min_eq_left hlo]
   exact h _ _ ⟨h0,.inl ⟨rfl,rfl,rfl⟩⟩
  ·have:({ heap:=((⟨st.heap,st.heap.length⟩:St).push (.tag true)).heap,lo:=min st.lo ((⟨st.heap,st.heap.length⟩:St).push (.tag true)).lo }:St)=st.push (.tag true):=by
    simp only [St.push,Nat.min_eq_left hlo]
   rw [this]
   exact h _ _ ⟨h0,.inr ⟨rfl,rfl⟩⟩
def ClX (E:Env) (f:PV) (args:List PV) (st:St) (v:PV) (P:St→Prop):Prop:=∃ st',Cl E f args st (.panic v) st'∧P st'
def FnX (st:St) (v:PV) (P:St→Prop):Ex→List PV→St→Prop:=fun e _ st1=>match e with
 | .panic u=>u=v∧P { heap:=st1.heap,lo:=min st.lo st1.lo }
 | _=>False
attribute [irreducible] FnX
theorem wops_panic {E:Env} {Q:Ex→List PV→St→Prop} {tm:List PV} {st:St} {x:Opd} {dst:Option Nat} {g:Option (Nat×Bool)} {os:List DOper} {b:Bool} {t:Nat} {v:PV} (hw:wants tm g=b) (hb:b=true) (hx:x.ev tm = .iface t v) (h:Q (.panic (.iface t v)) tm st):WOps E (⟨.panic x,dst,g⟩::os) Q tm st:=by
 unfold WOps
 refine ⟨0,_,_,_,fun n _=>?_,h⟩
 simp only [stepOps,hw,hb,if_true,stepOp,hx]
theorem andThen_panic {K:List PV→St→Prop} {Q:Ex→List PV→St→Prop} {tm:List PV} {st:St} {v:PV} (h:Q (.panic v) tm st):andThen K Q (.panic v) tm st:=by rw [andThen_eq_panic];exact h
theorem inBlock_panic {Q:Ex→List PV→St→Prop} {tm:List PV} {st:St} {id:Nat} {v:PV} (h:Q (.panic v) tm st):inBlock id Q (.panic v) tm st:=by rw [inBlock_eq_panic];exact h
theorem results_nil {tm:List PV} {h:List HObj}:results tm h []=some (.tuple []):=rfl
theorem fnq_tuple' {rs:List DRes} {st:St} {tm1:List PV} {st1:St} {vs:List PV} (hr:results tm1 st1.heap rs=some (.tuple vs)) (h:st.heap.length≤st1.lo) (hv:vs.all PV.flat=true):FnQ rs st (.ret (.tuple vs)) st .normal tm1 st1:=by
 unfold FnQ
 exact ⟨_,hr,_,finish_tuple h hv,rfl⟩
attribute [go_sem] Nat.add_assoc ev_t ev_c tg_put tg_none put_len wants_none wants_true wants_false Bool.not_true Bool.not_false evs_cons evs_nil op_val op_pick op_box op_alloc op_build op_buildSlice op_buildSliceS op_load op_store op_nilCheck op_binI op_binS op_binB op_eqAgg op_isNilS op_not op_neg op_toInt op_mkIface op_mkFunc op_mkMap op_fieldAddr op_part op_extract op_len op_lenStr op_minmax op_indexArr share_int share_bool share_str share_slice share_nilslice cells_bool cells_int cells_str cells_ptr cells_cptr cells_nilptr cells_slice cells_nilslice cells_hslice cells_map cells_nilmap cells_func cells_nilfunc cells_yield cells_iface cells_niliface isCell_bool isCell_int isCell_str isCell_ptr isCell_cptr isCell_nilptr isCell_slice isCell_nilslice isCell_hslice isCell_map isCell_nilmap isCell_func isCell_nilfunc isCell_yield isCell_iface isCell_niliface cells_agg slen_nilslice slen_slice slen_hslice fillD splice rdPart ldP ldA ldR_cptr stP stA binI mm ints List.take_succ_cons List.take_zero List.drop_succ_cons List.drop_zero List.cons_append List.nil_append List.append_nil List.length_cons List.length_nil List.all_cons List.all_nil Bool.and_self Bool.and_true Bool.true_and List.map_cons List.map_nil Option.map_some List.head?_cons List.getElem?_cons_zero List.getElem?_cons_succ Nat.zero_add Nat.add_zero Nat.le_refl Nat.zero_le and_self true_and and_true hp_push len_push hp_setVar len_setVar Nat.add_right_cancel_iff Nat.lt_irrefl Nat.left_eq_add Nat.add_eq_left Nat.succ_ne_self Nat.lt_add_one Nat.lt_add_left_iff_pos Nat.lt_add_right_iff_pos Nat.ne_of_lt Nat.add_lt_add_iff_left
end Go.Den
end

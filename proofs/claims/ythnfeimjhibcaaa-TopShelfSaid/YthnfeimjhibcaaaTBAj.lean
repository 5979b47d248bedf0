/- Part of the proofs of laws of the package version. Texts: DenTac, DenVc, DenOpL. -/
import Derived.Test.YthnfeimjhibcaaaTBAi
set_option linter.unusedSimpArgs false
set_option linter.unusedVariables false
section
namespace Go.Den
def tg (tm:List PV) (i:Nat):PV:=tm.getD i undef
theorem ev_t (tm:List PV) (i:Nat):(Opd.t i).ev tm=tg tm i:=rfl
theorem ev_c (tm:List PV) (v:PV):(Opd.c v).ev tm=v:=rfl
theorem put_len (tm:List PV) (d:Option Nat) (v:PV):(put tm d v).length=tm.length:=by cases d <;> simp [put]
theorem tg_same {tm:List PV} {d:Nat} {v:PV} (h:d<tm.length):tg (put tm (some d) v) d=v:=by
 simp [tg,put,List.getD_eq_getElem?_getD,h]
theorem tg_ne {tm:List PV} {d i:Nat} {v:PV} (h:d≠i):tg (put tm (some d) v) i=tg tm i:=by
 simp [tg,put,List.getD_eq_getElem?_getD,List.getElem?_set_ne h]
theorem tg_none {tm:List PV} {i:Nat} {v:PV}:tg (put tm none v) i=tg tm i:=rfl
theorem wants_none (tm:List PV):wants tm none=true:=rfl
theorem wants_tg (tm:List PV) (d:Nat) (b:Bool):wants tm (some (d,b))=match tg tm d with
  | .bool c=>c==b
  | _=>false:=by
 simp only [wants,tg,List.getD_eq_getElem?_getD]
 cases h:tm[d]? with
 | none=>simp [undef]
 | some v=>cases v <;> rfl
theorem evs_nil (tm:List PV):evs tm []=[]:=rfl
theorem evs_cons (tm:List PV) (x:Opd) (xs:List Opd):evs tm (x::xs)=x.ev tm::evs tm xs:=rfl
section
variable {E:Env} {Q:Ex→List PV→St→Prop} {tm:List PV} {st:St}
def WOps (E:Env) (ops:List DOper) (Q:Ex→List PV→St→Prop) (tm:List PV) (st:St):Prop :=
 ∃ N e tm' st',(∀ n,N≤n→stepOps E (run E n) ops tm st=some (e,tm',st'))∧Q e tm' st'
theorem wp_region_ops {ops:List DOper} (h:WOps E ops Q tm st):Wp E (.region ops) Q tm st:=by
 obtain ⟨N,e,tm',st',h1,h2⟩:=h
 exact .of_step N (fun n hn=>h1 n hn) h2
theorem wops_nil (h:Q .normal tm st):WOps E [] Q tm st:=⟨0,_,_,_,fun _ _=>rfl,h⟩
theorem wops_cons {o:DOp} {dst:Option Nat} {g:Option (Nat×Bool)} {os:List DOper} {v:PV} {st1:St} (hw:wants tm g=true) (N:Nat) (ho:∀ n,N≤n→stepOp E (run E n) tm st o=some (.val v st1)) (h:WOps E os Q (put tm dst v) st1):WOps E (⟨o,dst,g⟩::os) Q tm st:=by
 obtain ⟨M,e,tm',st',h1,h2⟩:=h
 refine ⟨max N M,e,tm',st',fun n hn=>?_,h2⟩
 simp only [stepOps,hw,if_true,ho n (by omega),h1 n (by omega)]
theorem wops_skip {o:DOp} {dst:Option Nat} {g:Option (Nat×Bool)} {os:List DOper} (hw:wants tm g=false) (h:WOps E os Q (put tm dst undef) st):WOps E (⟨o,dst,g⟩::os) Q tm st:=by
 obtain ⟨M,e,tm',st',h1,h2⟩:=h
 refine ⟨M,e,tm',st',fun n hn=>?_,h2⟩
 simp only [stepOps,hw,Bool.false_eq_true,if_false,h1 n hn]
theorem wops_one {o:DOp} {dst:Option Nat} {g:Option (Nat×Bool)} {os:List DOper} {v:PV} {st1:St} (hw:wants tm g=true) (ho:∀ rec,stepOp E rec tm st o=some (.val v st1)) (h:WOps E os Q (put tm dst v) st1):WOps E (⟨o,dst,g⟩::os) Q tm st :=
 wops_cons hw 0 (fun n _=>ho _) h
theorem wops_call {f:Opd} {args:List Opd} {dst:Option Nat} {g:Option (Nat×Bool)} {os:List DOper} {fv:PV} {v:PV} {st1:St} (hw:wants tm g=true) (hf:f.ev tm=fv) (hc:Cl E fv (evs tm args) st (.ret v) st1) (h:WOps E os Q (put tm dst v) st1):WOps E (⟨.call f args,dst,g⟩::os) Q tm st:=by
 obtain ⟨N,hN⟩:=hc
 refine wops_cons hw N (fun n hn=>?_) h
 simp only [stepOp,hf,hN n hn]
def Finer (fs' fs:List Foot):Prop:=fs'.length=fs.length∧∀ (i:Nat) (f' f:Foot),fs'[i]? = some f'→fs[i]? = some f→(∀ l,clash l f'=true→clash l f=true)∧∀ l,f' = .ld l→f = .ld l
theorem Finer.refl (fs:List Foot):Finer fs fs:=⟨rfl,fun i f' f h1 h2=>by rw [h1] at h2;cases h2;exact ⟨fun _ h=>h,fun _ h=>h⟩⟩
theorem Finer.cons {fs' fs:List Foot} (h:Finer fs' fs) {f' f:Foot} (h1:∀ l,clash l f'=true→clash l f=true) (h2:∀ l,f' = .ld l→f = .ld l):Finer (f'::fs') (f::fs):=by
 refine ⟨by simp [h.1],fun i g' g h3 h4=>?_⟩
 cases i with
 | zero=>simp at h3 h4;subst h3 h4;exact ⟨h1,h2⟩
 | succ i=>exact h.2 i g' g (by simpa using h3) (by simpa using h4)
theorem Finer.ok {fs' fs:List Foot} (h:Finer fs' fs) {free:List (Nat×List Nat)} (ho:footOk fs free=true):footOk fs' free=true:=by
 simp only [footOk,List.all_eq_true] at ho ⊢
 intro p hp
 have h1:=ho p hp
 split
 ·rename_i l hl
  have hlt:p.1<fs.length:=by rw [← h.1];exact (List.getElem?_eq_some_iff.1 hl).1
  have h2:=(h.2 p.1 _ _ hl (List.getElem?_eq_getElem hlt)).2 l rfl
  have h3:fs[p.1]? = some (.ld l):=by rw [List.getElem?_eq_getElem hlt,h2]
  rw [h3] at h1
  simp only [List.all_eq_true] at h1 ⊢
  intro j hj
  have h4:=h1 j hj
  split
  ·rename_i f' hf'
   have hjt:j<fs.length:=by rw [← h.1];exact (List.getElem?_eq_some_iff.1 hf').1
   have h5:=(h.2 j _ _ hf' (List.getElem?_eq_getElem hjt)).1 l
   rw [List.getElem?_eq_getElem hjt] at h4
   simp only at h4
   cases hc:clash l f' with
   | false=>rfl
   | true=>rw [h5 hc] at h4;cases h4
  ·rfl
 ·rfl
def WOpsD (E:Env) (ops:List DOper) (Q:Ex→List PV→St→List Foot→Prop) (tm:List PV) (st:St):Prop :=
 ∃ N e tm' st' fs' fs,(∀ n,N≤n→stepOpsD E (run E n) ops tm st=some (e,tm',st',fs'))∧Finer fs' fs∧Q e tm' st' fs
theorem wp_dregion_ops {ops:List DOper} {free:List (Nat×List Nat)} (h:WOpsD E ops (fun e tm st fs=>footOk fs free=true∧Q e tm st) tm st):Wp E (.dregion ops free) Q tm st:=by
 obtain ⟨N,e,tm',st',fs',fs,h1,h4,h2,h3⟩:=h
 exact .of_step N (fun n hn=>by simp only [stepCode,h1 n hn,h4.ok h2,if_true]) h3
variable {QD:Ex→List PV→St→List Foot→Prop}
theorem wopsD_nil (h:QD .normal tm st []):WOpsD E [] QD tm st:=⟨0,_,_,_,_,_,fun _ _=>rfl,.refl _,h⟩
theorem wopsD_cons {o:DOp} {dst:Option Nat} {g:Option (Nat×Bool)} {os:List DOper} {v:PV} {st1:St} (hw:wants tm g=true) (N:Nat) (ho:∀ n,N≤n→stepOp E (run E n) tm { st with lo:=st.heap.length } o=some (.val v st1))
  (h:WOpsD E os (fun e tm' st' fs=>QD e tm' st' (footOf tm o st.heap.length st1.lo::fs)) (put tm dst v) { st1 with lo:=min st.lo st1.lo }):WOpsD E (⟨o,dst,g⟩::os) QD tm st:=by
 obtain ⟨M,e,tm',st',fs',fs,h1,h3,h2⟩:=h
 refine ⟨max N M,e,tm',st',_,_,fun n hn=>?_,h3.cons (f':=fineOf o (footOf tm o st.heap.length st1.lo) st.heap st1.heap) (fun l hc=>fine_le hc) (fun l hc=>fine_ld hc),h2⟩
 simp only [stepOpsD,hw,if_true,ho n (by omega),h1 n (by omega)]
theorem wopsD_fine {f:Opd} {args:List Opd} {dst:Option Nat} {g:Option (Nat×Bool)} {os:List DOper} {v:PV} {st1:St} (hw:wants tm g=true) (N:Nat) (ho:∀ n,N≤n→stepOp E (run E n) tm { st with lo:=st.heap.length } (.call f args)=some (.val v st1))
  (h:WOpsD E os (fun e tm' st' fs=>QD e tm' st' (.ch st1.lo st.heap st1.heap::fs)) (put tm dst v) { st1 with lo:=min st.lo st1.lo }):WOpsD E (⟨.call f args,dst,g⟩::os) QD tm st:=by
 obtain ⟨M,e,tm',st',fs',fs,h1,h3,h2⟩:=h
 refine ⟨max N M,e,tm',st',_,_,fun n hn=>?_,h3.cons (f':=fineOf (.call f args) (footOf tm (.call f args) st.heap.length st1.lo) st.heap st1.heap) (fun l hc=>?_) (fun l hc=>?_),h2⟩
 ·simp only [stepOpsD,hw,if_true,ho n (by omega),h1 n (by omega)]
 ·simp only [footOf] at hc
  split at hc
  ·simp [fineOf,clash] at hc
  ·exact hc
 ·simp only [footOf] at hc
  split at hc <;> simp [fineOf] at hc
theorem wopsD_skip {o:DOp} {dst:Option Nat} {g:Option (Nat×Bool)} {os:List DOper} (hw:wants tm g=false) (h:WOpsD E os (fun e tm' st' fs=>QD e tm' st' (.quiet::fs)) (put tm dst undef) st):WOpsD E (⟨o,dst,g⟩::os) QD tm st:=by
 obtain ⟨M,e,tm',st',fs',fs,h1,h3,h2⟩:=h
 refine ⟨M,e,tm',st',_,_,fun n hn=>?_,h3.cons (fun _ h=>h) (fun _ h=>h),h2⟩
 simp only [stepOpsD,hw,Bool.false_eq_true,if_false,h1 n hn]
theorem wopsD_pure {o:DOp} {dst:Option Nat} {g:Option (Nat×Bool)} {os:List DOper} {v:PV} (hlo:st.lo≤st.heap.length) (hw:wants tm g=true) (ho:∀ rec (st1:St),st1.heap=st.heap→stepOp E rec tm st1 o=some (.val v st1))
  (h:WOpsD E os (fun e tm' st' fs=>QD e tm' st' (footOf tm o st.heap.length st.heap.length::fs)) (put tm dst v) st):WOpsD E (⟨o,dst,g⟩::os) QD tm st:=by
 refine wopsD_cons hw 0 (fun n _=>ho _ _ rfl) ?_
 simp only [Nat.min_eq_left hlo]
 exact h
end
theorem wops_one' {E:Env} {Q:Ex→List PV→St→Prop} {tm:List PV} {st:St} {o:DOp} {dst:Option Nat} {g:Option (Nat×Bool)} {os:List DOper} {b:Bool} {r:Option OpR} {v:PV} {st1:St} (hw:wants tm g=b) (hb:b=true) (ho:∀ rec,stepOp E rec tm st o=r) (hr:r=some (.val v st1)) (h:WOps E os Q (put tm dst v) st1):WOps E (⟨o,dst,g⟩::os) Q tm st :=
 wops_one (hw.trans hb) (fun rec=>(ho rec).trans hr) h
def FnQ (rs:List DRes) (st:St) (r:CR) (st':St):Ex→List PV→St→Prop:=fun e tm1 st1=>match e with
 | .normal | .ret=>∃ v,results tm1 st1.heap rs=some v∧∃ v',finishCall st st1 v=(v',st')∧r = .ret v'
 | .panic v=>r = .panic v∧st'={ heap:=st1.heap,lo:=min st.lo st1.lo }
 | .exit _=>False
theorem cl_fn {E:Env} {st:St} {g:Nat} {a c args:List PV} {n:Nat} {rs:List DRes} {b:DCode} {r:CR} {st':St} (hp:∀ rec,E.prim g rec (a++args++c) st=none) (hf:E.fn g=some ⟨n,rs,b⟩) (k:Nat) (hk:(a++args++c).length=k) (hkn:k≤n)
  (h:∀ tm,tm.length=n→(∀ i,i<k→tg tm i=(a++args++c).getD i undef)→Wp E b (FnQ rs st r st') tm { heap:=st.heap,lo:=st.heap.length }):Cl E (.func g a c) args st r st':=by
 refine cl_of_wp hp hf (h _ (by simp at hk ⊢;omega) (fun i hi=>?_))
 unfold tg
 rw [List.getD_eq_getElem?_getD,List.getD_eq_getElem?_getD,List.getElem?_append_left (by omega)]
def PV.scalar:PV→Bool
 | .bool _ | .int _ _ | .str _ | .nilptr | .nilslice | .nilmap | .nilfunc | .niliface=>true
 | _=>false
def PV.plain:PV→Bool
 | .agg cs=>cs.all PV.scalar
 | .tuple cs=>cs.all fun p=>p.scalar || (match p with | .agg cs=>cs.all PV.scalar|_=>false)
 | v=>v.scalar
theorem scalar_low {m:Nat} {p:PV} (h:p.scalar=true):p.low m=true:=by cases p <;> simp_all [PV.scalar,PV.low]
theorem scalars_low {m:Nat}:∀ {cs:List PV},cs.all PV.scalar=true→lowL m cs=true
 | [],_=>rfl
 | c::cs,h=>by
  simp only [List.all_cons,Bool.and_eq_true] at h
  simp only [lowL,Bool.and_eq_true]
  exact ⟨scalar_low h.1,scalars_low h.2⟩
def PV.flat (p:PV):Bool:=p.scalar || (match p with | .agg cs=>cs.all PV.scalar|_=>false)
theorem flat_low {m:Nat} {p:PV} (h:p.flat=true):p.low m=true:=by
 unfold PV.flat at h
 simp only [Bool.or_eq_true] at h
 rcases h with h|h
 ·exact scalar_low h
 ·cases p <;> simp at h
  rename_i cs
  simp only [PV.low]
  exact scalars_low (by simpa using h)
theorem flat_freeze {m:Nat} {h:List HObj} {p:PV} (hp:p.flat=true):freeze1 m h p=(p,h):=by
 cases p <;> first|rfl|(simp [PV.flat,PV.scalar] at hp)
theorem flat_retag {m:Nat} {h:List HObj} {s:List Nat} {p:PV} (hp:p.flat=true):retag1 h m s p=some (p,s):=by
 have:=flat_low (m:=m) hp
 cases p <;> first|(simp [retag1,this];done)|(simp [PV.flat,PV.scalar] at hp)
theorem flats_freeze {m:Nat} {h:List HObj}:∀ {ps:List PV},ps.all PV.flat=true→freezeL m h ps=(ps,h)
 | [],_=>rfl
 | p::ps,hp=>by
  simp only [List.all_cons,Bool.and_eq_true] at hp
  simp only [freezeL,flat_freeze hp.1,flats_freeze hp.2]
theorem flats_retag {m:Nat} {h:List HObj} {s:List Nat}:∀ {ps:List PV},ps.all PV.flat=true→retagL h m s ps=some (ps,s)
 | [],_=>rfl
 | p::ps,hp=>by
  simp only [List.all_cons,Bool.and_eq_true] at hp
  simp only [retagL,flat_retag hp.1,flats_retag hp.2]
theorem finish_flat {st st1:St} {v:PV} (h:st.heap.length≤st1.lo) (hv:v.flat=true):finishCall st st1 v=(v,st):=by
 unfold finishCall
 rw [if_pos h]
 have hl:letGo st.heap.length st1.heap v=some (v,0):=by
  cases v <;> simp only [letGo,flat_freeze hv,flat_retag hv,Option.map_some,List.length_nil]
  case agg cs =>
   have:cs.all PV.flat=true:=by
    simp only [PV.flat,PV.scalar,Bool.false_or,List.all_eq_true] at hv ⊢
    intro x hx
    simp [hv x hx]
   simp [flats_freeze this,flats_retag this]
  case tuple cs=>simp [PV.flat,PV.scalar] at hv
 rw [hl]
 simp
theorem finish_tuple {st st1:St} {vs:List PV} (h:st.heap.length≤st1.lo) (hv:vs.all PV.flat=true):finishCall st st1 (.tuple vs)=(.tuple vs,st):=by
 unfold finishCall
 rw [if_pos h]
 simp [letGo,flats_freeze hv,flats_retag hv]
theorem fnq_flat {rs:List DRes} {st:St} {tm1:List PV} {st1:St} {v:PV} (hr:results tm1 st1.heap rs=some v) (h:st.heap.length≤st1.lo) (hv:v.flat=true):FnQ rs st (.ret v) st .ret tm1 st1:=⟨v,hr,v,finish_flat h hv,rfl⟩
theorem fnq_tuple {rs:List DRes} {st:St} {tm1:List PV} {st1:St} {vs:List PV} (hr:results tm1 st1.heap rs=some (.tuple vs)) (h:st.heap.length≤st1.lo) (hv:vs.all PV.flat=true):FnQ rs st (.ret (.tuple vs)) st .ret tm1 st1:=⟨_,hr,_,finish_tuple h hv,rfl⟩
theorem rdRes_tmp (tm:List PV) (h:List HObj) (t:Nat):rdRes tm h (.tmp t)=some (tg tm t):=rfl
theorem rdRes_cell {tm:List PV} {h:List HObj} {t l off:Nat} {agg:Bool} {sz:Nat} (ht:tg tm t = .ptr l off):rdRes tm h (.cell t agg sz)=match h[l]? with
  | some (.var cs)=>if off≤cs.length then rdPart agg sz (cs.drop off) else none
  | _=>none:=by
 unfold tg at ht
 simp only [rdRes,ht]
 rfl
theorem results_one {tm:List PV} {h:List HObj} {r:DRes} {v:PV} (hr:rdRes tm h r=some v):results tm h [r]=some v:=by simp [results,rdResL,hr]
theorem results_two {tm:List PV} {h:List HObj} {r s:DRes} {v u:PV} (hr:rdRes tm h r=some v) (hs:rdRes tm h s=some u):results tm h [r,s]=some (.tuple [v,u]):=by simp [results,rdResL,hr,hs]
attribute [irreducible] WOps WOpsD FnQ
end Go.Den
end
section
namespace Go.Den
def opsW:List DOper→List Nat
 | []=>[]
 | o::os=>(match o.dst with|some d=>[d]|none=>[])++opsW os
def writes:DCode→List Nat
 | .region ops=>opsW ops
 | .dregion ops _=>opsW ops
 | .seq a b=>writes a++writes b
 | .cond _ a b=>writes a++writes b
 | .block _ b=>writes b
 | .loop b=>writes b
 | .scope b=>writes b
 | _=>[]
def Same (W:List Nat) (tm tm':List PV):Prop:=tm'.length=tm.length∧∀ i,W.contains i=false→tg tm' i=tg tm i
theorem Same.refl (W:List Nat) (tm:List PV):Same W tm tm:=⟨rfl,fun _ _=>rfl⟩
theorem Same.trans {W:List Nat} {a b c:List PV} (h:Same W a b) (h':Same W b c):Same W a c:=⟨h'.1.trans h.1,fun i hi=>(h'.2 i hi).trans (h.2 i hi)⟩
theorem Same.mono {W W':List Nat} {a b:List PV} (h:Same W a b) (hw:∀ i,W'.contains i=false→W.contains i=false):Same W' a b:=⟨h.1,fun i hi=>h.2 i (hw i hi)⟩
theorem contains_append_false {a b:List Nat} {i:Nat} (h:(a++b).contains i=false):a.contains i=false∧b.contains i=false:=by
 simp only [List.contains_eq_mem,List.mem_append,decide_eq_false_iff_not,not_or] at h ⊢
 exact h
theorem Same.put {W:List Nat} {tm:List PV} {dst:Option Nat} {v:PV} (h:∀ d,dst=some d→W.contains d=true):Same W tm (put tm dst v):=by
 refine ⟨put_len _ _ _,fun i hi=>?_⟩
 cases dst with
 | none=>rfl
 | some d =>
  refine tg_ne (fun hd=>?_)
  subst hd
  rw [h d rfl] at hi
  cases hi
theorem stepOps_same {E:Env} {rec:Rec}:∀ {ops:List DOper} {tm:List PV} {st:St} {e:Ex} {tm':List PV} {st':St},stepOps E rec ops tm st=some (e,tm',st')→Same (opsW ops) tm tm'
 | [],tm,st,e,tm',st',h=>by simp only [stepOps,Option.some.injEq,Prod.mk.injEq] at h;rw [h.2.1];exact .refl _ _
 | o::os,tm,st,e,tm',st',h=>by
  have hd:∀ d,o.dst=some d→(opsW (o::os)).contains d=true:=fun d hd=>by simp [opsW,hd]
  have hm:∀ i,(opsW (o::os)).contains i=false→(opsW os).contains i=false:=fun i hi=>(contains_append_false hi).2
  simp only [stepOps] at h
  split at h
  ·split at h
   ·exact (Same.put hd).trans ((stepOps_same h).mono hm)
   ·simp only [Option.some.injEq,Prod.mk.injEq] at h;rw [h.2.1];exact .refl _ _
   ·cases h
  ·exact (Same.put hd).trans ((stepOps_same h).mono hm)
theorem stepOpsD_same {E:Env} {rec:Rec}:∀ {ops:List DOper} {tm:List PV} {st:St} {e:Ex} {tm':List PV} {st':St} {fs:List Foot},stepOpsD E rec ops tm st=some (e,tm',st',fs)→Same (opsW ops) tm tm'
 | [],tm,st,e,tm',st',fs,h=>by simp only [stepOpsD,Option.some.injEq,Prod.mk.injEq] at h;rw [h.2.1];exact .refl _ _
 | o::os,tm,st,e,tm',st',fs,h=>by
  have hd:∀ d,o.dst=some d→(opsW (o::os)).contains d=true:=fun d hd=>by simp [opsW,hd]
  have hm:∀ i,(opsW (o::os)).contains i=false→(opsW os).contains i=false:=fun i hi=>(contains_append_false hi).2
  simp only [stepOpsD] at h
  split at h
  ·split at h
   ·split at h
    ·rename_i h1
     simp only [Option.some.injEq,Prod.mk.injEq] at h
     obtain ⟨rfl,rfl,rfl,_⟩:=h
     exact (Same.put hd).trans ((stepOpsD_same h1).mono hm)
    ·cases h
   ·split at h
    ·simp only [Option.some.injEq,Prod.mk.injEq] at h;rw [h.2.1];exact .refl _ _
    ·cases h
   ·cases h
  ·split at h
   ·rename_i h1
    simp only [Option.some.injEq,Prod.mk.injEq] at h
    obtain ⟨rfl,rfl,rfl,_⟩:=h
    exact (Same.put hd).trans ((stepOpsD_same h1).mono hm)
   ·cases h
theorem code_same {E:Env}:∀ {n:Nat} {c:DCode} {tm:List PV} {st:St} {e:Ex} {tm':List PV} {st':St},(run E n).code c tm st=some (e,tm',st')→Same (writes c) tm tm'
 | 0,c,tm,st,e,tm',st',h=>by cases h
 | n+1,c,tm,st,e,tm',st',h=>by
  have h:stepCode E (run E n) c tm st=some (e,tm',st'):=h
  cases c with
  | skip=>simp only [stepCode,Option.some.injEq,Prod.mk.injEq] at h;rw [h.2.1];exact .refl _ _
  | region ops=>exact stepOps_same h
  | dregion ops free =>
   simp only [stepCode] at h
   split at h
   ·rename_i h1
    split at h
    ·simp only [Option.some.injEq,Prod.mk.injEq] at h
     obtain ⟨rfl,rfl,rfl⟩:=h
     exact stepOpsD_same h1
    ·cases h
   ·cases h
  | seq a b =>
   have ha:∀ i,(writes (.seq a b)).contains i=false→(writes a).contains i=false:=fun i hi=>(contains_append_false hi).1
   have hb:∀ i,(writes (.seq a b)).contains i=false→(writes b).contains i=false:=fun i hi=>(contains_append_false hi).2
   simp only [stepCode] at h
   split at h
   ·rename_i h1
    exact ((code_same h1).mono ha).trans ((code_same h).mono hb)
   ·exact (code_same h).mono ha
  | cond x a b =>
   have ha:∀ i,(writes (.cond x a b)).contains i=false→(writes a).contains i=false:=fun i hi=>(contains_append_false hi).1
   have hb:∀ i,(writes (.cond x a b)).contains i=false→(writes b).contains i=false:=fun i hi=>(contains_append_false hi).2
   simp only [stepCode] at h
   split at h
   ·exact (code_same h).mono ha
   ·exact (code_same h).mono hb
   ·cases h
  | block id b =>
   simp only [stepCode] at h
   split at h
   ·rename_i h1
    split at h
    all_goals
     simp only [Option.some.injEq,Prod.mk.injEq] at h
     obtain ⟨rfl,rfl,rfl⟩:=h
     exact code_same (c:=b) h1
   ·exact code_same (c:=b) h
  | loop b =>
   simp only [stepCode] at h
   split at h
   ·rename_i h1
    exact (code_same (c:=b) h1).trans (code_same (c := .loop b) h)
   ·exact code_same (c:=b) h
  | rangeFunc f ps a b =>
   simp only [stepCode] at h
   split at h
   ·split at h
    ·split at h
     all_goals first
      | (simp only [Option.some.injEq,Prod.mk.injEq] at h;rw [h.2.1];exact .refl _ _)
      | cases h
    ·cases h
   ·cases h
  | exit id=>simp only [stepCode,Option.some.injEq,Prod.mk.injEq] at h;rw [h.2.1];exact .refl _ _
  | scope b=>exact code_same (c:=b) h
  | ret=>simp only [stepCode,Option.some.injEq,Prod.mk.injEq] at h;rw [h.2.1];exact .refl _ _
section
variable {E:Env} {Q:Ex→List PV→St→Prop} {tm:List PV} {st:St}
theorem wp_frame {c:DCode} (h:Wp E c Q tm st):Wp E c (fun e tm' st'=>Q e tm' st'∧Same (writes c) tm tm') tm st:=by
 unfold Wp at h ⊢
 obtain ⟨N,e,tm',st',h1,h2⟩:=h
 exact ⟨N,e,tm',st',h1,h2,code_same (h1 N (Nat.le_refl _))⟩
theorem wp_loopF {b:DCode} (J:Nat→List PV→St→Prop) (h:∀ k tm1 st1,J k tm1 st1→Same (writes b) tm tm1→Wp E b (andThen (fun tm2 st2=>∃ j,j<k∧J j tm2 st2) Q) tm1 st1) (k:Nat) (hJ:J k tm st):Wp E (.loop b) Q tm st:=by
 refine wp_loop (fun k tm1 st1=>J k tm1 st1∧Same (writes b) tm tm1) (fun k tm1 st1 ⟨h1,h2⟩=>?_) k ⟨hJ,.refl _ _⟩
 refine (wp_frame (h k tm1 st1 h1 h2)).mono fun e tm2 st2 ⟨h3,h4⟩=>?_
 unfold andThen at h3 ⊢
 cases e with
 | normal =>
  obtain ⟨j,h5,h6⟩:=h3
  exact ⟨j,h5,h6,h2.trans h4⟩
 | ret=>exact h3
 | exit i=>exact h3
 | panic v=>exact h3
theorem tg_put (tm:List PV) (d i:Nat) (v:PV):tg (put tm (some d) v) i=if d=i then (if d<tm.length then v else tg tm i) else tg tm i:=by
 split
 ·rename_i h;subst h
  split
  ·rename_i h;exact tg_same h
  ·rename_i h
   simp [tg,put,List.set_eq_of_length_le (Nat.le_of_not_lt h)]
 ·rename_i h;exact tg_ne h
def hp (st:St) (l:Nat):Option HObj:=st.heap[l]?
def St.push (st:St) (o:HObj):St:={ heap:=st.heap++[o],lo:=st.lo }
theorem len_push (st:St) (o:HObj):(st.push o).heap.length=st.heap.length+1:=by simp [St.push]
theorem len_setVar (st:St) (l:Nat) (o:HObj):(setVar st l o).heap.length=st.heap.length:=by simp [setVar]
theorem lo_push (st:St) (o:HObj):(st.push o).lo=st.lo:=rfl
theorem lo_setVar (st:St) (l:Nat) (o:HObj):(setVar st l o).lo=min st.lo l:=rfl
theorem hp_push (st:St) (o:HObj) (l:Nat):hp (st.push o) l=if l=st.heap.length then some o else hp st l:=by
 simp only [hp,St.push]
 split
 ·rename_i h;subst h;simp
 ·rename_i h
  by_cases h1:l<st.heap.length
  ·rw [List.getElem?_append_left h1]
  ·rw [List.getElem?_eq_none (by simp;omega),List.getElem?_eq_none (by omega)]
theorem hp_setVar (st:St) (l l':Nat) (o:HObj):hp (setVar st l o) l'=if l'=l then (if l<st.heap.length then some o else none) else hp st l':=by
 simp only [hp,setVar]
 split
 ·rename_i h;subst h
  split
  ·rename_i h;simp [h]
  ·rename_i h;rw [List.getElem?_eq_none (by simp;omega)]
 ·rename_i h;rw [List.getElem?_set_ne (fun e=>h e.symm)]
theorem hp_lt {st:St} {l:Nat} {o:HObj} (h:hp st l=some o):l<st.heap.length:=by
 unfold hp at h
 exact (List.getElem?_eq_some_iff.1 h).1
structure Fr (m:Nat) (st0 st:St):Prop where
 len:st0.heap.length≤st.heap.length
 lo:min m st0.lo≤st.lo
 old:∀ l,l<m→hp st l=hp st0 l
 up:st.lo≤st0.lo
theorem Fr.refl (m:Nat) (st:St):Fr m st st:=⟨Nat.le_refl _,Nat.min_le_right _ _,fun _ _=>rfl,Nat.le_refl _⟩
theorem Fr.trans {m:Nat} {a b c:St} (h:Fr m a b) (h':Fr m b c):Fr m a c:=⟨Nat.le_trans h.len h'.len,Nat.le_trans (by have:=h.lo;omega) h'.lo,fun l hl=>(h'.old l hl).trans (h.old l hl),Nat.le_trans h'.up h.up⟩
theorem Fr.push {m:Nat} {a b:St} {o:HObj} (h:Fr m a b) (hm:m≤b.heap.length):Fr m a (b.push o):=⟨by rw [len_push];have:=h.len;omega,h.lo,fun l hl=>by rw [hp_push,if_neg (by omega)];exact h.old l hl,h.up⟩
theorem Fr.setVar {m:Nat} {a b:St} {l:Nat} {o:HObj} (h:Fr m a b) (hm:m≤l):Fr m a (setVar b l o):=⟨by rw [len_setVar];exact h.len,by rw [lo_setVar];have:=h.lo;omega,fun i hi=>by rw [hp_setVar,if_neg (by omega)];exact h.old i hi,by rw [lo_setVar];have:=h.up;omega⟩
theorem Fr.mono {m m':Nat} {a b:St} (h:Fr m a b) (hm:m'≤m):Fr m' a b:=⟨h.len,by have:=h.lo;omega,fun l hl=>h.old l (by omega),h.up⟩
end
end Go.Den
end
section
namespace Go.Den
def PV.sl:PV→Option (Nat×List PV)
 | .nilslice=>some (0,[])
 | .slice _ n cs=>some (n,cs)
 | _=>none
def PV.slen:PV→Option Nat
 | .nilslice=>some 0
 | .slice _ n _=>some n
 | .hslice _ _ n=>some n
 | .vslice _ _ n=>some n
 | _=>none
structure SlOf {α:Type} (sz:Nat) (enc:α→List PV) (F:PV) (l:List α):Prop where
 sl:F.sl=some (l.length,l.flatMap enc)
 len:∀ a∈l,(enc a).length=sz
theorem sl_cells {F:PV} {r:Nat×List PV} (h:F.sl=some r):F.cells=[F]:=by cases F <;> first|rfl|cases h
theorem sl_isCell {F:PV} {r:Nat×List PV} (h:F.sl=some r):F.isCell=true:=by cases F <;> first|rfl|cases h
theorem sl_slen {F:PV} {n:Nat} {cs:List PV} (h:F.sl=some (n,cs)):F.slen=some n:=by
 cases F <;> simp_all [PV.sl,PV.slen]
theorem SlOf.cells {α:Type} {sz:Nat} {enc:α→List PV} {F:PV} {l:List α} (h:SlOf sz enc F l):F.cells=[F]:=sl_cells h.sl
theorem SlOf.isCell {α:Type} {sz:Nat} {enc:α→List PV} {F:PV} {l:List α} (h:SlOf sz enc F l):F.isCell=true:=sl_isCell h.sl
theorem SlOf.slen {α:Type} {sz:Nat} {enc:α→List PV} {F:PV} {l:List α} (h:SlOf sz enc F l):F.slen=some l.length:=sl_slen h.sl
theorem SlOf.nil {α:Type} {sz:Nat} {enc:α→List PV}:SlOf sz enc .nilslice ([]:List α):=⟨rfl,fun _ h=>by cases h⟩
theorem flatMap_len {α:Type} {sz:Nat} {enc:α→List PV}:∀ {l:List α},(∀ a∈l,(enc a).length=sz)→(l.flatMap enc).length=l.length*sz
 | [],_=>by simp
 | a::l,h=>by
  rw [List.flatMap_cons,List.length_append,h a (by simp),flatMap_len (fun b hb=>h b (by simp [hb])),List.length_cons,Nat.succ_mul]
  omega
theorem flatMap_drop {α:Type} {sz:Nat} {enc:α→List PV}:∀ {l:List α} (i:Nat),(∀ a∈l,(enc a).length=sz)→(l.flatMap enc).drop (i*sz)=(l.drop i).flatMap enc
 | l,0,_=>by simp
 | [],i+1,_=>by simp
 | a::l,i+1,h=>by
  rw [List.flatMap_cons,List.drop_succ_cons,Nat.succ_mul,Nat.add_comm,← List.drop_drop,← h a (by simp),List.drop_left,h a (by simp)]
  exact flatMap_drop i (fun b hb=>h b (by simp [hb]))
theorem flatMap_take {α:Type} {sz:Nat} {enc:α→List PV}:∀ {l:List α} (i:Nat),(∀ a∈l,(enc a).length=sz)→(l.flatMap enc).take (i*sz)=(l.take i).flatMap enc
 | l,0,_=>by simp
 | [],i+1,_=>by simp
 | a::l,i+1,h=>by
  rw [List.flatMap_cons,List.take_succ_cons,Nat.succ_mul,Nat.add_comm,List.flatMap_cons,← h a (by simp),List.take_length_add_append,h a (by simp)]
  rw [flatMap_take i (fun b hb=>h b (by simp [hb]))]
theorem SlOf.at {α:Type} {sz:Nat} {enc:α→List PV} {F:PV} {l:List α} (h:SlOf sz enc F l) {i:Nat} (hi:i<l.length):((l.flatMap enc).drop (i*sz)).take sz=enc l[i]:=by
 rw [flatMap_drop i h.len,List.drop_eq_getElem_cons hi,List.flatMap_cons]
 have:=h.len l[i] (List.getElem_mem hi)
 rw [List.take_append_of_le_length (by omega),List.take_of_length_le (by omega)]
section
variable {E:Env} {rec:Rec} {tm:List PV} {st:St}
theorem op_val {x:Opd}:stepOp E rec tm st (.val x)=some (.val (x.ev tm) st):=rfl
theorem op_pick {c a b:Opd}:stepOp E rec tm st (.pick c a b)=match c.ev tm with
  | .bool t=>some (.val (if t then a.ev tm else b.ev tm) st)
  | _=>none:=rfl
theorem op_box {x:Opd}:stepOp E rec tm st (.box x)=some (.val (.ptr st.heap.length 0) (st.push (.var (x.ev tm).cells))):=rfl
theorem op_alloc {z:List PV}:stepOp E rec tm st (.alloc z)=some (.val (.ptr st.heap.length 0) (st.push (.var z))):=rfl
theorem op_build {z:List PV} {ps:List (Nat×Nat×Opd)}:stepOp E rec tm st (.build z ps)=match fillD tm z ps with
  | some cs=>some (.val (.agg cs) st)
  | none=>none:=rfl
theorem op_buildSlice {sz n:Nat} {z:List PV} {ps:List (Nat×Nat×Opd)}:stepOp E rec tm st (.buildSlice sz n z ps)=match fillD tm z ps with
  | some cs=>some (.val (.slice (.tag st.heap.length sz) n (cs.map PV.share)) (st.push (.tag true)))
  | none=>none:=rfl
theorem op_buildSliceS {sz n:Nat} {z:List PV} {ps:List (Nat×Nat×Opd)}:stepOp E rec tm st (.buildSliceS sz n z ps)=match fillD tm z ps with
  | some cs=>some (.val (.slice .shared n (cs.map PV.share)) st)
  | none=>none:=rfl
def ldR (agg:Bool) (sz:Nat) (a:PV) (st:St):Option OpR :=
 match a with
 | .ptr l off=>match hp st l with
  | some (.var cs)=>if off≤cs.length then (rdPart agg sz (cs.drop off)).map (.val · st) else none
  | _=>none
 | .cptr cs=>(rdPart agg sz cs).map (.val · st)
 | .aptr l off=>match hp st l with
  | some (.arr cs)=>if off≤cs.length then (rdPart agg sz (cs.drop off)).map (.val · st) else none
  | _=>none
 | _=>none
theorem op_load {agg:Bool} {sz:Nat} {a:Opd}:stepOp E rec tm st (.load agg sz a)=ldR agg sz (a.ev tm) st:=rfl
theorem ldR_cptr {agg:Bool} {sz:Nat} {cs:List PV}:ldR agg sz (.cptr cs) st=(rdPart agg sz cs).map (.val · st):=rfl
def stR (sz:Nat) (a x:PV) (st:St):Option OpR :=
 match a with
 | .ptr l off=>match hp st l with
  | some (.var cs)=>if x.cells.length=sz∧off+sz≤cs.length∧x.cells.all PV.isCell=true then some (.val undef (setVar st l (.var (splice cs off x.cells)))) else none
  | _=>none
 | .aptr l off=>match hp st l with
  | some (.arr cs)=>if x.cells.length=sz∧off+sz≤cs.length∧x.cells.all PV.isCell=true then some (.val undef (setVar st l (.arr (splice cs off x.cells)))) else none
  | _=>none
 | _=>none
theorem op_store {sz:Nat} {a x:Opd}:stepOp E rec tm st (.store sz a x)=stR sz (a.ev tm) (x.ev tm) st:=rfl
theorem op_nilCheck {x:Opd}:stepOp E rec tm st (.nilCheck x)=match x.ev tm with
  | .ptr l o=>some (.val (.ptr l o) st)
  | .cptr cs=>some (.val (.cptr cs) st)
  | .func f a c=>some (.val (.func f a c) st)
  | _=>none:=rfl
theorem op_binI {op:BinOp} {x y:Opd}:stepOp E rec tm st (.binI op x y)=match x.ev tm,y.ev tm with
  | .int k a,.int k' b=>if k=k' then (binI op k a b).map (.val · st) else none
  | _,_=>none:=rfl
theorem op_binS {op:BinOp} {x y:Opd}:stepOp E rec tm st (.binS op x y)=match x.ev tm,y.ev tm with
  | .str a,.str b=>(binS op a b).map (.val · st)
  | _,_=>none:=rfl
theorem op_binB {n:Bool} {x y:Opd}:stepOp E rec tm st (.binB n x y)=match x.ev tm,y.ev tm with
  | .bool a,.bool b=>some (.val (.bool (if n then !(a==b) else a==b)) st)
  | _,_=>none:=rfl
theorem op_eqAgg {n:Bool} {k:Nat} {x y:Opd}:stepOp E rec tm st (.eqAgg n k x y)=match x.ev tm,y.ev tm with
  | .agg a,.agg b=>match ints a,ints b with
   | some l,some m=>if l.length=k∧m.length=k then some (.val (.bool (if n then !(l==m) else l==m)) st) else none
   | _,_=>none
  | _,_=>none:=rfl
theorem op_isNilS {n:Bool} {x:Opd}:stepOp E rec tm st (.isNilS n x)=match x.ev tm with
  | .nilslice=>some (.val (.bool (!n)) st)
  | .slice _ _ _=>some (.val (.bool n) st)
  | _=>none:=rfl
theorem op_not {x:Opd}:stepOp E rec tm st (.not x)=match x.ev tm with
  | .bool b=>some (.val (.bool !b) st)
  | _=>none:=rfl
theorem op_neg {x:Opd}:stepOp E rec tm st (.neg x)=match x.ev tm with
  | .int k n=>some (.val (.int k (k.wrap (0 - n))) st)
  | _=>none:=rfl
theorem op_toInt {k:IntKind} {x:Opd}:stepOp E rec tm st (.toInt k x)=match x.ev tm with
  | .int _ n=>some (.val (.int k (k.wrap n)) st)
  | _=>none:=rfl
theorem op_mkIface {t:Nat} {x:Opd}:stepOp E rec tm st (.mkIface t x)=some (.val (.iface t (x.ev tm)) st):=rfl
theorem op_mkFunc {f:Nat} {a c:List Opd}:stepOp E rec tm st (.mkFunc f a c)=some (.val (.func f (evs tm a) (evs tm c)) st):=rfl
theorem op_mkMap:stepOp E rec tm st .mkMap=some (.val (.map st.heap.length) (st.push (.map []))):=rfl
theorem op_fieldAddr {off:Nat} {x:Opd}:stepOp E rec tm st (.fieldAddr off x)=match x.ev tm with
  | .ptr l o=>some (.val (.ptr l (o+off)) st)
  | .aptr l o=>some (.val (.aptr l (o+off)) st)
  | .cptr cs=>if off≤cs.length then some (.val (.cptr (cs.drop off)) st) else none
  | _=>none:=rfl
theorem op_part {agg:Bool} {sz off:Nat} {x:Opd}:stepOp E rec tm st (.part agg sz off x)=match x.ev tm with
  | .agg cs=>if off≤cs.length then (rdPart agg sz (cs.drop off)).map (.val · st) else none
  | _=>none:=rfl
theorem op_extract {x:Opd} {i:Nat}:stepOp E rec tm st (.extract x i)=match x.ev tm with
  | .tuple vs=>(vs[i]?).map (.val · st)
  | _=>none:=rfl
theorem op_len {x:Opd}:stepOp E rec tm st (.len x)=match (x.ev tm).slen with
  | some n=>some (.val (.int .i64 n) st)
  | none=>none:=by
 simp only [stepOp]
 cases x.ev tm <;> rfl
theorem op_lenStr {x:Opd}:stepOp E rec tm st (.lenStr x)=match x.ev tm with
  | .str s=>some (.val (.int .i64 s.size) st)
  | _=>none:=rfl
theorem op_minmax {mx:Bool} {x:Opd} {ys:List Opd}:stepOp E rec tm st (.minmax mx x ys)=(mm mx (x.ev tm) (evs tm ys)).map (.val · st):=rfl
theorem op_indexArr {agg:Bool} {len sz:Nat} {x i:Opd}:stepOp E rec tm st (.indexArr agg len sz x i)=match x.ev tm,i.ev tm with
  | .agg cs,.int _ i=>if 0≤i∧i<len∧i.toNat*sz≤cs.length then (rdPart agg sz (cs.drop (i.toNat*sz))).map (.val · st) else none
  | _,_=>none:=rfl
end
section
variable {E:Env} {Q:Ex→List PV→St→Prop} {QD:Ex→List PV→St→List Foot→Prop} {tm:List PV} {st:St}
theorem step_index {α:Type} {rec:Rec} {sz:Nat} {x i:Opd} {enc:α→List PV} {F:PV} {l:List α} {k:IntKind} {j:Int} (hx:x.ev tm=F) (hF:SlOf sz enc F l) (hi:i.ev tm = .int k j) (h0:0≤j) (hj:j.toNat<l.length):stepOp E rec tm st (.indexAddr sz x i)=some (.val (.cptr (enc l[j.toNat])) st):=by
 have h1:=hF.sl
 simp only [stepOp,hx,hi]
 cases F <;> simp only [PV.sl,Option.some.injEq,Prod.mk.injEq,reduceCtorEq] at h1
 ·obtain ⟨rfl,rfl⟩:=h1
  dsimp only
  rw [if_pos ⟨h0,by omega⟩,hF.at hj]
 ·rw [← h1.1] at hj;simp at hj
theorem step_slice {α:Type} {rec:Rec} {sz:Nat} {x:Opd} {lo hi:Option Opd} {enc:α→List PV} {F:PV} {l:List α} {a b:Nat} (hx:x.ev tm=F) (hF:SlOf sz enc F l) (hb:bound tm hi l.length=some b) (ha:bound tm lo 0=some a) (hab:a≤b) (hbl:b≤l.length) :
  ∃ F',stepOp E rec tm st (.slice sz x lo hi)=some (.val F' st)∧SlOf sz enc F' ((l.drop a).take (b - a)):=by
 have h1:=hF.sl
 simp only [stepOp,hx]
 have hl:∀ e∈(l.drop a).take (b - a),(enc e).length=sz:=fun e he=>hF.len e (List.mem_of_mem_drop (List.mem_of_mem_take he))
 cases F <;> simp only [PV.sl,Option.some.injEq,Prod.mk.injEq,reduceCtorEq] at h1
 ·rename_i o n cs
  obtain ⟨rfl,rfl⟩:=h1
  simp only [hb,ha]
  rw [if_pos ⟨hab,hbl,flatMap_len hF.len⟩]
  refine ⟨_,rfl,?_,hl⟩
  simp only [PV.sl]
  rw [flatMap_drop a hF.len,flatMap_take (b - a) (fun e he=>hF.len e (List.mem_of_mem_drop he))]
  congr 2
  simp;omega
 ·have:l=[]:=by simpa using h1.1.symm
  subst this
  simp only [List.length_nil,Nat.le_zero] at hbl
  subst hbl
  have:a=0:=by omega
  subst this
  simp only [List.length_nil] at hb
  simp only [hb,ha]
  exact ⟨_,rfl,rfl,hl⟩
theorem wopsD_pure' {o:DOp} {dst:Option Nat} {g:Option (Nat×Bool)} {os:List DOper} {b:Bool} {v:PV} (hlo:st.lo≤st.heap.length) (hw:wants tm g=b) (hb:b=true) (ho:∀ rec (st1:St),st1.heap=st.heap→(∀ l,hp st1 l=hp st l)→stepOp E rec tm st1 o=some (.val v st1))
  (h:WOpsD E os (fun e tm' st' fs=>QD e tm' st' (footOf tm o st.heap.length st.heap.length::fs)) (put tm dst v) st):WOpsD E (⟨o,dst,g⟩::os) QD tm st :=
 wopsD_pure hlo (hw.trans hb) (fun rec st1 h1=>ho rec st1 h1 (fun l=>by simp only [hp,h1])) h
theorem wopsD_push {o:DOp} {dst:Option Nat} {g:Option (Nat×Bool)} {os:List DOper} {b:Bool} {v:PV} {ob:HObj} (hlo:st.lo≤st.heap.length) (hw:wants tm g=b) (hb:b=true) (ho:∀ rec (st1:St),st1.heap=st.heap→stepOp E rec tm st1 o=some (.val v (st1.push ob)))
  (h:WOpsD E os (fun e tm' st' fs=>QD e tm' st' (footOf tm o st.heap.length st.heap.length::fs)) (put tm dst v) (st.push ob)):WOpsD E (⟨o,dst,g⟩::os) QD tm st:=by
 refine wopsD_cons (hw.trans hb) 0 (fun n _=>ho _ _ rfl) ?_
 have:({ heap:=((⟨st.heap,st.heap.length⟩:St).push ob).heap,lo:=min st.lo ((⟨st.heap,st.heap.length⟩:St).push ob).lo }:St)=st.push ob:=by
  simp only [St.push,Nat.min_eq_left hlo]
 rw [this]
 exact h
theorem wopsD_set {o:DOp} {dst:Option Nat} {g:Option (Nat×Bool)} {os:List DOper} {b:Bool} {v:PV} {l:Nat} {ob:HObj} (hlo:st.lo≤st.heap.length) (hl:l≤st.heap.length) (hw:wants tm g=b) (hb:b=true) (ho:∀ rec (st1:St),st1.heap=st.heap→(∀ l,hp st1 l=hp st l)→stepOp E rec tm st1 o=some (.val v (setVar st1 l ob)))
  (h:WOpsD E os (fun e tm' st' fs=>QD e tm' st' (footOf tm o st.heap.length l::fs)) (put tm dst v) (setVar st l ob)):WOpsD E (⟨o,dst,g⟩::os) QD tm st:=by
 refine wopsD_cons (hw.trans hb) 0 (fun n _=>ho _ _ rfl (fun _=>rfl)) ?_
 have:({ heap:=(setVar (⟨st.heap,st.heap.length⟩:St) l ob).heap,lo:=min st.lo (setVar (⟨st.heap,st.heap.length⟩:St) l ob).lo }:St)=setVar st l ob:=by
  simp only [setVar,Nat.min_eq_right hl]
 rw [this]
 have h2:(setVar (⟨st.heap,st.heap.length⟩:St) l ob).lo=l:=by simp only [setVar,Nat.min_eq_right hl]
 rw [h2]
 exact h
theorem wopsD_call {f:Opd} {args:List Opd} {dst:Option Nat} {g:Option (Nat×Bool)} {os:List DOper} {b:Bool} {fv v:PV} (hlo:st.lo≤st.heap.length) (hw:wants tm g=b) (hb:b=true) (hf:f.ev tm=fv) (hc:∀ st1:St,st1.heap=st.heap→Cl E fv (evs tm args) st1 (.ret v) st1)
  (h:WOpsD E os (fun e tm' st' fs=>QD e tm' st' (.quiet::fs)) (put tm dst v) st):WOpsD E (⟨.call f args,dst,g⟩::os) QD tm st:=by
 obtain ⟨N,hN⟩:=hc { st with lo:=st.heap.length } rfl
 refine wopsD_cons (v:=v) (st1:={ st with lo:=st.heap.length }) (hw.trans hb) N (fun n hn=>?_) ?_
 ·simp only [stepOp,hf,hN n hn]
 ·simp only [Nat.min_eq_left hlo,footOf,Nat.le_refl,if_true]
  exact h
theorem wops_call' {f:Opd} {args:List Opd} {dst:Option Nat} {g:Option (Nat×Bool)} {os:List DOper} {b:Bool} {fv v:PV} {st1:St} (hw:wants tm g=b) (hb:b=true) (hf:f.ev tm=fv) (hc:Cl E fv (evs tm args) st (.ret v) st1) (h:WOps E os Q (put tm dst v) st1):WOps E (⟨.call f args,dst,g⟩::os) Q tm st :=
 wops_call (hw.trans hb) hf hc h
theorem wops_skip' {o:DOp} {dst:Option Nat} {g:Option (Nat×Bool)} {os:List DOper} {b:Bool} (hw:wants tm g=b) (hb:b=false) (h:WOps E os Q (put tm dst undef) st):WOps E (⟨o,dst,g⟩::os) Q tm st:=wops_skip (hw.trans hb) h
theorem wopsD_skip' {o:DOp} {dst:Option Nat} {g:Option (Nat×Bool)} {os:List DOper} {b:Bool} (hw:wants tm g=b) (hb:b=false) (h:WOpsD E os (fun e tm' st' fs=>QD e tm' st' (.quiet::fs)) (put tm dst undef) st):WOpsD E (⟨o,dst,g⟩::os) QD tm st:=wopsD_skip (hw.trans hb) h
end
def RetS (st:St) (sz n:Nat) (cs:List PV) (v:PV) (st':St):Prop :=
 cs.length=n*sz∧((n=0∧v = .nilslice∧st'=st)∨(v = .slice (.tag st.heap.length sz) n cs∧st'=st.push (.tag true)))
def OwnS (m:Nat) (st:St) (sz:Nat) (v:PV) (n:Nat) (cs:List PV):Prop :=
 cs.length=n*sz∧((n=0∧v = .nilslice)∨(∃ t,v = .slice (.tag t sz) n cs∧m≤t∧hp st t=some (.tag true)))
theorem OwnS.nil {m:Nat} {st:St} {sz:Nat}:OwnS m st sz .nilslice 0 []:=⟨by simp,.inl ⟨rfl,rfl⟩⟩
theorem OwnS.mono {m m':Nat} {st:St} {sz:Nat} {v:PV} {n:Nat} {cs:List PV} (h:OwnS m st sz v n cs) (hm:m'≤m):OwnS m' st sz v n cs:=⟨h.1,h.2.imp id fun ⟨t,h2,h3,h4⟩=>⟨t,h2,by omega,h4⟩⟩
theorem OwnS.keep {m:Nat} {st st':St} {sz:Nat} {v:PV} {n:Nat} {cs:List PV} (h:OwnS m st sz v n cs) (hk:∀ t,m≤t→hp st t=some (.tag true)→hp st' t=some (.tag true)):OwnS m st' sz v n cs :=
 ⟨h.1,h.2.imp id fun ⟨t,h2,h3,h4⟩=>⟨t,h2,h3,hk t h3 h4⟩⟩
theorem OwnS.push {m:Nat} {st:St} {sz:Nat} {v:PV} {n:Nat} {cs:List PV} {o:HObj} (h:OwnS m st sz v n cs):OwnS m (st.push o) sz v n cs :=
 h.keep fun t _ h4=>by
  rw [hp_push,if_neg (by have:=hp_lt h4;omega)]
  exact h4
theorem OwnS.setVar {m:Nat} {st:St} {sz:Nat} {v:PV} {n:Nat} {cs:List PV} {l:Nat} {o:HObj} (h:OwnS m st sz v n cs) (hl:∀ b,hp st l≠some (.tag b)):OwnS m (setVar st l o) sz v n cs :=
 h.keep fun t _ h4=>by
  rw [hp_setVar,if_neg (by rintro rfl;exact hl _ h4)]
  exact h4
theorem OwnS.sl {m:Nat} {st:St} {sz:Nat} {v:PV} {n:Nat} {cs:List PV} (h:OwnS m st sz v n cs):v.sl=some (n,cs):=by
 obtain ⟨h0,⟨rfl,rfl⟩|⟨t,rfl,h3,h4⟩⟩:=h
 ·simp at h0;simp [PV.sl,h0]
 ·rfl
theorem RetS.own {m:Nat} {st st':St} {sz n:Nat} {cs:List PV} {v:PV} (h:RetS st sz n cs v st') (hm:m≤st.heap.length):OwnS m st' sz v n cs:=by
 obtain ⟨h0,⟨rfl,rfl,rfl⟩|⟨rfl,rfl⟩⟩:=h
 ·exact ⟨h0,.inl ⟨rfl,rfl⟩⟩
 ·exact ⟨h0,.inr ⟨_,rfl,hm,by rw [hp_push,if_pos rfl]⟩⟩
theorem RetS.fr {st st':St} {sz n:Nat} {cs:List PV} {v:PV} (h:RetS st sz n cs v st'):Fr st.heap.length st st':=by
 obtain ⟨h0,⟨rfl,rfl,rfl⟩|⟨rfl,rfl⟩⟩:=h
 ·exact .refl _ _
 ·exact (Fr.refl _ _).push (Nat.le_refl _)
theorem RetS.st' {st st':St} {sz n:Nat} {cs:List PV} {v:PV} (h:RetS st sz n cs v st'):st'=st∨st'=st.push (.tag true):=h.2.imp (·.2.2) (·.2)
theorem RetS.sl {st st':St} {sz n:Nat} {cs:List PV} {v:PV} (h:RetS st sz n cs v st'):v.sl=some (n,cs):=(h.own (Nat.zero_le _)).sl
theorem OwnS.append {m:Nat} {st:St} {sz:Nat} {v:PV} {n:Nat} {cs:List PV} (h:OwnS m st sz v n cs) (hm:m≤st.heap.length) {k:Nat} {ys:List PV} (hy:ys.length=k*sz) (hc:ys.all PV.isCell=true) (hn:n+k≤maxList) :
  ∃ v' st',doAppend false sz st v k ys=some (.val v' st')∧OwnS m st' sz v' (n+k) (cs++ys.map PV.share)∧Fr m st st'∧(∀ l o,hp st l=some o→(∀ b,o ≠ .tag b)→hp st' l=some o):=by
 by_cases hk:k=0
 ·subst hk
  have hy0:ys=[]:=by simpa using hy
  subst hy0
  refine ⟨v,st,?_,by simpa using h,.refl _ _,fun l o h _=>h⟩
  delta doAppend
  obtain ⟨h0,⟨rfl,rfl⟩|⟨t,rfl,h3,h4⟩⟩:=h <;> simp
 obtain ⟨h0,⟨rfl,rfl⟩|⟨t,rfl,h3,h4⟩⟩:=h
 ·refine ⟨.slice (.tag st.heap.length sz) k (ys.map PV.share),st.push (.tag true),?_,⟨?_,.inr ⟨st.heap.length,?_,hm,?_⟩⟩,(Fr.refl m st).push hm,fun l o hl ho=>?_⟩
  ·delta doAppend
   simp only [hy,hc,and_self,if_true,hk,if_false,Bool.false_eq_true]
   rw [if_pos (by omega)]
   rfl
  ·simp at h0;simp [h0,hy]
  ·simp at h0;simp [h0]
  ·rw [hp_push,if_pos rfl]
  ·rw [hp_push,if_neg (by have:=hp_lt hl;omega)]
   exact hl
 ·have ht:=hp_lt h4
  refine ⟨.slice (.tag st.heap.length sz) (n+k) (cs++ys.map PV.share),(Den.setVar st t (.tag false)).push (.tag true),?_,⟨?_,.inr ⟨st.heap.length,rfl,hm,?_⟩⟩,((Fr.refl m st).setVar h3).push (by rw [len_setVar];exact hm),fun l o hl ho=>?_⟩
  ·delta doAppend
   simp only [hy,hc,and_self,if_true,hk,if_false]
   rw [if_pos ⟨trivial,h0,hn⟩]
   have h5:st.heap[t]? = some (.tag true):=h4
   simp only [h5]
   rfl
  ·simp [h0,hy,Nat.add_mul]
  ·rw [hp_push,if_pos (by rw [len_setVar])]
  ·rw [hp_push,len_setVar,if_neg (by have:=hp_lt hl;omega),hp_setVar,if_neg (by rintro rfl;rw [h4] at hl;cases hl;exact ho _ rfl)]
   exact hl
theorem lowL_of {m:Nat} {cs:List PV} (h:∀ c∈cs,c.low m=true):lowL m cs=true:=by
 induction cs with
 | nil=>rfl
 | cons c cs ih=>simp only [lowL,Bool.and_eq_true];exact ⟨h c (by simp),ih (fun d hd=>h d (by simp [hd]))⟩
theorem OwnS.finish {st st1:St} {sz:Nat} {v:PV} {n:Nat} {cs:List PV} (h:OwnS st.heap.length st1 sz v n cs) (hlo:st.heap.length≤st1.lo) (hc:∀ m c,c∈cs→PV.low m c=true):RetS st sz n cs (finishCall st st1 v).1 (finishCall st st1 v).2:=by
 obtain ⟨h0,⟨rfl,rfl⟩|⟨t,rfl,h3,h4⟩⟩:=h
 ·rw [finish_flat hlo rfl]
  exact ⟨h0,.inl ⟨rfl,rfl,rfl⟩⟩
 ·unfold finishCall
  rw [if_pos hlo]
  have h5:st1.heap[t]? = some (.tag true):=h4
  have:letGo st.heap.length st1.heap (.slice (.tag t sz) n cs)=some (.slice (.tag st.heap.length sz) n cs,1):=by
   simp only [letGo,freeze1,retag1,lowL_of (hc _),if_true,h5,Nat.not_lt.2 h3,if_false]
   simp
  rw [this]
  exact ⟨h0,.inr ⟨rfl,rfl⟩⟩
def ClR (E:Env) (f:PV) (args:List PV) (st:St) (P:PV→St→Prop):Prop:=∃ v st',Cl E f args st (.ret v) st'∧P v st'
def FnR (rs:List DRes) (st:St) (P:PV→St→Prop):Ex→List PV→St→Prop:=fun e tm1 st1=>match e with
 | .normal | .ret=>∃ v,results tm1 st1.heap rs=some v∧P (finishCall st st1 v).1 (finishCall st st1 v).2
 | _=>False
theorem clr_fn {E:Env} {st:St} {g:Nat} {a c args:List PV} {n:Nat} {rs:List DRes} {b:DCode} {P:PV→St→Prop} (hp:∀ rec,E.prim g rec (a++args++c) st=none) (hf:E.fn g=some ⟨n,rs,b⟩) (k:Nat) (hk:(a++args++c).length=k) (hkn:k≤n)
  (h:∀ tm,tm.length=n→(∀ i,i<k→tg tm i=(a++args++c).getD i undef)→Wp E b (FnR rs st P) tm { heap:=st.heap,lo:=st.heap.length }):ClR E (.func g a c) args st P:=by
 have:=h ((a++args++c)++List.replicate (n - (a++args++c).length) undef) (by simp at hk ⊢;omega) (fun i hi=>by
  unfold tg
  rw [List.getD_eq_getElem?_getD,List.getD_eq_getElem?_getD,List.getElem?_append_left (by omega)])
 unfold Wp at this
 obtain ⟨N,e,tm1,st1,h1,h2⟩:=this
 have key:∀ v,(e = .normal∨e = .ret)→results tm1 st1.heap rs=some v→P (finishCall st st1 v).1 (finishCall st st1 v).2→ClR E (.func g a c) args st P:=by
  intro v he h3 h4
  refine ⟨_,_,cl_of_wp (r := .ret (finishCall st st1 v).1) (st':=(finishCall st st1 v).2) hp hf ?_,h4⟩
  unfold Wp
  refine ⟨N,e,tm1,st1,h1,?_⟩
  rcases he with rfl|rfl <;> exact ⟨v,h3,_,rfl,rfl⟩
 unfold FnR at h2
 cases e with
 | normal=>obtain ⟨v,h3,h4⟩:=h2;exact key v (.inl rfl) h3 h4
 | ret=>obtain ⟨v,h3,h4⟩:=h2;exact key v (.inr rfl) h3 h4
 | exit i=>exact h2.elim
 | panic v=>exact h2.elim
theorem fnr_ret {rs:List DRes} {st:St} {P:PV→St→Prop} {tm1:List PV} {st1:St} {v:PV} (hr:results tm1 st1.heap rs=some v) (h:P (finishCall st st1 v).1 (finishCall st st1 v).2):FnR rs st P .ret tm1 st1:=⟨v,hr,h⟩
theorem fnr_normal {rs:List DRes} {st:St} {P:PV→St→Prop} {tm1:List PV} {st1:St} {v:PV} (hr:results tm1 st1.heap rs=some v) (h:P (finishCall st st1 v).1 (finishCall st st1 v).2):FnR rs st P .normal tm1 st1:=⟨v,hr,h⟩
attribute [irreducible] FnR
theorem wops_callR {E:Env} {Q:Ex→List PV→St→Prop} {tm:List PV} {st:St} {f:Opd} {args:List Opd} {dst:Option Nat} {g:Option (Nat×Bool)} {os:List DOper} {b:Bool} {fv:PV} {P:PV→St→Prop} (hw:wants tm g=b) (hb:b=true) (hf:f.ev tm=fv) (hc:ClR E fv (evs tm args) st P) (h:∀ v st1,P v st1→WOps E os Q (put tm dst v) st1):WOps E (⟨.call f args,dst,g⟩::os) Q tm st:=by
 obtain ⟨v,st',h1,h2⟩:=hc
 exact wops_call (hw.trans hb) hf h1 (h v st' h2)
end Go.Den
end

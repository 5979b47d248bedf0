/- Part of the proofs of laws of the package version. Texts: DenShiftC, ChPure, TnFnZ. -/
import Derived.Test.YthnfeimjhibcaaaTBAn
import Derived.Test.YthnfeimjhibcaaaTBAa
set_option linter.unusedSimpArgs false
set_option linter.unusedVariables false
section
namespace Go.Den
section
variable {H:List HObj} {E0 E:Env} {r0:Rec}
theorem lo_len_sh (st:St):({ (st.sh H) with lo:=(st.sh H).heap.length }:St)=({ st with lo:=st.heap.length }:St).sh H:=by
 simp only [St.sh,List.length_append,List.length_map,St.mk.injEq,true_and];omega
theorem lo_min_sh (st st':St):({ (st'.sh H) with lo:=min (st.sh H).lo (st'.sh H).lo }:St)=({ st' with lo:=min st.lo st'.lo }:St).sh H:=by
 simp only [St.sh,St.mk.injEq,true_and];omega
theorem stepOps_sh {R:Nat→Rec} (hr:RecSh H r0 R) (hm:∀ t m f,E0.meth t m=some f→E.meth t m=some f):∀ {os:List DOper} {tm:List PV} {st:St} {e:Ex} {tm':List PV} {st':St},stepOps E0 r0 os tm st=some (e,tm',st')→∃ M,∀ m,M≤m→stepOps E (R m) (os.map (DOper.sh H.length)) (tm.map (PV.sh H.length)) (st.sh H)=some (e.sh H.length,tm'.map (PV.sh H.length),st'.sh H)
 | [],tm,st,e,tm',st',h=>by
  simp only [stepOps,Option.some.injEq,Prod.mk.injEq] at h
  obtain ⟨rfl,rfl,rfl⟩:=h
  exact ⟨0,fun _ _=>rfl⟩
 | o::os,tm,st,e,tm',st',h=>by
  simp only [stepOps] at h
  simp only [List.map_cons,stepOps,DOper.sh,wants_sh]
  split at h
  ·rename_i hw
   simp only [if_pos hw]
   split at h
   ·rename_i v s1 ho
    obtain ⟨M1,h1⟩:=stepOp_sh hr hm ho
    obtain ⟨M2,h2⟩:=stepOps_sh hr hm h
    refine ⟨max M1 M2,fun m hx=>?_⟩
    rw [h1 m (by omega)]
    simp only [OpR.sh,put_sh]
    exact h2 m (by omega)
   ·rename_i v s1 ho
    obtain ⟨M1,h1⟩:=stepOp_sh hr hm ho
    simp only [Option.some.injEq,Prod.mk.injEq] at h
    obtain ⟨rfl,rfl,rfl⟩:=h
    exact ⟨M1,fun m hx=>by rw [h1 m hx];rfl⟩
   ·cases h
  ·rename_i hw
   simp only [if_neg hw]
   have:=put_sh (k:=H.length) tm o.dst undef
   rw [undef_sh] at this
   rw [this]
   exact stepOps_sh hr hm h
theorem stepOpsD_sh {R:Nat→Rec} (hr:RecSh H r0 R) (hm:∀ t m f,E0.meth t m=some f→E.meth t m=some f):∀ {os:List DOper} {tm:List PV} {st:St} {e:Ex} {tm':List PV} {st':St} {fs:List Foot},stepOpsD E0 r0 os tm st=some (e,tm',st',fs)→∃ M,∀ m,M≤m→stepOpsD E (R m) (os.map (DOper.sh H.length)) (tm.map (PV.sh H.length)) (st.sh H)=some (e.sh H.length,tm'.map (PV.sh H.length),st'.sh H,fs.map (Foot.sh H))
 | [],tm,st,e,tm',st',fs,h=>by
  simp only [stepOpsD,Option.some.injEq,Prod.mk.injEq] at h
  obtain ⟨rfl,rfl,rfl,rfl⟩:=h
  exact ⟨0,fun _ _=>rfl⟩
 | o::os,tm,st,e,tm',st',fs,h=>by
  simp only [stepOpsD] at h
  simp only [List.map_cons,stepOpsD,DOper.sh,wants_sh]
  have foot:∀ s1:St,fineOf (o.op.sh H.length) (footOf (tm.map (PV.sh H.length)) (o.op.sh H.length) (st.sh H).heap.length (s1.sh H).lo) (st.sh H).heap (s1.sh H).heap=(fineOf o.op (footOf tm o.op st.heap.length s1.lo) st.heap s1.heap).sh H:=fun s1=>by
   have e1:(s1.sh H).lo=s1.lo+H.length:=rfl
   have e2:(st.sh H).heap=H++st.heap.map (HObj.sh H.length):=rfl
   have e3:(s1.sh H).heap=H++s1.heap.map (HObj.sh H.length):=rfl
   rw [len_sh,e1,footOf_sh,e2,e3,fineOf_sh]
  split at h
  ·rename_i hw
   simp only [if_pos hw,lo_len_sh]
   split at h
   ·rename_i v s1 ho
    obtain ⟨M1,h1⟩:=stepOp_sh hr hm ho
    split at h
    ·rename_i e2 tm2 s2 fs2 h2
     obtain ⟨M2,h3⟩:=stepOpsD_sh hr hm h2
     simp only [Option.some.injEq,Prod.mk.injEq] at h
     obtain ⟨rfl,rfl,rfl,rfl⟩:=h
     refine ⟨max M1 M2,fun m hx=>?_⟩
     rw [h1 m (by omega)]
     simp only [OpR.sh,put_sh]
     rw [lo_min_sh,foot,h3 m (by omega)]
     rfl
    ·cases h
   ·rename_i v s1 ho
    obtain ⟨M1,h1⟩:=stepOp_sh hr hm ho
    split at h
    ·rename_i h2
     simp only [Option.some.injEq,Prod.mk.injEq] at h
     obtain ⟨rfl,rfl,rfl,rfl⟩:=h
     refine ⟨M1,fun m hx=>?_⟩
     rw [h1 m hx]
     simp only [OpR.sh]
     rw [lo_min_sh,foot]
     simp only [List.isEmpty_map]
     rw [if_pos h2]
     rfl
    ·cases h
   ·cases h
  ·rename_i hw
   simp only [if_neg hw]
   have:=put_sh (k:=H.length) tm o.dst undef
   rw [undef_sh] at this
   rw [this]
   split at h
   ·rename_i e2 tm2 s2 fs2 h2
    obtain ⟨M2,h3⟩:=stepOpsD_sh hr hm h2
    simp only [Option.some.injEq,Prod.mk.injEq] at h
    obtain ⟨rfl,rfl,rfl,rfl⟩:=h
    exact ⟨M2,fun m hx=>by rw [h3 m hx];rfl⟩
   ·cases h
theorem rdRes_sh {tm:List PV} {h:List HObj} {r:DRes} {v:PV} (e:rdRes tm h r=some v):rdRes (tm.map (PV.sh H.length)) (H++h.map (HObj.sh H.length)) r=some (v.sh H.length):=by
 cases r with
 | tmp t =>
  simp only [rdRes,Option.some.injEq] at e ⊢
  rw [getD_sh,e]
 | cell t agg sz =>
  simp only [rdRes,getD_sh] at e ⊢
  generalize tm.getD t undef=w at e ⊢
  cases w <;> try simp only [reduceCtorEq] at e
  rename_i l off
  simp only [PV.sh,get_sh]
  cases hx:h[l]? with
  | none=>rw [hx] at e;simp only [reduceCtorEq] at e
  | some ob =>
   rw [hx] at e
   cases ob <;> try simp only [reduceCtorEq] at e
   simp only [Option.map_some,HObj.sh,List.length_map,← List.map_drop,rdPart_sh]
   split at e
   ·rename_i h1
    rw [if_pos h1,e];rfl
   ·cases e
theorem rdResL_sh {tm:List PV} {h:List HObj}:∀ {rs:List DRes} {vs:List PV},rdResL tm h rs=some vs→rdResL (tm.map (PV.sh H.length)) (H++h.map (HObj.sh H.length)) rs=some (vs.map (PV.sh H.length))
 | [],vs,e=>by simp only [rdResL,Option.some.injEq] at e;subst e;rfl
 | r::rs,vs,e=>by
  simp only [rdResL] at e
  split at e
  ·rename_i v vs' h1 h2
   simp only [Option.some.injEq] at e;subst e
   simp only [rdResL,rdRes_sh h1,rdResL_sh h2,List.map_cons]
  ·cases e
theorem results_sh {tm:List PV} {h:List HObj} {rs:List DRes} {v:PV} (e:results tm h rs=some v):results (tm.map (PV.sh H.length)) (H++h.map (HObj.sh H.length)) rs=some (v.sh H.length):=by
 unfold results at e ⊢
 split at e
 ·rename_i w h1
  simp only [Option.some.injEq] at e;subst e
  rw [rdResL_sh h1];rfl
 ·rename_i vs hne h1
  simp only [Option.some.injEq] at e;subst e
  rw [rdResL_sh h1]
  cases vs with
  | nil=>simp only [List.map_nil,PV.sh,shL]
  | cons a vs =>
   cases vs with
   | nil=>exact absurd rfl (hne a)
   | cons b vs=>simp only [List.map_cons,PV.sh,shL,shL_map]
 ·cases e
theorem setParams_sh:∀ {ps:List Nat} {tm vs tm':List PV},setParams tm ps vs=some tm'→setParams (tm.map (PV.sh H.length)) ps (vs.map (PV.sh H.length))=some (tm'.map (PV.sh H.length))
 | [],tm,[],tm',e=>by simp only [setParams,Option.some.injEq] at e;subst e;rfl
 | p::ps,tm,v::vs,tm',e=>by
  simp only [setParams] at e
  simp only [List.map_cons,setParams,← List.map_set]
  exact setParams_sh e
theorem setLoop_sh {st:St} {l:Nat} {s:LSt} {p:Option Jump→Option Jump} {s0:LSt} {j:Option Jump} {st':St} (e:setLoop st l s p=some (s0,j,st')):setLoop (st.sh H) (l+H.length) s p=some (s0,j,st'.sh H):=by
 unfold setLoop at e ⊢
 rw [at_sh]
 cases hx:st.heap[l]? with
 | none=>rw [hx] at e;cases e
 | some ob =>
  rw [hx] at e
  cases ob <;> try simp only [reduceCtorEq] at e
  simp only [Option.some.injEq,Prod.mk.injEq] at e
  obtain ⟨rfl,rfl,rfl⟩:=e
  simp only [Option.map_some,HObj.sh,Option.some.injEq,Prod.mk.injEq,true_and]
  exact setVar_sh st l (.loop _ _ _ _ _ _)
structure EnvSh (E0 E:Env):Prop where
 meth:∀ t m f,E0.meth t m=some f→E.meth t m=some f
 fn:∀ f df,E0.fn f=some df→E.fn f=some df∧∀ k,df.body.sh k=df.body
 prim:∀ f df,E0.fn f=some df→∀ rec' args' st',E.prim f rec' args' st'=none
 ora:∀ f rec args st x st',E0.prim f rec args st=some (some (x,st'))→∀ H:List HObj,∃ M,∀ m,M≤m→enter E (run E m) f (args.map (PV.sh H.length)) (st.sh H)=some (x.sh H.length,st'.sh H)
theorem enter_sh (hE:EnvSh E0 E) (hr:RecSh H r0 (run E)) {f:Nat} {args:List PV} {st:St} {x:CR} {st':St} (h:enter E0 r0 f args st=some (x,st')):∃ M,∀ m,M≤m→enter E (run E m) f (args.map (PV.sh H.length)) (st.sh H)=some (x.sh H.length,st'.sh H):=by
 unfold enter at h
 cases hp:E0.prim f r0 args st with
 | some r =>
  rw [hp] at h
  simp only at h
  rw [h] at hp
  exact hE.ora f r0 args st x st' hp H
 | none =>
  rw [hp] at h
  simp only at h
  cases hf:E0.fn f with
  | none=>rw [hf] at h;cases h
  | some df =>
   have hp2:=hE.prim f df hf
   rw [hf] at h
   obtain ⟨h1,h2⟩:=hE.fn f df hf
   simp only at h
   have hcode:∀ {e tm1 s1},r0.code df.body (args++List.replicate (df.ntmps - args.length) undef) { st with lo:=st.heap.length }=some (e,tm1,s1)→∃ M,∀ m,M≤m→(run E m).code df.body (args.map (PV.sh H.length)++List.replicate (df.ntmps - (args.map (PV.sh H.length)).length) undef) { (st.sh H) with lo:=(st.sh H).heap.length }=some (e.sh H.length,tm1.map (PV.sh H.length),s1.sh H):=fun hc=>by
    obtain ⟨M,hM⟩:=hr.code hc
    refine ⟨M,fun m hx=>?_⟩
    have:=hM m hx
    rw [h2,List.map_append,List.map_replicate,undef_sh] at this
    rw [lo_len_sh,List.length_map]
    exact this
   have hfin:∀ {tm1:List PV} {s1:St},(match results tm1 s1.heap df.results with
     | some v=>match finishCall st s1 v with|(v',st2)=>some (CR.ret v',st2)
     | none=>none)=some (x,st')→(match results (tm1.map (PV.sh H.length)) (s1.sh H).heap df.results with
     | some v=>match finishCall (st.sh H) (s1.sh H) v with|(v',st2)=>some (CR.ret v',st2)
     | none=>none)=some (x.sh H.length,st'.sh H):=fun {tm1 s1} h=>by
    cases hrs:results tm1 s1.heap df.results with
    | none=>rw [hrs] at h;cases h
    | some v =>
     rw [hrs] at h
     have e3:(s1.sh H).heap=H++s1.heap.map (HObj.sh H.length):=rfl
     rw [e3,results_sh hrs]
     simp only at h ⊢
     rw [finish_sh]
     generalize finishCall st s1 v=q at h
     obtain ⟨v',s2⟩:=q
     simp only [Option.some.injEq,Prod.mk.injEq] at h
     obtain ⟨rfl,rfl⟩:=h
     rfl
   split at h
   ·rename_i tm1 s1 hc
    obtain ⟨M,hM⟩:=hcode hc
    refine ⟨M,fun m hx=>?_⟩
    unfold enter
    rw [hp2,h1]
    simp only
    rw [hM m hx]
    exact hfin h
   ·rename_i tm1 s1 hc
    obtain ⟨M,hM⟩:=hcode hc
    refine ⟨M,fun m hx=>?_⟩
    unfold enter
    rw [hp2,h1]
    simp only
    rw [hM m hx]
    exact hfin h
   ·rename_i v tm1 s1 hc
    obtain ⟨M,hM⟩:=hcode hc
    simp only [Option.some.injEq,Prod.mk.injEq] at h
    obtain ⟨rfl,rfl⟩:=h
    refine ⟨M,fun m hx=>?_⟩
    unfold enter
    rw [hp2,h1]
    simp only
    rw [hM m hx]
    simp only [Ex.sh,CR.sh]
    rw [lo_min_sh]
   ·cases h
theorem round_sh {R:Nat→Rec} (hr:RecSh H r0 R) {l:Nat} {args:List PV} {st:St} {x:CR} {st':St} (h:round r0 l args st=some (x,st')):∃ M,∀ m,M≤m→round (R m) (l+H.length) (args.map (PV.sh H.length)) (st.sh H)=some (x.sh H.length,st'.sh H):=by
 unfold round at h ⊢
 simp only [at_sh]
 cases hx:st.heap[l]? with
 | none=>rw [hx] at h;cases h
 | some ob =>
  rw [hx] at h
  cases ob <;> try simp only [reduceCtorEq] at h
  rename_i tm ps a b s p
  simp only [Option.map_some,HObj.sh]
  split at h
  ·cases h
  ·rename_i tm0 hs
   simp only [setParams_sh hs]
   split at h
   ·rename_i tm1 s1 h1
    obtain ⟨M1,g1⟩:=hr.code h1
    split at h
    ·rename_i j s2 h2
     split at h
     all_goals first
      | (
        rename_i tm2 s3 h3
        obtain ⟨M2,g2⟩:=hr.code h3
        obtain ⟨q,h4,h5⟩:=Option.map_eq_some_iff.1 h
        obtain ⟨q1,q2,q3⟩:=q
        simp only [Prod.mk.injEq] at h5
        obtain ⟨rfl,rfl⟩:=h5
        refine ⟨max M1 M2,fun m hm=>?_⟩
        rw [g1 m (by omega)]
        simp only [Ex.sh]
        rw [setLoop_sh h2]
        simp only
        rw [g2 m (by omega)]
        simp only [Ex.sh]
        rw [setLoop_sh h4];rfl)
      | (
        rename_i id tm2 s3 h3
        obtain ⟨M2,g2⟩:=hr.code h3
        obtain ⟨q,h4,h5⟩:=Option.map_eq_some_iff.1 h
        obtain ⟨q1,q2,q3⟩:=q
        simp only [Prod.mk.injEq] at h5
        obtain ⟨rfl,rfl⟩:=h5
        refine ⟨max M1 M2,fun m hm=>?_⟩
        rw [g1 m (by omega)]
        simp only [Ex.sh]
        rw [setLoop_sh h2]
        simp only
        rw [g2 m (by omega)]
        simp only [Ex.sh]
        rw [setLoop_sh h4];rfl)
      | cases h
    ·cases h
   ·cases h
theorem stepCall_sh (hE:EnvSh E0 E) (hr:RecSh H r0 (run E)) {f:PV} {args:List PV} {st:St} {x:CR} {st':St} (h:stepCall E0 r0 f args st=some (x,st')):∃ M,∀ m,M≤m→stepCall E (run E m) (f.sh H.length) (args.map (PV.sh H.length)) (st.sh H)=some (x.sh H.length,st'.sh H):=by
 unfold stepCall at h ⊢
 cases f <;> try simp only [reduceCtorEq] at h
 case func f a c =>
  simp only [PV.sh,shL_map]
  have:=enter_sh hE hr h
  simpa only [List.map_append] using this
 case yield l =>
  simp only [PV.sh]
  exact round_sh hr h
theorem stepCode_sh {R:Nat→Rec} (hm:∀ t m f,E0.meth t m=some f→E.meth t m=some f) (hr:RecSh H r0 R) {c:DCode} {tm:List PV} {st:St} {e:Ex} {tm':List PV} {st':St} (h:stepCode E0 r0 c tm st=some (e,tm',st')):∃ M,∀ m,M≤m→stepCode E (R m) (c.sh H.length) (tm.map (PV.sh H.length)) (st.sh H)=some (e.sh H.length,tm'.map (PV.sh H.length),st'.sh H):=by
 cases c with
 | skip =>
  simp only [stepCode,Option.some.injEq,Prod.mk.injEq] at h
  obtain ⟨rfl,rfl,rfl⟩:=h;exact ⟨0,fun _ _=>rfl⟩
 | ret =>
  simp only [stepCode,Option.some.injEq,Prod.mk.injEq] at h
  obtain ⟨rfl,rfl,rfl⟩:=h;exact ⟨0,fun _ _=>rfl⟩
 | exit id =>
  simp only [stepCode,Option.some.injEq,Prod.mk.injEq] at h
  obtain ⟨rfl,rfl,rfl⟩:=h;exact ⟨0,fun _ _=>rfl⟩
 | region ops=>exact stepOps_sh hr hm h
 | dregion ops free =>
  simp only [stepCode] at h
  simp only [DCode.sh,stepCode]
  split at h
  ·rename_i e1 tm1 s1 fs h1
   obtain ⟨M,hM⟩:=stepOpsD_sh hr hm h1
   split at h
   ·rename_i h2
    simp only [Option.some.injEq,Prod.mk.injEq] at h
    obtain ⟨rfl,rfl,rfl⟩:=h
    refine ⟨M,fun m hx=>?_⟩
    rw [hM m hx]
    simp only [footOk_sh]
    rw [if_pos h2]
   ·cases h
  ·cases h
 | seq a b =>
  simp only [stepCode] at h
  simp only [DCode.sh,stepCode]
  cases h1:r0.code a tm st with
  | none=>rw [h1] at h;cases h
  | some q =>
   obtain ⟨e1,tm1,s1⟩:=q
   rw [h1] at h
   obtain ⟨M1,g1⟩:=hr.code h1
   cases e1 with
   | normal =>
    obtain ⟨M2,g2⟩:=hr.code h
    exact ⟨max M1 M2,fun m hx=>by rw [g1 m (by omega)];exact g2 m (by omega)⟩
   | _ =>
    simp only [Option.some.injEq,Prod.mk.injEq] at h
    obtain ⟨rfl,rfl,rfl⟩:=h
    exact ⟨M1,fun m hx=>by rw [g1 m hx];rfl⟩
 | cond q a b =>
  simp only [stepCode] at h
  simp only [DCode.sh,stepCode,ev_sh]
  generalize q.ev tm=v at h ⊢
  cases v <;> try simp only [reduceCtorEq] at h
  rename_i t
  cases t <;> exact hr.code h
 | block id b =>
  simp only [stepCode] at h
  simp only [DCode.sh,stepCode]
  cases h1:r0.code b tm st with
  | none=>rw [h1] at h;cases h
  | some q =>
   obtain ⟨e1,tm1,s1⟩:=q
   rw [h1] at h
   obtain ⟨M1,g1⟩:=hr.code h1
   refine ⟨M1,fun m hx=>?_⟩
   rw [g1 m hx]
   cases e1 with
   | exit i =>
    simp only [Ex.sh] at h ⊢
    split at h
    ·rename_i h2
     rw [if_pos h2]
     simp only [Option.some.injEq,Prod.mk.injEq] at h
     obtain ⟨rfl,rfl,rfl⟩:=h;rfl
    ·rename_i h2
     rw [if_neg h2]
     simp only [Option.some.injEq,Prod.mk.injEq] at h
     obtain ⟨rfl,rfl,rfl⟩:=h;rfl
   | _ =>
    simp only [Option.some.injEq,Prod.mk.injEq] at h
    obtain ⟨rfl,rfl,rfl⟩:=h;rfl
 | loop b =>
  simp only [stepCode] at h
  simp only [DCode.sh,stepCode]
  cases h1:r0.code b tm st with
  | none=>rw [h1] at h;cases h
  | some q =>
   obtain ⟨e1,tm1,s1⟩:=q
   rw [h1] at h
   obtain ⟨M1,g1⟩:=hr.code h1
   cases e1 with
   | normal =>
    obtain ⟨M2,g2⟩:=hr.code h
    refine ⟨max M1 M2,fun m hx=>?_⟩
    rw [g1 m (by omega)]
    show (R m).code (DCode.sh H.length (.loop b)) _ _=_
    exact g2 m (by omega)
   | _ =>
    simp only [Option.some.injEq,Prod.mk.injEq] at h
    obtain ⟨rfl,rfl,rfl⟩:=h
    exact ⟨M1,fun m hx=>by rw [g1 m hx];rfl⟩
 | scope b=>exact hr.code h
 | rangeFunc f ps a b =>
  simp only [stepCode] at h
  simp only [DCode.sh,stepCode,ev_sh]
  generalize f.ev tm=v at h ⊢
  cases v <;> try simp only [reduceCtorEq] at h
  rename_i g fa fc
  simp only [PV.sh,shL_map]
  split at h
  ·rename_i x s1 h1
   obtain ⟨M1,g1⟩:=hr.call h1
   have h2:∀ m,M1≤m→(R m).call (.func g (fa.map (PV.sh H.length)) (fc.map (PV.sh H.length))) [.yield (st.heap.length+H.length)] { (st.sh H) with heap:=(st.sh H).heap++[.loop (tm.map (PV.sh H.length)) ps (a.sh H.length) (b.sh H.length) .ready none] }=some (.ret (x.sh H.length),s1.sh H):=fun m hx=>by
    have:=g1 m hx
    simp only [PV.sh,shL_map,List.map_cons,List.map_nil] at this
    rw [← push_sh] at this
    simp only [HObj.sh] at this
    exact this
   refine ⟨M1,fun m hx=>?_⟩
   rw [len_sh,h2 m hx]
   simp only
   split at h
   ·rename_i s2 h3
    rw [setLoop_sh h3]
    simp only [Option.some.injEq,Prod.mk.injEq] at h
    obtain ⟨rfl,rfl,rfl⟩:=h;rfl
   ·rename_i s2 h3
    rw [setLoop_sh h3]
    simp only [Option.some.injEq,Prod.mk.injEq] at h
    obtain ⟨rfl,rfl,rfl⟩:=h;rfl
   ·rename_i id s2 h3
    rw [setLoop_sh h3]
    simp only [Option.some.injEq,Prod.mk.injEq] at h
    obtain ⟨rfl,rfl,rfl⟩:=h;rfl
   ·cases h
  ·cases h
theorem run_sh (hE:EnvSh E0 E):∀ n,RecSh H (run E0 n) (run E)
 | 0=>⟨(fun h=>by cases h),(fun h=>by cases h)⟩
 | n+1=>by
  have ih:=run_sh hE n
  refine ⟨fun h=>?_,fun h=>?_⟩
  ·obtain ⟨M,hM⟩:=stepCode_sh hE.meth ih h
   refine ⟨M+1,fun m hx=>?_⟩
   obtain ⟨k,rfl⟩:∃ k,m=k+1:=⟨m - 1,by omega⟩
   exact hM k (by omega)
  ·obtain ⟨M,hM⟩:=stepCall_sh hE ih h
   refine ⟨M+1,fun m hx=>?_⟩
   obtain ⟨k,rfl⟩:∃ k,m=k+1:=⟨m - 1,by omega⟩
   exact hM k (by omega)
theorem wp_shift (hE:EnvSh E0 E) {c:DCode} (hc:∀ k,c.sh k=c) {n:Nat} {e:Ex} {tm tm':List PV} {s:St} (h:(run E0 n).code c tm ⟨[],0⟩=some (e,tm',s)) {Q:Ex→List PV→St→Prop} {st:St} (hst:st.lo=st.heap.length) (hQ:Q (e.sh st.heap.length) (tm'.map (PV.sh st.heap.length)) (s.sh st.heap)):Wp E c Q (tm.map (PV.sh st.heap.length)) st:=by
 obtain ⟨M,hM⟩:=(run_sh (H:=st.heap) hE n).code h
 unfold Wp
 refine ⟨M,_,_,_,fun m hm=>?_,hQ⟩
 have:=hM m hm
 rw [hc] at this
 have e0:(⟨[],0⟩:St).sh st.heap=st:=by
  obtain ⟨hp,lo⟩:=st
  simp only at hst
  simp only [St.sh,List.map_nil,List.append_nil,Nat.zero_add,hst]
 rw [e0] at this
 exact this
end
end Go.Den
end
section
namespace Go.Den.Ch
structure Fig where
 size:Int
 rank:Int
 eve:Int
deriving DecidableEq
structure CL where
 room:Int
 depth:Int
 figs:List Fig
structure Flt where
 rule:Int
 one:Int
 other:Int
deriving DecidableEq
def inB (x lo hi:Int):Bool:=decide (lo≤x)&&decide (x≤hi)
def figB (f:Fig):Bool:=inB f.size 1 9&&(inB f.rank 1 5&&inB f.eve 0 5)
def listB (c:CL):Bool:=inB c.room 1 20&&(inB c.depth 1 5&&(decide (c.figs.length≤6)&&c.figs.all figB))
def packB (c:CL) (p:List Int):Bool:=decide (p.length=c.figs.length)&&p.all (fun n=>inB n 0 (c.depth - 1))
def layerL:List Fig→List Int→Int→List Int
 | f::fs,x::xs,n=>if x=n then f.size::layerL fs xs n else layerL fs xs n
 | _,_,_=>[]
def layersL (p:List Int):Int:=p.foldl (fun n x=>max n (x+1)) 0
def key (i:Nat) (f:Fig):Int:=if i=0 then -f.rank else f.eve
def brk (c:CL) (p:List Int) (i a b:Nat):Bool:=match p[a]?,p[b]?,c.figs[a]?,c.figs[b]? with
 | some x,some y,some f,some g=>decide (x<y)&&decide (key i f>key i g)
 | _,_,_,_=>false
def disB (c:CL) (p:List Int) (i a:Nat):Option Flt:=(List.range c.figs.length).findSome? fun b=>if brk c p i a b then some ⟨3+i,a,b⟩ else none
def disA (c:CL) (p:List Int) (i:Nat):Option Flt:=(List.range c.figs.length).findSome? fun a=>disB c p i a
def disorder (c:CL) (p:List Int):Option Flt:=(List.range 2).findSome? fun i=>disA c p i
def fullL (c:CL) (p:List Int):Option Flt:=(List.range c.depth.toNat).findSome? fun (n:Nat)=>if (layerL c.figs p n).sum>c.room then some ⟨1,n,0⟩ else none
def gapL (c:CL) (p:List Int):Option Flt:=(List.range (layersL p).toNat).findSome? fun (n:Nat)=>if (layerL c.figs p n).length=0 then some ⟨2,n,0⟩ else none
def fault (c:CL) (p:List Int):Option Flt:=(fullL c p).or ((gapL c p).or (disorder c p))
end Go.Den.Ch
end
section
namespace Go.Den.Z
abbrev a (xa xb):=(⟨.val (.t xa),some xb,none⟩:DOper)
abbrev b (xa xb xc):=(⟨.load false xa (.t xb),some xc,none⟩:DOper)
abbrev c (xa xb):=(⟨.val (.c (.int .i64 xa)),some xb,none⟩:DOper)
abbrev d (xa xb xc):=(⟨.fieldAddr xa (.t xb),some xc,none⟩:DOper)
abbrev e (xa):=(⟨.val (.c (.bool false)),some xa,none⟩:DOper)
abbrev f (xa xb xc):=(⟨.binI .add (.t xa) (.c (.int .i64 xb)),some xc,none⟩:DOper)
abbrev g (xa xb xc):=(⟨.load true xa (.t xb),some xc,none⟩:DOper)
abbrev h (xa xb xc):=(⟨.pick (.t xa) (.c (.bool true)) (.t xb),some xc,none⟩:DOper)
abbrev i (xa xb xc):=(⟨.pick (.t xa) (.t xb) (.c (.bool false)),some xc,none⟩:DOper)
abbrev j (xa xb xc):=(⟨.store xa (.t xb) (.t xc),none,none⟩:DOper)
abbrev k (xa xb xc xd):=(⟨.indexAddr xa (.t xb) (.t xc),some xd,none⟩:DOper)
abbrev l (xa xb xc):=(⟨.call (.c (.func xa [] [])) [.t xb],some xc,none⟩:DOper)
abbrev m (xa xb):=(⟨.box (.t xa),some xb,none⟩:DOper)
abbrev n (xa xb xc):=(⟨.val (.t xa),some xb,some (xc,true)⟩:DOper)
abbrev o (xa xb):=(⟨.len (.t xa),some xb,none⟩:DOper)
abbrev p (xa xb xc):=(⟨.binI .lss (.t xa) (.t xb),some xc,none⟩:DOper)
abbrev q (xa xb xc xd):=(⟨.call (.c (.func xa [] [])) [(.t xb),(.t xc)],some xd,none⟩:DOper)
abbrev r (xa xb xc):=(⟨.val (.t xa),some xb,some (xc,false)⟩:DOper)
abbrev s (xa xb xc):=(⟨.extract (.t xa) xb,some xc,none⟩:DOper)
abbrev t (xa xb xc xd xe):=(⟨.call (.c (.func xa [] [])) [(.t xb),(.t xc)],some xd,some (xe,false)⟩:DOper)
abbrev u (xa xb xc xd):=(⟨.load false xa (.t xb),some xc,some (xd,true)⟩:DOper)
abbrev v (xa xb xc xd):=(⟨.load false xa (.t xb),some xc,some (xd,false)⟩:DOper)
abbrev w (xa xb xc xd xe):=(⟨.call (.c (.func xa [] [])) [(.t xb),(.t xc)],some xd,some (xe,true)⟩:DOper)
abbrev x (xa xb):=(⟨.not (.t xa),some xb,none⟩:DOper)
abbrev y (xa):=(⟨.val (.c .nilslice),some xa,none⟩:DOper)
abbrev z (xa xb xc):=(⟨.not (.t xa),some xb,some (xc,false)⟩:DOper)
abbrev A (xa xb xc xd):=(⟨.load true xa (.t xb),some xc,some (xd,false)⟩:DOper)
abbrev B (xa xb xc xd xe):=(⟨.call (.c (.func xa [] [])) [(.t xb),(.c (.int .i64 xc)),(.t xd)],some xe,none⟩:DOper)
abbrev C (xa xb xc xd):=(⟨.fieldAddr xa (.t xb),some xc,some (xd,true)⟩:DOper)
abbrev D (xa xb xc):=(⟨.binI .sub (.t xa) (.c (.int .i64 xb)),some xc,none⟩:DOper)
abbrev E (xa xb xc xd xe):=(⟨.call (.c (.func xa [] [])) [(.t xb),(.c (.int .i64 xc)),(.c (.int .i64 xd))],some xe,none⟩:DOper)
abbrev F (xa xb xc xd):=(⟨.fieldAddr xa (.t xb),some xc,some (xd,false)⟩:DOper)
abbrev G (xa xb xc xd):=(⟨.alloc [(.int .i64 xa),(.int .i64 xb),(.int .i64 xc)],some xd,none⟩:DOper)
abbrev H (xa xb xc xd):=(⟨.append false xa (.t xb) (.t xc),some xd,none⟩:DOper)
abbrev I (xa xb xc xd xe xf):=(⟨.alloc [(.int .i64 xa),(.int .i64 xb),(.int .i64 xc),(.int .i64 xd),(.int .i64 xe)],some xf,none⟩:DOper)
abbrev J (xa xb xc xd xe):=(⟨.indexVar xa xb (.t xc) (.t xd),some xe,none⟩:DOper)
abbrev K (xa xb xc):=(⟨.not (.t xa),some xb,some (xc,true)⟩:DOper)
abbrev L (xa xb xc xd xe xf):=(⟨.call (.c (.func xa [] [])) [(.t xb),(.c (.int .i64 xc)),(.c (.int .i64 xd))],some xe,some (xf,false)⟩:DOper)
abbrev M (xa xb xc):=(⟨.binI .geq (.t xa) (.c (.int .i64 xb)),some xc,none⟩:DOper)
abbrev N (xa xb xc xd xe xf):=(⟨.call (.c (.func xa [] [])) [(.t xb),(.c (.int .i64 xc)),(.c (.int .i64 xd))],some xe,some (xf,true)⟩:DOper)
abbrev O (xa xb xc):=(⟨.len (.t xa),some xb,some (xc,false)⟩:DOper)
abbrev P (xa xb):=(⟨.alloc [.nilslice,(.int .i64 xa)],some xb,none⟩:DOper)
abbrev Q (xa):=(⟨.val (.c (.bool true)),some xa,none⟩:DOper)
abbrev R (xa xb xc):=(⟨.binI .lss (.t xa) (.c (.int .i64 xb)),some xc,none⟩:DOper)
abbrev S (xa xb xc):=(⟨.call (.t xa) [.t xb],some xc,none⟩:DOper)
abbrev T (xa xb xc xd xe):=(⟨.indexVar xa xb (.t xc) (.c (.int .i64 xd)),some xe,none⟩:DOper)
abbrev U (xa xb xc):=(⟨.binI .eql (.t xa) (.t xb),some xc,none⟩:DOper)
abbrev V (xa xb xc):=(⟨.alloc [(.int .i64 xa),(.int .i64 xb),.nilslice,.nilslice],some xc,none⟩:DOper)
abbrev W (xa xb xc xd xe xf xg):=(⟨.buildSlice xa xb [(.int .i64 xc)] [(xd,xe,(.t xf))],some xg,none⟩:DOper)
abbrev X (xa xb xc xd):=(⟨.binI .neq (.t xa) (.c (.int .i64 xb)),some xc,some (xd,false)⟩:DOper)
abbrev Y (xa xb xc xd):=(⟨.binI .gtr (.t xa) (.c (.int .i64 xb)),some xc,some (xd,false)⟩:DOper)
abbrev Z (xa xb xc xd):=(⟨.binI .eql (.t xa) (.c (.int .i64 xb)),some xc,some (xd,true)⟩:DOper)
abbrev a0 (xa xb):=(⟨.call (.c (.func xa [] [])) [],some xb,none⟩:DOper)
abbrev a1 (xa xb xc xd):=(⟨.mkFunc xa [] [.t xb],some xc,some (xd,true)⟩:DOper)
abbrev a2 (xa xb xc xd):=(⟨.binI .leq (.t xa) (.t xb),some xc,some (xd,true)⟩:DOper)
abbrev a3 (xa xb xc xd xe):=(⟨.indexAddr xa (.t xb) (.t xc),some xd,some (xe,true)⟩:DOper)
abbrev a4 (xa xb xc):=(⟨.binI .neq (.t xa) (.t xb),some xc,none⟩:DOper)
abbrev a5 (xa xb xc):=(⟨.binI .leq (.t xa) (.c (.int .i64 xb)),some xc,none⟩:DOper)
abbrev a6 (xa xb xc xd xe):=(⟨.call (.c (.func xa [] [])) [(.t xb),(.t xc),(.t xd)],some xe,none⟩:DOper)
abbrev a7 (xa xb xc xd xe xf xg xh xi xj xk xl xm):=(⟨.build [(.int .i64 xa),(.int .i64 xb),(.int .i64 xc)] [(xd,xe,(.c (.int .i64 xf))),(xg,xh,(.c (.int .i64 xi))),(xj,xk,(.c (.int .i64 xl)))],some xm,none⟩:DOper)
abbrev a8 (xa xb xc xd):=(⟨.call (.c (.func xa [] [])) [(.t xb),(.c (.func xc [] []))],some xd,none⟩:DOper)
abbrev a9 (xa xb xc):=(⟨.binI .neq (.t xa) (.c (.int .i64 xb)),some xc,none⟩:DOper)
abbrev b0 (xa xb xc):=(⟨.binI .eql (.t xa) (.c (.int .i64 xb)),some xc,none⟩:DOper)
abbrev b1 (xa xb xc xd):=(⟨.load true xa (.t xb),some xc,some (xd,true)⟩:DOper)
abbrev b2 (xa):=(⟨.val (.c .nilfunc),some xa,none⟩:DOper)
abbrev b3 (xa xb xc):=(⟨.store xa (.t xb) (.c (.int .i64 xc)),none,none⟩:DOper)
abbrev b4 (xa xb xc):=(⟨.alloc [(.int .i64 xa),(.int .i64 xb),.nilslice],some xc,none⟩:DOper)
abbrev b5 (xa xb xc xd):=(⟨.slice xa (.t xb) none (some (.t xc)),some xd,none⟩:DOper)
abbrev b6 (xa xb xc xd):=(⟨.pick (.t xa) (.t xb) (.c (.bool false)),some xc,some (xd,false)⟩:DOper)
abbrev b7 (xa xb xc xd):=(⟨.binI .neq (.t xa) (.t xb),some xc,some (xd,false)⟩:DOper)
abbrev b8 (xa xb xc):=(⟨.len (.t xa),some xb,some (xc,true)⟩:DOper)
abbrev b9 (xa xb xc xd xe xf xg xh xi xj):=(⟨.build [(.int .i64 xa),(.int .i64 xb),(.int .i64 xc)] [(xd,xe,(.c (.int .i64 xf))),(xg,xh,(.t xi))],some xj,none⟩:DOper)
abbrev c0 (xa xb xc xd xe xf xg xh xi):=(⟨.build [(.int .i64 xa),(.int .i64 xb),.nilslice,.nilslice] [(xc,xd,(.t xe)),(xf,xg,(.t xh))],some xi,none⟩:DOper)
abbrev c1 (xa xb xc):=(⟨.binI .gtr (.t xa) (.c (.int .i64 xb)),some xc,none⟩:DOper)
abbrev c2 (xa xb xc):=(⟨.alloc [(.int .i64 xa),(.int .i64 xb)],some xc,none⟩:DOper)
abbrev c3 (xa xb xc):=(⟨.binI .geq (.t xa) (.t xb),some xc,none⟩:DOper)
abbrev c4 (xa):=(⟨.alloc [.nilslice],some xa,none⟩:DOper)
abbrev c5 (xa xb xc xd):=(⟨.indexAddr xa (.t xb) (.c (.int .i64 xc)),some xd,none⟩:DOper)
abbrev c6 (xa xb xc xd):=(⟨.call (.c (.func xa [] [])) [(.t xb),(.c (.int .i64 xc))],some xd,none⟩:DOper)
abbrev c7 (xa xb xc xd):=(⟨.build [.nilslice] [(xa,xb,(.t xc))],some xd,none⟩:DOper)
abbrev c8 (xa xb xc xd xe):=(⟨.indexAddr xa (.t xb) (.t xc),some xd,some (xe,false)⟩:DOper)
abbrev c9 (xa xb xc xd):=(⟨.build [(.int .i64 xa),(.int .i64 xb),(.int .i64 xc)] [],some xd,none⟩:DOper)
abbrev d0 (xa xb xc):=(⟨.mkFunc xa [] [.t xb],some xc,none⟩:DOper)
abbrev d1 (xa xb xc xd):=(⟨.call (.t xa) [(.t xb),(.t xc)],some xd,none⟩:DOper)
abbrev d2 (xa xb xc xd xe xf xg xh xi):=(⟨.buildSlice xa xb [.nilslice,.nilslice] [(xc,xd,(.t xe)),(xf,xg,(.t xh))],some xi,none⟩:DOper)
abbrev d3 (xa):=(⟨.alloc [.nilfunc],some xa,none⟩:DOper)
end Go.Den.Z
end

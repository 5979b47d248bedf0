/- Part of the proofs of laws of the package version. Texts: DenOpsF, DenOpsG, DenOpsI. -/
import Derived.Test.YthnfeimjhibcaaaTBAd
set_option linter.unusedSimpArgs false
set_option linter.unusedVariables false
section
namespace Go.Den
section
variable {P:Program} {B0:Nat} {w0:World} {G:Gh} {st:St} {w:World} {tm:List PV} {a:Act} {o:Oper} {E:Env} {rec:Rec} {v:PV} {st':St}
theorem checkKey_ok {t:TypeId} {fields:Array Field} {xs:Array Value} {l:List Int} (emp:Bool) (hu:P.underlying t=some (.struct fields)) (hi:intFields P fields.toList=true) (hoff:offsFrom 0 fields.toList=true)
  (hl:l.length=fields.size) (hx:xs.toList=l.map (Value.int .i64)):(Instr.checkKey emp 10000 t (.agg xs)).run P w = .ok () w:=by
 have key:∀ (d:Nat) (fs:List Field) (k:Nat) (l:List Int),intFields P fs=true→offsFrom k fs=true→l.length=fs.length→(∀ i n,l[i]? = some n→xs[k+i]? = some (.int .i64 n)) →
   (forIn fs PUnit.unit (fun f _=>if f.name≠ "_" then do Instr.checkKey emp (d+1) f.type (← part f.type xs f.offset);pure (ForInStep.yield PUnit.unit) else pure (ForInStep.yield PUnit.unit)):Sem PUnit).run P w = .ok PUnit.unit w:=by
  intro d fs
  induction fs with
  | nil=>intro k l _ _ _ _;simp
  | cons f fs ih =>
   intro k l hi hoff hl hx
   cases l with
   | nil=>simp at hl
   | cons n l =>
    obtain ⟨h1,h2⟩:=intFields_spec hi f (by simp)
    simp only [offsFrom,Bool.and_eq_true,beq_iff_eq] at hoff
    have hagg:(isAgg f.type).run P w = .ok false w:=by unfold isAgg;simp [run_underlying h2]
    have p1:(part f.type xs f.offset).run P w = .ok (.int .i64 n) w:=by
     unfold part;simp [hagg,hoff.1,show xs[k]? = some (.int .i64 n) from hx 0 n rfl]
    have hi':intFields P fs=true:=by
     unfold intFields at hi ⊢
     rw [List.all_cons,Bool.and_eq_true] at hi
     exact hi.2
    have hck:(Instr.checkKey emp (d+1) f.type (.int .i64 n)).run P w = .ok () w:=by
     simp [Instr.checkKey,run_underlying h2]
    have:=ih (k+1) l hi' hoff.2 (by simpa using hl) (fun i q hq=>by have:=hx (i+1) q (by simpa using hq);rwa [show k+(i+1)=k+1+i from by omega] at this)
    simp only [List.forIn_cons,Sem.run_bind,ne_eq,h1,not_false_eq_true,if_true,p1,Result.andThen_ok,hck,Sem.run_pure]
    exact this
 rw [show (10000:Nat)=9999+1 from rfl]
 unfold Instr.checkKey
 simp only [Sem.run_bind,run_underlying hu,Result.andThen_ok]
 rw [← Array.forIn_toList]
 have:=key 9998 fields.toList 0 l hi hoff (by simpa using hl) (fun i n hn=>by rw [Nat.zero_add,← Array.getElem?_toList,hx];simp [hn])
 simp only [this,Result.andThen_ok,Sem.run_pure]
theorem ints_length:∀ {ps:List PV} {l:List Int},ints ps=some l→l.length=ps.length
 | [],l,h=>by simp only [ints] at h;cases h;rfl
 | p::ps,l,h=>by
  unfold ints at h
  split at h
  ·rename_i h0;cases h0
  ·rename_i h0;cases h0
   obtain ⟨l',h3,h4⟩:=Option.map_eq_some_iff.1 h
   subst h4
   simp [ints_length h3]
  ·cases h
structure KeyOk (P:Program) (t:TypeId) (n:Nat):Prop where
 check:∀ (emp:Bool) (w:World) {xs:Array Value} {l:List Int},l.length=n→xs.toList=l.map (Value.int .i64)→(Instr.checkKey emp 10000 t (.agg xs)).run P w = .ok () w
 eq:∀ (w:World) {xs ys:Array Value} {l m:List Int},l.length=n→m.length=n→xs.toList=l.map (Value.int .i64)→ys.toList=m.map (Value.int .i64)→(Op.equalIn 10000 t (.agg xs) (.agg ys)).run P w = .ok (l==m) w
 find:∀ (w:World) (k:Value) (ms:List MapEntry),(Instr.findKey t k ms).run P w=(Instr.findAsking t k ms 0).run P w
theorem arrKey_spec {e:TypeId} (h:arrKey P e=true):P.underlying e=some (.int .i64)∧∃ i,P.info? e=some i∧i.size=1:=by
 unfold arrKey at h
 rw [Bool.and_eq_true] at h
 obtain ⟨h1,h2⟩:=h
 refine ⟨?_,?_⟩
 ·split at h1
  ·assumption
  ·cases h1
 ·split at h2
  ·rename_i i hi;exact ⟨i,hi,by simpa using h2⟩
  ·cases h2
theorem keyOk_arr {t el:TypeId} {n:Nat} (hu:P.underlying t=some (.array n el)) (he:arrKey P el=true):KeyOk P t n:=by
 obtain ⟨h1,i,hi,hs⟩:=arrKey_spec he
 have hc:P.cellsOf el=1:=by unfold Program.cellsOf;rw [hi];simpa using hs
 have hagg:∀ w:World,(isAgg el).run P w = .ok false w:=fun w=>by unfold isAgg;simp [run_underlying h1]
 have hpart:∀ (w:World) {xs:Array Value} {l:List Int},xs.toList=l.map (Value.int .i64)→∀ j (hj:j<l.length),(part el xs j).run P w = .ok (.int .i64 l[j]) w:=fun w xs l hx j hj=>by
  have hg:xs[j]? = some (.int .i64 l[j]):=by rw [← Array.getElem?_toList,hx,List.getElem?_map,List.getElem?_eq_getElem hj];rfl
  unfold part;simp [hagg w,hg]
 refine ⟨fun emp w xs l hl hx=>?_,fun w xs ys l m hl hm hx hy=>?_,fun w k ms=>?_⟩
 ·rw [show (10000:Nat)=9998+1+1 from rfl]
  generalize (9998:Nat)=d
  unfold Instr.checkKey
  simp only [Sem.run_bind,run_underlying hu,Result.andThen_ok]
  simp only [Std.Legacy.Range.forIn_eq_forIn_range',Std.Legacy.Range.size,Nat.sub_zero,Nat.add_one_sub_one,Nat.div_one]
  have key:∀ is:List Nat,(∀ j∈is,j<l.length)→(forIn is PUnit.unit (fun j _=>do Instr.checkKey emp (d+1) el (← part el xs (j*(← sizeOf el)));pure (ForInStep.yield PUnit.unit)):Sem PUnit).run P w = .ok PUnit.unit w:=by
   intro is
   induction is with
   | nil=>intro _;simp
   | cons j is ih =>
    intro hb
    have hck:(Instr.checkKey emp (d+1) el (.int .i64 (l[j]'(hb j (by simp))))).run P w = .ok () w:=by
     simp [Instr.checkKey,run_underlying h1]
    simp only [List.forIn_cons,Sem.run_bind,run_sizeOf w hi,Result.andThen_ok,hc,Nat.mul_one,hpart w hx j (hb j (by simp)),hck,Sem.run_pure]
    exact ih fun q hq=>hb q (by simp [hq])
  have:=key (List.range' 0 n) (fun j hj=>by rw [List.mem_range'] at hj;obtain ⟨q,h2,h3⟩:=hj;omega)
  first|exact this|simp only [this,Result.andThen_ok,Sem.run_pure]
 ·rw [show (10000:Nat)=9998+1+1 from rfl,run_equalIn_array w (9998+1) xs ys hu hi,hc]
  generalize (9998:Nat)=d
  have key:∀ is:List Nat,(∀ j∈is,j<l.length∧j<m.length)→(Op.eqItems (d+1) el 1 xs ys is).run P w = .ok (is.all fun j=>l[j]? == m[j]?) w:=by
   intro is
   induction is with
   | nil=>intro _;simp [Op.eqItems]
   | cons j is ih =>
    intro hb
    obtain ⟨b1,b2⟩:=hb j (by simp)
    have p3:=run_equalIn_int (P:=P) w d el .i64 .i64 l[j] m[j] h1
    simp only [Op.eqItems,Sem.run_bind,Nat.mul_one,hpart w hx j b1,hpart w hy j b2,p3,Result.andThen_ok,List.all_cons,List.getElem?_eq_getElem b1,List.getElem?_eq_getElem b2]
    by_cases hn:l[j]=m[j]
    ·have h9:=ih fun q hq=>hb q (by simp [hq])
     have e1:(l[j]==m[j])=true:=beq_iff_eq.2 hn
     have e2:(some l[j]==some m[j])=true:=beq_iff_eq.2 (congrArg some hn)
     simp only [e1,e2,Bool.not_true,Bool.false_eq_true,if_false,h9,Bool.true_and]
    ·have e1:(l[j]==m[j])=false:=beq_eq_false_iff_ne.2 hn
     have e2:(some l[j]==some m[j])=false:=beq_eq_false_iff_ne.2 fun h=>hn (Option.some.inj h)
     simp only [e1,e2,Bool.not_false,if_true,Sem.run_pure,Bool.false_and]
  rw [key (List.range n) (fun j hj=>by have:=List.mem_range.1 hj;omega)]
  congr 1
  rw [Bool.eq_iff_iff,List.all_eq_true,beq_iff_eq]
  constructor
  ·intro h
   apply List.ext_getElem?
   intro j
   by_cases hj:j<n
   ·exact eq_of_beq (h j (List.mem_range.2 hj))
   ·rw [List.getElem?_eq_none (by omega),List.getElem?_eq_none (by omega)]
  ·rintro rfl j _
   simp
 ·unfold Instr.findKey
  simp only [Sem.run_bind,run_underlying hu,Result.andThen_ok]
  cases ms with
  | nil=>simp [Instr.findNow,Instr.findAsking]
  | cons e ms =>
   have:Instr.findNow (.array n el) k (e::ms) 0=none:=by
    simp only [Instr.findNow,Instr.sameNow]
   rw [this]
theorem findAsking_ok {t:TypeId} {n:Nat} {kv:Array Value} {ki:List Int} (hK:KeyOk P t n)
  (hl:ki.length=n) (hk:kv.toList=ki.map (Value.int .i64)):∀ (es:List (PV×PV)) (ms:List MapEntry) (i:Nat) (r:Option Nat),EsR G w es ms→findKey ki es i=some r →
   ∃ q,(Instr.findAsking t (.agg kv) ms i).run P w = .ok q w∧(match r with|some j=>∃ x,q=some (j,x)∧i≤j∧∃ e,es[j - i]? = some e∧VR G w e.2 x|none=>q=none)
 | [],ms,i,r,hr,h=>by
  simp only [findKey] at h;cases h
  have:ms=[]:=hr
  subst this
  exact ⟨none,rfl,rfl⟩
 | (k',v')::es,ms,i,r,hr,h=>by
  obtain ⟨e,ms',rfl,h1,h2,h3⟩:=hr
  cases k' with
  | agg cs =>
   simp only [findKey] at h
   simp only [VR] at h1
   obtain ⟨xs,hx1,hx2⟩:=h1
   split at h
   ·rename_i l hll
    split at h
    ·rename_i hlen0
     have hxs:=ints_inv hll hx2
     have hlen:l.length=n:=by omega
     have heq:=hK.eq w hl hlen hk hxs
     have hrun:(Op.equal t (.agg kv) e.key).run P w = .ok (ki==l) w:=by rw [hx1];unfold Op.equal Op.maxDepth;exact heq
     split at h
     ·rename_i hlk
      cases h
      subst hlk
      refine ⟨some (i,e.val),?_,e.val,rfl,Nat.le_refl _,(PV.agg cs,v'),by simp,h2⟩
      simp [Instr.findAsking,hrun]
     ·rename_i hlk
      obtain ⟨q,h4,h5⟩:=findAsking_ok hK hl hk es ms' (i+1) r h3 h
      refine ⟨q,?_,?_⟩
      ·have:(ki==l)=false:=by simp;exact fun e=>hlk e.symm
       simp [Instr.findAsking,hrun,this,h4]
      ·cases r with
       | none=>exact h5
       | some j =>
        obtain ⟨x,h6,h7,e',h8,h9⟩:=h5
        refine ⟨x,h6,by omega,e',?_,h9⟩
        rw [show j - i=j - (i+1)+1 from by omega]
        simpa using h8
    ·cases h
   ·cases h
  | _=>simp only [findKey] at h;cases h
theorem findKey_run {t:TypeId} {fields:Array Field} {k:Value} {ms:List MapEntry} (hu:P.underlying t=some (.struct fields)):(Instr.findKey t k ms).run P w=(Instr.findAsking t k ms 0).run P w:=by
 unfold Instr.findKey
 simp only [Sem.run_bind,run_underlying hu,Result.andThen_ok]
 cases ms with
 | nil=>simp [Instr.findNow,Instr.findAsking]
 | cons e ms =>
  have:Instr.findNow (.struct fields) k (e::ms) 0=none:=by
   simp only [Instr.findNow,Instr.sameNow]
  rw [this]
theorem keyOk_struct {t:TypeId} {fields:Array Field} (hu:P.underlying t=some (.struct fields)) (hi:intFields P fields.toList=true) (hoff:offsFrom 0 fields.toList=true) (hst:P.stoodInHeld t=false):KeyOk P t fields.size :=
 ⟨fun emp _ _ _ hl hx=>checkKey_ok emp hu hi hoff hl hx,fun _ _ _ _ _ hl hm hx hy=>equal_struct hu hi hoff hst hl hm hx hy,fun _ _ _=>findKey_run hu⟩
theorem ok_lookup (hw:WR P B0 w0 G st.heap w) (ht:VRL G w tm a.tmps.toList) {t kt e:TypeId} {m k:Operand} {ok:Bool} {n:Nat} {zv:Value} {z:PV} {d g:Opd} (ho:o.op = .lookup t m k ok) (hut:P.underlying t=some (.map kt e)) (hK:KeyOk P kt n)
  (hze:(P.info? e).bind (·.zero)=some zv) (hz:const0 zv=some z) (hd:opd m=some d) (hg:opd k=some g)
  (hs:stepOp E rec tm st (.lookup n z d g ok)=some (.val v st')):Yields P B0 w0 G st w v st' (OpRun P a o w):=by
 have hm:=opd_ok ht hd
 have hk:=opd_ok ht hg
 simp only [stepOp] at hs
 split at hs
 ·rename_i l kc h1 h2
  rw [h1] at hm
  rw [h2] at hk
  simp only [VR] at hm hk
  obtain ⟨b,hb1,hb2⟩:=hm
  obtain ⟨kv,hk1,hk2⟩:=hk
  split at hs
  ·rename_i es hh
   obtain ⟨_,hbl,_,_,ob,hob,hor⟩:=hw.obj hb1
   rw [hh] at hob;cases hob
   obtain ⟨ents,clock,hhp,hes⟩:=hor
   split at hs
   ·rename_i ki hki
    split at hs
    ·rename_i hlen
     have hget:(getObj b).run P w = .ok (.map ents clock) w:=by simp [getObj,Sem.run,hhp]
     have hkv:=ints_inv hki hk2
     have hck:∀ emp,(Instr.checkKey emp 10000 kt (.agg kv)).run P w = .ok () w:=fun emp=>hK.check emp w hlen hkv
     obtain ⟨i,hi1,hi2⟩:=Option.bind_eq_some_iff.1 hze
     have hzr:(zeroValue e).run P w = .ok zv w:=by unfold zeroValue;simp [run_typeInfo w hi1,hi2]
     split at hs
     ·rename_i j hf
      obtain ⟨en,he1,he2⟩:=Option.map_eq_some_iff.1 hs
      cases he2
      obtain ⟨q,hq1,x,hq2,_,e',he3,hx⟩:=findAsking_ok (P:=P) hK hlen hkv es ents.toList 0 (some j) hes hf
      simp only [Nat.sub_zero] at he3
      rw [he1] at he3;cases he3
      subst hq2
      refine .pure hw (v:=if ok then .tuple #[x,.bool true] else x) (OpRun.val (by unfold execOp;rw [ho]) ?_) ?_
      ·unfold Instr.lookup
       simp only [Sem.run_bind,run_underlying hut,Result.andThen_ok,hb2,hget,hck,hk1,hK.find,hq1,Sem.run_pure]
      ·cases ok
       ·exact hx
       ·simp only [if_true,VR]
        exact ⟨_,rfl,VRL.cons hx (VRL.cons VR.bool_mk (VRL.nil_iff.2 rfl))⟩
     ·rename_i hf
      cases hs
      obtain ⟨q,hq1,hq2⟩:=findAsking_ok (P:=P) hK hlen hkv es ents.toList 0 none hes hf
      simp only at hq2
      subst hq2
      refine .pure hw (v:=if ok then .tuple #[zv,.bool false] else zv) (OpRun.val (by unfold execOp;rw [ho]) ?_) ?_
      ·unfold Instr.lookup
       simp only [Sem.run_bind,run_underlying hut,Result.andThen_ok,hb2,hget,hck,hk1,hK.find,hq1,Sem.run_pure,hzr]
      ·cases ok
       ·exact const0_ok hz
       ·simp only [if_true,VR]
        exact ⟨_,rfl,VRL.cons (const0_ok hz) (VRL.cons VR.bool_mk (VRL.nil_iff.2 rfl))⟩
     ·cases hs
    ·cases hs
   ·cases hs
  ·cases hs
 ·cases hs
theorem EsR.snoc:∀ {es:List (PV×PV)} {ms:List MapEntry} {k x:PV} {e:MapEntry},EsR G w es ms→VR G w k e.key→VR G w x e.val→EsR G w (es++[(k,x)]) (ms++[e])
 | [],ms,k,x,e,h,h1,h2=>by
  have:ms=[]:=h
  subst this
  exact ⟨e,[],rfl,h1,h2,rfl⟩
 | (k',v')::es,ms,k,x,e,h,h1,h2=>by
  obtain ⟨e',ms',rfl,a1,a2,a3⟩:=h
  exact ⟨e',ms'++[e],rfl,a1,a2,EsR.snoc a3 h1 h2⟩
theorem ok_mapUpdate (hw:WR P B0 w0 G st.heap w) (ht:VRL G w tm a.tmps.toList) {t kt e:TypeId} {m k x:Operand} {n:Nat} {d g f:Opd} (ho:o.op = .mapUpdate t m k x∨o.op = .insert t m k x) (hut:P.underlying t=some (.map kt e)) (hK:KeyOk P kt n)
  (hd:opd m=some d) (hg:opd k=some g) (hf0:opd x=some f)
  (hs:stepOp E rec tm st (.mapUpdate n d g f)=some (.val v st')):Yields P B0 w0 G st w v st' (OpRun P a o w):=by
 have hm:=opd_ok ht hd
 have hk:=opd_ok ht hg
 have hxv:=opd_ok ht hf0
 simp only [stepOp] at hs
 split at hs
 ·rename_i l kc h1 h2
  rw [h1] at hm
  rw [h2] at hk
  have hk0:=hk
  simp only [VR] at hm hk
  obtain ⟨b,hb1,hb2⟩:=hm
  obtain ⟨kv,hk1,hk2⟩:=hk
  split at hs
  ·rename_i es hh
   obtain ⟨_,hbl,_,_,ob,hob,hor⟩:=hw.obj hb1
   rw [hh] at hob;cases hob
   obtain ⟨ents,clock,hhp,hes⟩:=hor
   split at hs
   ·rename_i ki hki
    split at hs
    ·rename_i hlen
     have hget:(getObj b).run P w = .ok (.map ents clock) w:=by simp [getObj,Sem.run,hhp]
     have hkv:=ints_inv hki hk2
     have hck:(Instr.checkKey false 10000 kt (.agg kv)).run P w = .ok () w:=hK.check false w hlen hkv
     split at hs
     ·rename_i hf
      cases hs
      obtain ⟨q,hq1,hq2⟩:=findAsking_ok (P:=P) hK hlen hkv es ents.toList 0 none hes hf
      simp only at hq2
      subst hq2
      obtain ⟨g1,g2⟩:=set_obj hw hb1 (.map (es++[(.agg kc,f.ev tm)])) (.map (ents.push { key := .agg kv,val:=a.eval x,born:=clock }) (clock+1)) (fun _ _ _ hh=>by rw [hhp] at hh;cases hh) (fun _ hh=>by rw [hhp] at hh;cases hh)
       (fun w' hp hh=>⟨_,_,hh,by
        rw [Array.toList_push]
        exact EsR.snoc (hes.mono hp) (by rw [hk1] at hk0;exact hk0.mono hp) (hxv.mono hp)⟩)
      have hset:(setObj b (.map (ents.push { key := .agg kv,val:=a.eval x,born:=clock }) (clock+1))).run P w = .ok () (w.putObj b (.map (ents.push { key := .agg kv,val:=a.eval x,born:=clock }) (clock+1))):=by
       simp [setObj,Sem.run,hhp,World.putObj]
      refine ⟨G,_,g1,g2 _ (Nat.min_le_right _ _),Nat.min_le_left _ _,.inr ⟨?_,rfl⟩⟩
      have hrun:(Instr.mapUpdate t (a.eval m) (a.eval k) (a.eval x)).run P w = .ok () (w.putObj b (.map (ents.push { key := .agg kv,val:=a.eval x,born:=clock }) (clock+1))):=by
       unfold Instr.mapUpdate
       simp only [Sem.run_bind,run_underlying hut,Result.andThen_ok,hb2,hget,hck,hk1,hK.find,hq1,hset]
      obtain ⟨op,_⟩:=o
      simp only at ho
      rcases ho with rfl|rfl
      ·exact OpRun.unit (by unfold execOp;rfl) hrun
      ·exact OpRun.unit (by unfold execOp;rfl) hrun
     ·cases hs
    ·cases hs
   ·cases hs
  ·cases hs
 ·cases hs
end
end Go.Den
end
section
namespace Go.Den
section
variable {P:Program} {B0:Nat} {w0:World} {G:Gh} {st:St} {w:World} {tm:List PV} {a:Act} {o:Oper} {E:Env} {rec:Rec} {v:PV} {st':St}
theorem app_run {t:TypeId} {c:Call} {x y:Operand} (ho:o.op = .call c) (hc:c.callee = .builtin .append) (hat:c.argTypes=#[t,t]) (har:c.args=#[x,y]) {u:Value} {w':World} (h:(Builtin.append_ #[t,t] o.type #[a.eval x,a.eval y]).run P w = .ok u w'):OpRun P a o w = .ok (.value u) w':=by
 unfold OpRun execOp
 rw [ho]
 simp [resolve,hc,har,hat,invoke,builtin,h]
theorem run_append_zero (t ty e:TypeId) (i:TypeInfo) (ht:P.underlying t=some (.slice e)) (hi:P.info? e=some i) (base b:Option Addr) (n cap c:Nat) (hn:n≤cap) :
  (Builtin.append_ #[t,t] ty #[.slice base n cap,.slice b 0 c]).run P w = .ok (.slice base n cap) w:=by
 have hf:(Builtin.firstCells i.size 0 (.slice b 0 c)).run P w = .ok #[] w:=by
  cases b <;> simp [Builtin.firstCells,loadCells,loadCellsFrom]
 cases base <;> simp [Builtin.append_,run_underlying ht,sizeOf,typeInfo,hi,Builtin.lenOf,hn,hf,storeCells]
theorem zeroT_info {e:TypeId} {z:List PV} {i:TypeInfo} (h:zeroT P e=some z) (hi:P.info? e=some i):∃ u,i.zero=some u∧cells0 u.cells.toList=some z:=by
 unfold zeroT at h
 rw [hi] at h
 simp only [Option.bind_some] at h
 split at h
 ·rename_i u hu;exact ⟨u,hu,h⟩
 ·cases h
theorem cells0_length:∀ {vs:List Value} {ps:List PV},cells0 vs=some ps→ps.length=vs.length
 | [],ps,h=>by simp only [cells0] at h;cases h;rfl
 | v::vs,ps,h=>by
  simp only [cells0] at h
  split at h
  ·rename_i p ps' h1 h2
   cases h
   simp [cells0_length h2]
  ·cases h
theorem new_row {e:TypeId} {z:Value} {vs:List Value} {cs:List PV} {need gc sz lo':Nat} {h1:List HObj} (m:Bool) (hw:WR P B0 w0 G h1 w) (hvl:VRL G w cs vs) (hl:vs.length=need*sz) (hz:z.cells.size=sz) (hge:need≤gc) :
  ∃ G',WR P B0 w0 G' (h1++[if m then HObj.arr cs else HObj.tag true]) (w.drew.alloc (.cells (vs.toArray++Builtin.zeroCells z.cells (gc - need)) e)) ∧
   Ext G h1 w G' (h1++[if m then HObj.arr cs else HObj.tag true]) (w.drew.alloc (.cells (vs.toArray++Builtin.zeroCells z.cells (gc - need)) e)) lo' ∧
   G'.tg h1.length=some (w.heap.size,cs.length)∧(m=false→G'.cm w.heap.size=some cs.length)∧VRC G' (w.drew.alloc (.cells (vs.toArray++Builtin.zeroCells z.cells (gc - need)) e)) cs w.heap.size 0 ∧
   HasRow (w.drew.alloc (.cells (vs.toArray++Builtin.zeroCells z.cells (gc - need)) e)) w.heap.size (gc*sz):=by
 have hsz:(vs.toArray++Builtin.zeroCells z.cells (gc - need)).size=gc*sz:=by
  simp only [Array.size_append,List.size_toArray,size_zeroCells,hz,hl,← Nat.add_mul]
  congr 1
  omega
 have hcl:=hvl.length
 have hw1:WR P B0 w0 G h1 w.drew:=hw.same rfl
 have hext:Ext G h1 w G h1 w.drew lo' := .same rfl
 obtain ⟨g1,g2,g3⟩:=alloc_row hw1 m cs (vs.toArray++Builtin.zeroCells z.cells (gc - need)) e (0,0) (by simp;omega) (Thawed.zero _)
  (fun G' w' hp hh=>VRC.of_row hh ((hvl.mono hext.pres).mono hp) (fun j u hj=>by
   rw [Nat.zero_add]
   rw [Array.getElem?_append_left (by have:=(List.getElem?_eq_some_iff.1 hj).1;simpa using this)]
   simpa using hj))
 refine ⟨_,g1,hext.trans (g2 lo'),upd_same _ _ _,fun hm=>?_,g3,⟨_,_,_,heap_alloc_new w.drew _,by rw [hsz];exact Nat.le_refl _⟩⟩
 subst hm
 exact upd_same _ _ _
theorem tag_dead {h1:List HObj} {t b e:Nat} (hw:WR P B0 w0 G h1 w) (htg:G.tg t=some (b,e)) (hlive:Live h1[t]?):∀ t' e',G.tg t'=some (b,e')→¬ Live (h1.set t (.tag false))[t']? := by
 intro t' e' h2 hl
 have hlt:t<h1.length:=by
  rcases Nat.lt_or_ge t h1.length with h|h
  ·exact h
  ·rw [List.getElem?_eq_none h] at hlive;exact hlive.elim
 rw [getElem?_set' _ _ _ _ hlt] at hl
 split at hl
 ·exact hl
 ·rename_i hne
  exact hne (hw.tinj h2 htg hl hlive)
theorem ok_append (hw:WR P B0 w0 G st.heap w) (ht:VRL G w tm a.tmps.toList) {t e:TypeId} {c:Call} {x y:Operand} {mu:Bool} {i:TypeInfo} {z:List PV} {d g:Opd} (ho:o.op = .call c) (hc:c.callee = .builtin .append) (hat:c.argTypes=#[t,t]) (har:c.args=#[x,y])
  (hu:P.underlying t=some (.slice e)) (hi:P.info? e=some i) (hz:zeroT P e=some z) (hby:i.bytes≤1024) (hs1:1≤i.size) (hzl:z.length=i.size) (hd:opd x=some d) (hg:opd y=some g)
  (hs:stepOp E rec tm st (.append mu i.size d g)=some (.val v st')):Yields P B0 w0 G st w v st' (OpRun P a o w):=by
 have hx:=opd_ok ht hd
 have hy:=opd_ok ht hg
 obtain ⟨zv,hzv,hzc⟩:=zeroT_info hz hi
 have hzs:zv.cells.size=i.size:=by have:=cells0_length hzc;simp at this;omega
 have zero:∀ {xp:PV} {b2:Option Addr} {c2:Nat},a.eval y = .slice b2 0 c2→d.ev tm=xp→(match xp with | .nilslice=>some (OpR.val .nilslice st) | .slice o n cs=>some (.val (.slice o n cs) st) | .hslice t s n=>some (.val (.hslice t s n) st)|_=>none)=some (.val v st') →
   Yields P B0 w0 G st w v st' (OpRun P a o w):=by
  intro xp b2 c2 h1 h2 h3
  rw [h2] at hx
  have fin:∀ {base:Option Addr} {n cap:Nat},a.eval x = .slice base n cap→n≤cap→VR G w v (.slice base n cap)→st'=st→Yields P B0 w0 G st w v st' (OpRun P a o w):=by
   intro base n cap h4 h5 h6 h7
   subst h7
   exact .pure hw (app_run ho hc hat har (by rw [h1,h4];exact run_append_zero t o.type e i hu hi base b2 n cap c2 h5)) h6
  split at h3
  ·cases h3
   have h0:=hx
   simp only [VR] at hx
   rw [hx] at h0
   exact fin hx (Nat.le_refl _) h0 rfl
  ·cases h3
   have h0:=hx
   simp only [VR] at hx
   rcases hx with ⟨b,off,cap,h4,h5,_⟩|⟨_,rfl,_,x0,h4⟩
   rotate_left
   ·rw [h4] at h0
    exact fin h4 (Nat.le_refl _) h0 rfl
   rw [h4] at h0
   exact fin h4 h5 h0 rfl
  ·cases h3
   have h0:=hx
   simp only [VR] at hx
   obtain ⟨b,e',cap,_,h4,h5,_⟩:=hx
   rw [h4] at h0
   exact fin h4 h5 h0 rfl
  ·cases h3
 simp only [stepOp] at hs
 split at hs
 ·rename_i hev
  rw [hev] at hy
  simp only [VR] at hy
  unfold doAppend at hs
  rw [if_pos ⟨by simp,by simp⟩,if_pos rfl] at hs
  exact zero hy rfl hs
 ·rename_i oo m ys hev
  rw [hev] at hy
  simp only [VR] at hy
  rcases hy with ⟨b2,off2,c2,hy1,hy2,hy3,_,hy4⟩|⟨_,rfl,rfl,x0,hy1⟩
  rotate_left
  ·unfold doAppend at hs
   rw [if_pos ⟨by simp,by simp⟩,if_pos rfl] at hs
   exact zero hy1 rfl hs
  unfold doAppend at hs
  split at hs
  ·rename_i hcond
   obtain ⟨hyl,hcell⟩:=hcond
   split at hs
   ·rename_i hm
    subst hm
    exact zero hy1 rfl hs
   ·rename_i hm
    obtain ⟨news,hn1,hn2⟩:=hy4.vals
    have hnl:news.length=m*i.size:=by rw [hn1.length,hyl]
    have hone:=oneCells_of hn1 hcell
    have hmax:maxList=1000000:=rfl
    split at hs
    · -- onto nil
     rename_i hxe
     rw [hxe] at hx
     simp only [VR] at hx
     split at hs
     ·rename_i hle
      have hbb:m*i.bytes≤281474976710656:=by
       have:m*i.bytes≤1000000*1024:=Nat.mul_le_mul (by omega) hby
       omega
      have hrun:=run_append_nil (P:=P) w t o.type e i zv hu hi hzv ⟨b2,off2,none⟩ m c2 news hnl hn2 (by omega) (by omega) hbb
      have hrun':=app_run (P:=P) (a:=a) ho hc hat har (by rw [hx,hy1];exact hrun)
      have hge:=grownCap_ge w m 0 e
      split at hs
      ·rename_i hmu
       subst hmu
       cases hs
       obtain ⟨G',g1,g2,g3,_,_,g6⟩:=new_row (e:=e) (lo':=st.lo) true hw hn1 hnl hzs hge
       refine ⟨G',_,g1,g2,Nat.le_refl _,.inl ⟨_,hrun',?_⟩⟩
       simp only [VR]
       exact ⟨_,_,_,g3,rfl,hge,g6⟩
      ·rename_i hmu
       cases hs
       have hmu':mu=false:=by simpa using hmu
       obtain ⟨G',g1,g2,g3,g4,g5,g6⟩:=new_row (e:=e) (lo':=st.lo) false hw hn1.share hnl hzs hge
       refine ⟨G',_,g1,g2,Nat.le_refl _,.inl ⟨_,hrun',?_⟩⟩
       simp only [VR]
       exact .inl ⟨_,0,_,rfl,hge,fun _=>⟨_,g4 rfl,by simp⟩,OwnR.of g3 g6,g5⟩
     ·cases hs
    · -- onto a slice of the run's own
     rename_i tt sz' n cs hxe
     split at hs
     ·rename_i hc3
      obtain ⟨hc3,hc4,hc5⟩:=hc3
      split at hs
      ·rename_i htag
       cases hs
       subst hc3
       rw [hxe] at hx
       simp only [VR] at hx
       rcases hx with ⟨b,off,cap,x1,x2,x3,⟨⟨xb,xe⟩,x5,x6⟩,x7⟩|⟨e0,_⟩
       rotate_left
       ·cases e0
       obtain ⟨t1,t2,t3⟩:=hw.tag x5
       rw [htag] at t3
       obtain ⟨k1,arr,T,fr,k2,k3⟩:=t3
       have htl:tt<st.heap.length:=(List.getElem?_eq_some_iff.1 htag).1
       have hbe:G.be tt=none:=by
        cases hh:G.be tt with
        | none=>rfl
        | some b' =>
         obtain ⟨_,_,_,_,oo,h4,h5⟩:=hw.obj hh
         rw [htag] at h4;cases h4;exact h5.elim
       obtain ⟨c1,c2'⟩:=close_tag hw htl hbe
       have hlen1:(st.heap.set tt (.tag false)).length=st.heap.length:=by simp
       obtain ⟨ols,o1,o2⟩:=x7.vals
       have hol:ols.length=n*i.size:=by rw [o1.length,hc4]
       have hlo:min st.lo tt≤tt:=Nat.min_le_right _ _
       by_cases hroom:n+m≤cap
       · -- there is room
        obtain ⟨hxx,x8⟩:=x6.resolve_left (by omega)
        simp only [Prod.mk.injEq] at hxx
        obtain ⟨rfl,rfl⟩:=hxx
        obtain ⟨arr2,T2,fr2,r1,r2⟩:=x8
        rw [k2] at r1;cases r1
        have hnm:n*i.size+m*i.size≤cap*i.size:=by rw [← Nat.add_mul];exact Nat.mul_le_mul_right _ hroom
        have hfit:off+n*i.size+news.length≤arr.size:=by omega
        have hst:=run_storeCells_th (P:=P) xb (off+n*i.size) T fr news 0 arr w k2 k3 (by simpa using hfit) hone
        simp only [Nat.add_zero] at hst
        have hf:=run_firstCells_some (P:=P) w i.size m ⟨b2,off2,none⟩ m c2 news hnl hn2
        have hrun:(Builtin.append_ #[t,t] o.type #[.slice (some ⟨xb,off,none⟩) n cap,.slice (some ⟨b2,off2,none⟩) m c2]).run P w = .ok (.slice (some ⟨xb,off,none⟩) (n+m) cap) (w.putObj xb (Obj.cells (arr.toList.take (off+n*i.size)++news++arr.toList.drop (off+n*i.size+news.length)).toArray T fr)):=by
         simp [Builtin.append_,run_underlying hu,sizeOf,typeInfo,hi,Builtin.lenOf,hroom,hf,Addr.add_lit,hst]
        have hrun':=app_run (P:=P) (a:=a) ho hc hat har (by rw [x1,hy1];exact hrun)
        have hasz:(arr.toList.take (off+n*i.size)++news++arr.toList.drop (off+n*i.size+news.length)).toArray.size=arr.size:=by
         simp only [List.size_toArray,List.length_append,List.length_take,List.length_drop,Array.length_toList];omega
        obtain ⟨g1,g2⟩:=grow_row c1 false x5 (tag_dead hw x5 (by rw [htag];trivial)) (by simpa using k1) (List.replicate off undef++(cs++ys.map PV.share)) arr _ T fr k2 k3 hasz (by simp;omega) (by simp)
         (fun _ j hj=>by
          rw [List.getElem?_toArray,List.append_assoc,List.getElem?_append_left (by simp;omega),List.getElem?_take,if_pos (by omega)]
          simp)
         (fun _ _ _ _ h=>by cases h)
        rw [hlen1] at g1 g2
        have hext:=(c2' (min st.lo tt) hlo).trans (g2 (min st.lo tt))
        refine ⟨_,_,g1,hext,Nat.min_le_left _ _,.inl ⟨_,hrun',?_⟩⟩
        simp only [VR]
        have hplt:xb<w.heap.size:=t2
        have hvr:VRL G w (cs++ys.map PV.share) (ols++news):=o1.append hn1.share
        have hll:(List.replicate off undef++(cs++ys.map PV.share)).length=off+(cs++ys.map PV.share).length:=by simp
        refine .inl ⟨xb,off,cap,rfl,hroom,fun _=>⟨off+(cs++ys.map PV.share).length,by rw [← hll];simpa using upd_same _ _ _,Nat.le_refl _⟩,⟨_,by simpa using upd_same _ _ _,.inr ⟨by rw [← hll];simp,⟨_,T,fr,heap_put_same hplt,by rw [hasz];exact r2⟩⟩⟩,?_⟩
        refine VRC.of_row (heap_put_same hplt) (hvr.mono hext.pres) (fun j u hj=>?_)
        rw [List.getElem?_toArray]
        by_cases hjl:j<n*i.size
        ·rw [List.getElem?_append_left (by omega)] at hj
         rw [List.append_assoc,List.getElem?_append_left (by simp;omega),List.getElem?_take,if_pos (by omega)]
         have:=o2 j u hj
         rw [Addr.add_lit,cell_row k2] at this
         simpa using this
        ·rw [List.getElem?_append_right (by omega)] at hj
         have hj2:=(List.getElem?_eq_some_iff.1 hj).1
         rw [List.getElem?_append_left (by simp;omega),List.getElem?_append_right (by simp;omega)]
         rw [← hj]
         congr 1
         simp only [List.length_take,Array.length_toList]
         omega
       · -- a new row
        have hbb:(n+m)*i.bytes≤140737488355328:=by
         have:(n+m)*i.bytes≤1000000*1024:=Nat.mul_le_mul (by omega) hby
         omega
        have hrun:=run_append_grow (P:=P) w t o.type e i zv hu hi hzv ⟨b,off,none⟩ n cap ols hol o2 ⟨b2,off2,none⟩ m c2 news hnl hn2 (by omega) (by omega) (growslice_fits (by omega) hbb)
        have hrun':=app_run (P:=P) (a:=a) ho hc hat har (by rw [x1,hy1];exact hrun)
        have hge:=grownCap_ge w (n+m) cap e
        have hvr:VRL G w (cs++ys.map PV.share) (ols++news):=o1.append hn1.share
        obtain ⟨G',g1,g2,g3,g4,g5,g6⟩:=new_row (e:=e) (lo':=min st.lo tt) false c1 hvr (by rw [List.length_append,hol,hnl,Nat.add_mul]) hzs hge
        have e1:(ols.toArray++news.toArray)=(ols++news).toArray:=by simp
        rw [e1] at hrun'
        rw [hlen1] at g3
        refine ⟨G',_,g1,(c2' (min st.lo tt) hlo).trans g2,Nat.min_le_left _ _,.inl ⟨_,hrun',?_⟩⟩
        simp only [VR]
        exact .inl ⟨_,0,_,rfl,hge,fun _=>⟨_,g4 rfl,by simp⟩,OwnR.of g3 g6,g5⟩
      ·cases hs
     ·cases hs
    · -- onto a slice that may be written
     rename_i tt sz' n hxe
     split at hs
     ·rename_i cs htag
      split at hs
      ·rename_i hc3
       obtain ⟨hc3,hc4,hc5⟩:=hc3
       cases hs
       subst hc3
       rw [hxe] at hx
       simp only [VR] at hx
       obtain ⟨b,eb,cap,x5,x1,x2,x6⟩:=hx
       obtain ⟨k1,k2e,⟨arr,T,fr,k2,k4,k3⟩,x7⟩:=hw.arr x5 htag
       obtain ⟨t1,t2,_⟩:=hw.tag x5
       have htl:tt<st.heap.length:=(List.getElem?_eq_some_iff.1 htag).1
       have hbe:G.be tt=none:=by
        cases hh:G.be tt with
        | none=>rfl
        | some b' =>
         obtain ⟨_,_,_,_,oo,h4,h5⟩:=hw.obj hh
         rw [htag] at h4;cases h4;exact h5.elim
       obtain ⟨c1,c2'⟩:=close_tag hw htl hbe
       have hlen1:(st.heap.set tt (.tag false)).length=st.heap.length:=by simp
       obtain ⟨ols,o1,o2⟩:=x7.vals
       have hol:ols.length=n*i.size:=by rw [o1.length,hc4]
       have hlo:min st.lo tt≤tt:=Nat.min_le_right _ _
       by_cases hroom:n+m≤cap
       ·obtain ⟨arr2,T2,fr2,r1,r2⟩:=x6
        rw [k2] at r1;cases r1
        have hfit:n*i.size+news.length≤arr.size:=by rw [hnl,← Nat.add_mul];exact Nat.le_trans (Nat.mul_le_mul_right _ hroom) r2
        have hst:=run_storeCells_th (P:=P) b (n*i.size) T fr news 0 arr w k2 k3 (by simpa using hfit) hone
        simp only [Nat.add_zero] at hst
        have hf:=run_firstCells_some (P:=P) w i.size m ⟨b2,off2,none⟩ m c2 news hnl hn2
        have hrun:(Builtin.append_ #[t,t] o.type #[.slice (some ⟨b,0,none⟩) n cap,.slice (some ⟨b2,off2,none⟩) m c2]).run P w = .ok (.slice (some ⟨b,0,none⟩) (n+m) cap) (w.putObj b (Obj.cells (arr.toList.take (n*i.size)++news++arr.toList.drop (n*i.size+news.length)).toArray T fr)):=by
         simp [Builtin.append_,run_underlying hu,sizeOf,typeInfo,hi,Builtin.lenOf,hroom,hf,Addr.add_lit,hst]
        have hrun':=app_run (P:=P) (a:=a) ho hc hat har (by rw [x1,hy1];exact hrun)
        have hasz:(arr.toList.take (n*i.size)++news++arr.toList.drop (n*i.size+news.length)).toArray.size=arr.size:=by
         simp only [List.size_toArray,List.length_append,List.length_take,List.length_drop,Array.length_toList];omega
        have hvr:VRL G w (cs++ys) (ols++news):=o1.append hn1
        have hcells:∀ (j:Nat) (u:Value),(ols++news)[j]? = some u→(arr.toList.take (n*i.size)++news++arr.toList.drop (n*i.size+news.length)).toArray[0+j]? = some u:=by
         intro j u hj
         rw [Nat.zero_add,List.getElem?_toArray]
         by_cases hjl:j<n*i.size
         ·rw [List.getElem?_append_left (by omega)] at hj
          rw [List.append_assoc,List.getElem?_append_left (by simp;omega),List.getElem?_take,if_pos hjl]
          have:=o2 j u hj
          rw [Addr.add_lit,cell_row k2,Nat.zero_add] at this
          simpa using this
         ·rw [List.getElem?_append_right (by omega)] at hj
          have hj2:=(List.getElem?_eq_some_iff.1 hj).1
          rw [List.getElem?_append_left (by simp;omega),List.getElem?_append_right (by simp;omega)]
          rw [← hj]
          congr 1
          simp only [List.length_take,Array.length_toList]
          omega
        obtain ⟨g1,g2⟩:=grow_row c1 true x5 (tag_dead hw x5 (by rw [htag];trivial)) (by simpa using k1) (cs++ys) arr _ T fr k2 k3 hasz (by simp;omega) (by simp;omega) (fun h=>by cases h)
         (fun G' w' hp hh _=>VRC.of_row hh (hvr.mono hp) hcells)
        rw [hlen1] at g1 g2
        refine ⟨_,_,g1,(c2' (min st.lo tt) hlo).trans (g2 (min st.lo tt)),Nat.min_le_left _ _,.inl ⟨_,hrun',?_⟩⟩
        simp only [VR]
        exact ⟨b,_,cap,upd_same _ _ _,rfl,hroom,⟨_,T,fr,heap_put_same t2,by rw [hasz];exact r2⟩⟩
       ·have hbb:(n+m)*i.bytes≤140737488355328:=by
         have:(n+m)*i.bytes≤1000000*1024:=Nat.mul_le_mul (by omega) hby
         omega
        have hrun:=run_append_grow (P:=P) w t o.type e i zv hu hi hzv ⟨b,0,none⟩ n cap ols hol o2 ⟨b2,off2,none⟩ m c2 news hnl hn2 (by omega) (by omega) (growslice_fits (by omega) hbb)
        have hrun':=app_run (P:=P) (a:=a) ho hc hat har (by rw [x1,hy1];exact hrun)
        have hge:=grownCap_ge w (n+m) cap e
        have hvr:VRL G w (cs++ys) (ols++news):=o1.append hn1
        obtain ⟨G',g1,g2,g3,g4,g5,g6⟩:=new_row (e:=e) (lo':=min st.lo tt) true c1 hvr (by rw [List.length_append,hol,hnl,Nat.add_mul]) hzs hge
        have e1:(ols.toArray++news.toArray)=(ols++news).toArray:=by simp
        rw [e1] at hrun'
        rw [hlen1] at g3
        refine ⟨G',_,g1,(c2' (min st.lo tt) hlo).trans g2,Nat.min_le_left _ _,.inl ⟨_,hrun',?_⟩⟩
        simp only [VR]
        exact ⟨_,_,_,g3,rfl,hge,g6⟩
      ·cases hs
     ·cases hs
    ·cases hs
  ·cases hs
 ·cases hs
end
end Go.Den
end
section
namespace Go.Den
section
variable {P:Program} {B0:Nat} {w0:World} {G:Gh} {st:St} {w:World} {tm:List PV} {a:Act} {o:Oper} {E:Env} {rec:Rec} {v:PV} {st':St}
theorem ok_buildSliceA (hw:WR P B0 w0 G st.heap w) (ht:VRL G w tm a.tmps.toList) {t e:TypeId} {n s:Nat} {parts:Array (Nat×Operand)} {z:List PV} {ds:List (Nat×Nat×Opd)} (ho:o.op = .buildSlice t n parts)
  (hu:P.underlying t=some (.slice e)) (hs':sizeT P e=some s) (hz:zeroT P e=some z) (hd:partsC P t parts.toList=some ds) (hn:n*s≤10000) (h1:1≤s) (hzl:z.length=s)
  (hs:stepOp E rec tm st (.buildSliceA s n (repl z n) ds)=some (.val v st')):Yields P B0 w0 G st w v st' (OpRun P a o w):=by
 simp only [stepOp] at hs
 split at hs
 ·rename_i cs hf
  cases hs
  obtain ⟨u,z1,z2,_⟩:=zeroT_run hz w
  have hzr:VRL G w z u.cells.toList:=cells0_ok z2
  have hus:u.cells.size=s:=by have:=hzr.length;simp at this;omega
  have hmap:(parts.map fun (i,x)=>(i,a.eval x)).toList=parts.toList.map fun (i,x)=>(i,a.eval x):=by simp
  have hrep:=repl_ok hzr (by omega) n
  rw [hzl] at hrep
  obtain ⟨arr',h3,h4⟩:=fill_ok (P:=P) ht (t:=t) (fun i=>some (i*s,s)) (fun i x hx=>by
   unfold placeOf at hx
   simp only [hu] at hx
   obtain ⟨inf,h5,h6⟩:=Option.map_eq_some_iff.1 hx
   have:sizeT P e=some inf.size:=by unfold sizeT;rw [h5];rfl
   rw [hs'] at this;cases this
   rw [← h6]) hd hrep hf
  have hcl:=h4.length
  have hlen:arr'.size=cs.length:=by simpa using hcl
  have hlen2:cs.length=(repl z n).length:=by
   have:∀ {ds:List (Nat×Nat×Opd)} {cs cs':List PV},fillD tm cs ds=some cs'→cs'.length=cs.length:=by
    intro ds
    induction ds with
    | nil=>intro cs cs' h;simp only [fillD] at h;cases h;rfl
    | cons d ds ih =>
     intro cs cs' h
     obtain ⟨off,size,x⟩:=d
     simp only [fillD] at h
     split at h
     ·rename_i hc
      rw [ih h]
      simp [splice];omega
     ·cases h
   exact this hf
  obtain ⟨g1,g2,g3⟩:=alloc_row hw true cs arr' e (0,0) (by omega) (Thawed.zero _) (fun G' w' hp hh=>VRC.of_row hh (h4.mono hp) (fun j x hj=>by simpa using hj))
  refine ⟨_,_,g1,g2 _,Nat.le_refl _,.inl ⟨.slice (some ⟨w.heap.size,0,none⟩) n n,?_,?_⟩⟩
  ·refine OpRun.val (by unfold execOp;rw [ho]) ?_
   unfold Instr.buildSlice
   by_cases h0:n*s=0
   ·have hn0:n=0:=by
     rcases Nat.mul_eq_zero.1 h0 with h|h
     ·exact h
     ·omega
    subst hn0
    have hr0:Array.range 0=#[]:=rfl
    rw [Nat.zero_mul,hr0,Array.map_empty] at h3
    have h3':Instr.fill (fun i=>some (i*s,s)) #[] (parts.toList.map fun (i,x)=>(i,a.eval x))=some arr':=h3
    simp only [Sem.run_bind,run_underlying hu,Result.andThen_ok,sizeOf_run hs',Sem.run_ite,Nat.zero_mul,gt_iff_lt,if_neg (show ¬ (2 ^ 24<0) by omega),if_true,Sem.run_pure,hr0,hmap,Array.map_empty,h3',newRow,run_newObj,World.alloc_eq]
   ·have hbig:¬ (2 ^ 24<n*s):=by omega
    simp only [Sem.run_bind,run_underlying hu,Result.andThen_ok,sizeOf_run hs',Sem.run_ite,gt_iff_lt,if_neg hbig,if_neg h0,z1,Sem.run_pure,hmap,h3,newRow,run_newObj,World.alloc_eq]
  ·simp only [VR]
   refine ⟨w.heap.size,cs.length,n,upd_same _ _ _,rfl,Nat.le_refl _,?_⟩
   refine ⟨arr',e,(0,0),heap_alloc_new _ _,?_⟩
   rw [hlen,hlen2,repl_length,hzl]
   exact Nat.le_refl _
 ·cases hs
theorem ok_sliceA (hw:WR P B0 w0 G st.heap w) (ht:VRL G w tm a.tmps.toList) {t e:TypeId} {x y:Operand} {n s:Nat} {d g:Opd} (ho:o.op = .slice t x none (some y) none) (hu:P.underlying t=some (.array n e)) (hsz:sizeT P e=some s) (hd:opd x=some d) (hg:opd y=some g)
  (hs:stepOp E rec tm st (.sliceA n s d g)=some (.val v st')):Yields P B0 w0 G st w v st' (OpRun P a o w):=by
 have hx:=opd_ok ht hd
 have hy:=opd_ok ht hg
 simp only [stepOp] at hs
 split at hs
 ·rename_i l k h e1 e2
  rw [e1] at hx
  rw [e2] at hy
  simp only [VR] at hx
  obtain ⟨b,hb1,hb2⟩:=hx
  split at hs
  ·rename_i hc
   obtain ⟨c1,c2⟩:=hc
   cases hs
   have hbd:(Instr.sliceBounds false n n none (some (a.eval y)) none).run P w = .ok (0,h.toNat,n) w:=by
    unfold Instr.sliceBounds Instr.sliceBound
    simp [hy.int_inv,asIntOf_run,c1,c2]
   refine .pure hw (v := .slice (some ⟨b,0,none⟩) h.toNat n) (OpRun.val (by unfold execOp;rw [ho]) ?_) ?_
   ·unfold Instr.sliceAt
    simp only [Sem.run_bind,run_underlying hu,Result.andThen_ok,hb2,sureAddr_run,Option.map_none,Option.map_some,hbd,sizeOf_run hsz,Sem.run_pure,Nat.zero_mul,Nat.sub_zero]
    simp [Addr.add]
   ·simp only [VR]
    exact ⟨b,n,hb1,rfl,by omega⟩
  ·cases hs
 ·cases hs
theorem checkKey_int {t:TypeId} {n:Int} (emp:Bool) (hu:P.underlying t=some (.int .i64)):(Instr.checkKey emp 10000 t (.int .i64 n)).run P w = .ok () w:=by
 rw [show (10000:Nat)=9999+1 from rfl]
 unfold Instr.checkKey
 simp [run_underlying hu]
theorem findNow_ok {n:Int}:∀ (es:List (PV×PV)) (ms:List MapEntry) (i:Nat) (r:Option Nat),EsR G w es ms→findKeyI n es i=some r →
   ∃ q,Instr.findNow (.int .i64) (.int .i64 n) ms i=some q∧(match r with|some j=>∃ x,q=some (j,x)∧i≤j∧∃ e,es[j - i]? = some e∧VR G w e.2 x|none=>q=none)
 | [],ms,i,r,hr,h=>by
  simp only [findKeyI] at h;cases h
  have:ms=[]:=hr
  subst this
  exact ⟨none,rfl,rfl⟩
 | (k',v')::es,ms,i,r,hr,h=>by
  obtain ⟨e,ms',rfl,h1,h2,h3⟩:=hr
  cases k' with
  | int t m =>
   cases t with
   | i64 =>
    simp only [findKeyI] at h
    have h1':=h1.int_inv
    split at h
    ·rename_i hm
     cases h
     subst hm
     refine ⟨some (i,e.val),?_,e.val,rfl,Nat.le_refl _,(PV.int .i64 m,v'),by simp,h2⟩
     simp [Instr.findNow,Instr.sameNow,h1']
    ·rename_i hm
     obtain ⟨q,h4,h5⟩:=findNow_ok es ms' (i+1) r h3 h
     refine ⟨q,?_,?_⟩
     ·have:(n==m)=false:=by simp;exact fun e=>hm e.symm
      simp [Instr.findNow,Instr.sameNow,h1',this,h4]
     ·cases r with
      | none=>exact h5
      | some j =>
       obtain ⟨x,h6,h7,e',h8,h9⟩:=h5
       refine ⟨x,h6,by omega,e',?_,h9⟩
       rw [show j - i=j - (i+1)+1 from by omega]
       simpa using h8
   | _=>simp only [findKeyI] at h;cases h
  | _=>simp only [findKeyI] at h;cases h
theorem findKey_int {t:TypeId} {n:Int} {ms:List MapEntry} {q:Option (Nat×Value)} (hu:P.underlying t=some (.int .i64)) (h:Instr.findNow (.int .i64) (.int .i64 n) ms 0=some q):(Instr.findKey t (.int .i64 n) ms).run P w = .ok q w:=by
 unfold Instr.findKey
 simp [run_underlying hu,h]
theorem ok_lookupI (hw:WR P B0 w0 G st.heap w) (ht:VRL G w tm a.tmps.toList) {t kt e:TypeId} {m k:Operand} {ok:Bool} {zv:Value} {z:PV} {d g:Opd} (ho:o.op = .lookup t m k ok) (hut:P.underlying t=some (.map kt e)) (hK:P.underlying kt=some (.int .i64))
  (hze:(P.info? e).bind (·.zero)=some zv) (hz:const0 zv=some z) (hd:opd m=some d) (hg:opd k=some g)
  (hs:stepOp E rec tm st (.lookupI z d g ok)=some (.val v st')):Yields P B0 w0 G st w v st' (OpRun P a o w):=by
 have hm:=opd_ok ht hd
 have hk:=opd_ok ht hg
 simp only [stepOp] at hs
 split at hs
 ·rename_i l n h1 h2
  rw [h1] at hm
  rw [h2] at hk
  have hk1:=hk.int_inv
  simp only [VR] at hm
  obtain ⟨b,hb1,hb2⟩:=hm
  split at hs
  ·rename_i es hh
   obtain ⟨_,hbl,_,_,ob,hob,hor⟩:=hw.obj hb1
   rw [hh] at hob;cases hob
   obtain ⟨ents,clock,hhp,hes⟩:=hor
   have hget:(getObj b).run P w = .ok (.map ents clock) w:=by simp [getObj,Sem.run,hhp]
   have hck:∀ emp,(Instr.checkKey emp 10000 kt (.int .i64 n)).run P w = .ok () w:=fun emp=>checkKey_int emp hK
   obtain ⟨i,hi1,hi2⟩:=Option.bind_eq_some_iff.1 hze
   have hzr:(zeroValue e).run P w = .ok zv w:=by unfold zeroValue;simp [run_typeInfo w hi1,hi2]
   split at hs
   ·rename_i j hf
    obtain ⟨en,he1,he2⟩:=Option.map_eq_some_iff.1 hs
    cases he2
    obtain ⟨q,hq1,x,hq2,_,e',he3,hx⟩:=findNow_ok es ents.toList 0 (some j) hes hf
    simp only [Nat.sub_zero] at he3
    rw [he1] at he3;cases he3
    subst hq2
    refine .pure hw (v:=if ok then .tuple #[x,.bool true] else x) (OpRun.val (by unfold execOp;rw [ho]) ?_) ?_
    ·unfold Instr.lookup
     simp only [Sem.run_bind,run_underlying hut,Result.andThen_ok,hb2,hget,hck,hk1,findKey_int hK hq1,Sem.run_pure]
    ·cases ok
     ·exact hx
     ·simp only [if_true,VR]
      exact ⟨_,rfl,VRL.cons hx (VRL.cons VR.bool_mk (VRL.nil_iff.2 rfl))⟩
   ·rename_i hf
    cases hs
    obtain ⟨q,hq1,hq2⟩:=findNow_ok es ents.toList 0 none hes hf
    simp only at hq2
    subst hq2
    refine .pure hw (v:=if ok then .tuple #[zv,.bool false] else zv) (OpRun.val (by unfold execOp;rw [ho]) ?_) ?_
    ·unfold Instr.lookup
     simp only [Sem.run_bind,run_underlying hut,Result.andThen_ok,hb2,hget,hck,hk1,findKey_int hK hq1,Sem.run_pure,hzr]
    ·cases ok
     ·exact const0_ok hz
     ·simp only [if_true,VR]
      exact ⟨_,rfl,VRL.cons (const0_ok hz) (VRL.cons VR.bool_mk (VRL.nil_iff.2 rfl))⟩
   ·cases hs
  ·cases hs
 ·cases hs
theorem ok_updateI (hw:WR P B0 w0 G st.heap w) (ht:VRL G w tm a.tmps.toList) {t kt e:TypeId} {m k x:Operand} {d g f:Opd} (ho:o.op = .mapUpdate t m k x) (hut:P.underlying t=some (.map kt e)) (hK:P.underlying kt=some (.int .i64))
  (hd:opd m=some d) (hg:opd k=some g) (hf0:opd x=some f)
  (hs:stepOp E rec tm st (.updateI d g f)=some (.val v st')):Yields P B0 w0 G st w v st' (OpRun P a o w):=by
 have hm:=opd_ok ht hd
 have hk:=opd_ok ht hg
 have hxv:=opd_ok ht hf0
 simp only [stepOp] at hs
 split at hs
 ·rename_i l n h1 h2
  rw [h1] at hm
  rw [h2] at hk
  have hk1:=hk.int_inv
  simp only [VR] at hm
  obtain ⟨b,hb1,hb2⟩:=hm
  split at hs
  ·rename_i es hh
   obtain ⟨_,hbl,_,_,ob,hob,hor⟩:=hw.obj hb1
   rw [hh] at hob;cases hob
   obtain ⟨ents,clock,hhp,hes⟩:=hor
   have hget:(getObj b).run P w = .ok (.map ents clock) w:=by simp [getObj,Sem.run,hhp]
   have hck:(Instr.checkKey false 10000 kt (.int .i64 n)).run P w = .ok () w:=checkKey_int false hK
   split at hs
   ·rename_i hf
    cases hs
    obtain ⟨q,hq1,hq2⟩:=findNow_ok es ents.toList 0 none hes hf
    simp only at hq2
    subst hq2
    obtain ⟨g1,g2⟩:=set_obj hw hb1 (.map (es++[(.int .i64 n,f.ev tm)])) (.map (ents.push { key := .int .i64 n,val:=a.eval x,born:=clock }) (clock+1)) (fun _ _ _ hh=>by rw [hhp] at hh;cases hh) (fun _ hh=>by rw [hhp] at hh;cases hh)
     (fun w' hp hh=>⟨_,_,hh,by
      rw [Array.toList_push]
      exact EsR.snoc (hes.mono hp) (by simp only [VR]) (hxv.mono hp)⟩)
    have hset:(setObj b (.map (ents.push { key := .int .i64 n,val:=a.eval x,born:=clock }) (clock+1))).run P w = .ok () (w.putObj b (.map (ents.push { key := .int .i64 n,val:=a.eval x,born:=clock }) (clock+1))):=by
     simp [setObj,Sem.run,hhp,World.putObj]
    refine ⟨G,_,g1,g2 _ (Nat.min_le_right _ _),Nat.min_le_left _ _,.inr ⟨?_,rfl⟩⟩
    have hrun:(Instr.mapUpdate t (a.eval m) (a.eval k) (a.eval x)).run P w = .ok () (w.putObj b (.map (ents.push { key := .int .i64 n,val:=a.eval x,born:=clock }) (clock+1))):=by
     unfold Instr.mapUpdate
     simp only [Sem.run_bind,run_underlying hut,Result.andThen_ok,hb2,hget,hck,hk1,findKey_int hK hq1,hset]
    exact OpRun.unit (by unfold execOp;rw [ho]) hrun
   ·cases hs
  ·cases hs
 ·cases hs
end
end Go.Den
end

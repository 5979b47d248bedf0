/- Part of the proofs of laws of the package version. Texts: DenOpsC, DenOpsD, DenOpsE. -/
import Derived.Test.YthnfeimjhibcaaaTBAc
set_option linter.unusedSimpArgs false
set_option linter.unusedVariables false
section
namespace Go.Den
section
variable {P:Program} {B0:Nat} {w0:World} {G:Gh} {st:St} {w:World} {tm:List PV} {a:Act} {o:Oper} {E:Env} {rec:Rec} {v:PV} {st':St}
theorem VRL.of_get:∀ {ps:List PV} {vs:List Value},vs.length=ps.length→(∀ (i:Nat) (p:PV),ps[i]? = some p→∃ u,vs[i]? = some u∧VR G w p u)→VRL G w ps vs
 | [],vs,h,_=>by simp at h;subst h;exact VRL.nil_iff.2 rfl
 | c::cs,[],h,_=>by simp at h
 | c::cs,u::vs,h,hg=>by
  obtain ⟨u',h1,h2⟩:=hg 0 c rfl
  simp at h1;subst h1
  refine VRL.cons h2 (VRL.of_get (by simpa using h) (fun i p hp=>?_))
  simpa using hg (i+1) p (by simpa using hp)
theorem repl_length (z:List PV):∀ n,(repl z n).length=n*z.length
 | 0=>by simp [repl]
 | n+1=>by simp [repl,repl_length z n,Nat.add_mul,Nat.add_comm]
theorem repl_get (z:List PV) (hz:0<z.length):∀ (n i:Nat),i<n*z.length→(repl z n)[i]? = z[i % z.length]?
 | 0,i,h=>by simp at h
 | n+1,i,h=>by
  simp only [repl]
  by_cases hi:i<z.length
  ·rw [List.getElem?_append_left hi,Nat.mod_eq_of_lt hi]
  ·rw [List.getElem?_append_right (by omega),repl_get z hz n _ (by rw [Nat.add_mul] at h;omega)]
   rw [← Nat.mod_eq_sub_mod (by omega)]
theorem repl_ok {z:List PV} {zs:Array Value} (h:VRL G w z zs.toList) (hz:0<z.length) (n:Nat):VRL G w (repl z n) ((Array.range (n*z.length)).map fun i=>zs[i % zs.size]!).toList:=by
 have hl:=h.length
 simp at hl
 refine VRL.of_get (by simp [repl_length]) (fun i p hp=>?_)
 have hi:i<n*z.length:=by rw [← repl_length z n];exact (List.getElem?_eq_some_iff.1 hp).1
 rw [repl_get z hz n i hi] at hp
 obtain ⟨u,h1,h2⟩:=h.get hp
 refine ⟨u,?_,h2⟩
 have h1':zs[i % z.length]? = some u:=by simpa using h1
 simp only [Array.toList_map,Array.toList_range,List.getElem?_map,List.getElem?_range hi,Option.map_some,hl]
 rw [Array.getElem!_eq_getD,Array.getD_eq_getD_getElem?,h1']
 rfl
theorem ok_buildSlice (hw:WR P B0 w0 G st.heap w) (ht:VRL G w tm a.tmps.toList) {t e:TypeId} {n s:Nat} {parts:Array (Nat×Operand)} {z:List PV} {ds:List (Nat×Nat×Opd)} (ho:o.op = .buildSlice t n parts)
  (hu:P.underlying t=some (.slice e)) (hs':sizeT P e=some s) (hz:zeroT P e=some z) (hd:partsC P t parts.toList=some ds) (hn:n*s≤10000) (h1:1≤s) (hzl:z.length=s)
  (hs:stepOp E rec tm st (.buildSlice s n (repl z n) ds)=some (.val v st')):Yields P B0 w0 G st w v st' (OpRun P a o w):=by
 simp only [stepOp] at hs
 split at hs
 ·rename_i cs hf
  cases hs
  obtain ⟨u,z1,z2,_⟩:=zeroT_run hz w
  have hzr:VRL G w z u.cells.toList:=cells0_ok z2
  have hus:u.cells.size=s:=by have:=hzr.length;simp at this;omega
  have hmap:(parts.map fun (i,x)=>(i,a.eval x)).toList=parts.toList.map fun (i,x)=>(i,a.eval x):=by simp
  have hrep:=repl_ok hzr (by omega) n
  rw [hzl] at hrep
  obtain ⟨arr',h3,h4⟩:=fill_ok (P:=P) ht (t:=t) (fun i=>some (i*s,s)) (fun i x hx=>by
   unfold placeOf at hx
   simp only [hu] at hx
   obtain ⟨inf,h5,h6⟩:=Option.map_eq_some_iff.1 hx
   have:sizeT P e=some inf.size:=by unfold sizeT;rw [h5];rfl
   rw [hs'] at this;cases this
   rw [← h6]) hd hrep hf
  have hcl:=h4.length
  have hlen:arr'.size=cs.length:=by simpa using hcl
  have hlen2:cs.length=(repl z n).length:=by
   have:∀ {ds:List (Nat×Nat×Opd)} {cs cs':List PV},fillD tm cs ds=some cs'→cs'.length=cs.length:=by
    intro ds
    induction ds with
    | nil=>intro cs cs' h;simp only [fillD] at h;cases h;rfl
    | cons d ds ih =>
     intro cs cs' h
     obtain ⟨off,size,x⟩:=d
     simp only [fillD] at h
     split at h
     ·rename_i hc
      rw [ih h]
      simp [splice];omega
     ·cases h
   exact this hf
  obtain ⟨g1,g2,g3⟩:=alloc_row hw false (cs.map PV.share) arr' e (0,0) (by simp;omega) (Thawed.zero _) (fun G' w' hp hh=>VRC.share (VRC.of_row hh (h4.mono hp) (fun j x hj=>by simpa using hj)))
  refine ⟨_,_,g1,g2 _,Nat.le_refl _,.inl ⟨.slice (some ⟨w.heap.size,0,none⟩) n n,?_,?_⟩⟩
  ·refine OpRun.val (by unfold execOp;rw [ho]) ?_
   unfold Instr.buildSlice
   by_cases h0:n*s=0
   ·have hn0:n=0:=by
     rcases Nat.mul_eq_zero.1 h0 with h|h
     ·exact h
     ·omega
    subst hn0
    have hr0:Array.range 0=#[]:=rfl
    rw [Nat.zero_mul,hr0,Array.map_empty] at h3
    have h3':Instr.fill (fun i=>some (i*s,s)) #[] (parts.toList.map fun (i,x)=>(i,a.eval x))=some arr':=h3
    simp only [Sem.run_bind,run_underlying hu,Result.andThen_ok,sizeOf_run hs',Sem.run_ite,Nat.zero_mul,gt_iff_lt,if_neg (show ¬ (2 ^ 24<0) by omega),if_true,Sem.run_pure,hr0,hmap,Array.map_empty,h3',newRow,run_newObj,World.alloc_eq]
   ·have hbig:¬ (2 ^ 24<n*s):=by omega
    simp only [Sem.run_bind,run_underlying hu,Result.andThen_ok,sizeOf_run hs',Sem.run_ite,gt_iff_lt,if_neg hbig,if_neg h0,z1,Sem.run_pure,hmap,h3,newRow,run_newObj,World.alloc_eq]
  ·simp only [VR]
   refine .inl ⟨w.heap.size,0,n,rfl,Nat.le_refl _,fun _=>⟨_,upd_same _ _ _,by simp⟩,OwnR.of (by simpa using upd_same _ _ _) ?_,by simpa using g3⟩
   refine ⟨arr',e,(0,0),heap_alloc_new _ _,?_⟩
   rw [hlen,hlen2,repl_length,hzl]
   exact Nat.le_refl _
 ·cases hs
theorem sureAddr_run {ad:Addr} (w:World):(Instr.sureAddr (.pointer (some ad))).run P w = .ok ad w:=rfl
theorem WR.row (hw:WR P B0 w0 G st.heap w) {l b:Nat} {cs:List PV} (hb:G.be l=some b) (hh:st.heap[l]? = some (.var cs)) :
  ∃ (arr:Array Value) (T:TypeId),w.heap[b]? = some (Obj.cells arr T (0,0))∧VRL G w cs arr.toList:=by
 obtain ⟨_,_,_,_,o,h1,h2⟩:=hw.obj hb
 rw [hh] at h1;cases h1
 exact h2
theorem WR.arr (hw:WR P B0 w0 G st.heap w) {t b e:Nat} {cs:List PV} (hb:G.tg t=some (b,e)) (hh:st.heap[t]? = some (.arr cs)) :
  G.cm b=none∧e=cs.length∧(∃ (arr:Array Value) (T:TypeId) (fr:Nat×Nat),w.heap[b]? = some (Obj.cells arr T fr)∧e≤arr.size∧Thawed fr arr.size)∧VRC G w cs b 0:=by
 have:=(hw.tag hb).2.2
 rw [hh] at this
 exact this
theorem ok_load (hw:WR P B0 w0 G st.heap w) (ht:VRL G w tm a.tmps.toList) {t:TypeId} {x:Operand} {s:Nat} {d:Opd} (ho:o.op = .load t x) (hok:okT P t=true) (hsz:sizeT P t=some s) (hd:opd x=some d)
  (hs:stepOp E rec tm st (.load (aggT P t) s d)=some (.val v st')):Yields P B0 w0 G st w v st' (OpRun P a o w):=by
 have hx:=opd_ok ht hd
 have fin:∀ {b off:Nat} {cs:List PV} {p:PV},a.eval x = .pointer (some ⟨b,off,none⟩)→VRC G w cs b off→rdPart (aggT P t) s cs=some p→v=p→st'=st→Yields P B0 w0 G st w v st' (OpRun P a o w):=by
  intro b off cs p h1 h2 h3 h4 h5
  subst h4;subst h5
  obtain ⟨u,h6,h7⟩:=loadVar_ok hok hsz h2 h3
  refine .pure hw (OpRun.val (by unfold execOp;rw [ho]) ?_) h7
  unfold Instr.loadAt
  simp [h1,sureAddr_run,h6]
 simp only [stepOp] at hs
 split at hs
 ·rename_i l off hev
  rw [hev] at hx
  simp only [VR] at hx
  obtain ⟨b,h1,h2⟩:=hx
  split at hs
  ·rename_i cs hh
   split at hs
   ·rename_i hle
    obtain ⟨p,h3,h4⟩:=Option.map_eq_some_iff.1 hs
    cases h4
    obtain ⟨arr,T,h5,h6⟩:=hw.row h1 hh
    refine fin h2 (cs:=cs.drop off) ?_ h3 rfl rfl
    exact VRC.of_row h5 (h6.drop off) (fun j u hj=>by simpa using hj)
   ·cases hs
  ·cases hs
 ·rename_i cs hev
  rw [hev] at hx
  simp only [VR] at hx
  obtain ⟨b,off,h1,_,h2⟩:=hx
  obtain ⟨p,h3,h4⟩:=Option.map_eq_some_iff.1 hs
  cases h4
  exact fin h1 h2 h3 rfl rfl
 ·rename_i l off hev
  rw [hev] at hx
  simp only [VR] at hx
  obtain ⟨b,e,h1,h2⟩:=hx
  split at hs
  ·rename_i cs hh
   split at hs
   ·rename_i hle
    obtain ⟨p,h3,h4⟩:=Option.map_eq_some_iff.1 hs
    cases h4
    obtain ⟨_,_,_,h6⟩:=hw.arr h1 hh
    have:=h6.drop off hle
    rw [Nat.zero_add] at this
    exact fin h2 this h3 rfl rfl
   ·cases hs
  ·cases hs
 ·cases hs
theorem setRow_eq_put {w:World} {g:Nat} {old cs:Array Value} {t:TypeId} {fr:Nat×Nat} (hg:w.heap[g]? = some (Obj.cells old t fr)):w.setRow g cs=w.putObj g (Obj.cells cs t fr):=by
 have hlt:=lt_of_heap hg
 have hv:w.heap[g]=Obj.cells old t fr:=(Array.getElem?_eq_some_iff.1 hg).2
 unfold World.setRow World.putObj
 congr 1
 apply Array.ext
 ·simp
 ·intro i h1 h2
  have h3:i<w.heap.size:=by simpa using h2
  simp only [Array.getElem_modify,Array.getElem_setIfInBounds h3]
  by_cases h:g=i
  ·subst h;simp [hv]
  ·simp [h]
theorem frozen_thawed {w:World} {g i:Nat} {old:Array Value} {t:TypeId} {fr:Nat×Nat} (hg:w.heap[g]? = some (Obj.cells old t fr)) (hf:Thawed fr old.size) (hi:i<old.size):w.frozen? ⟨g,i,none⟩=false:=by
 unfold World.frozen?
 simp only [hg]
 exact hf i hi
theorem run_storeCells_th (g o:Nat) (t:TypeId) (fr:Nat×Nat):∀ (vs:List Value) (i:Nat) (cur:Array Value) (w:World),w.heap[g]? = some (Obj.cells cur t fr)→Thawed fr cur.size→o+i+vs.length≤cur.size→(∀ v∈vs,v.oneCell'=true) →
  (storeCells ⟨g,o,none⟩ vs i).run P w = .ok () (w.putObj g (Obj.cells (cur.toList.take (o+i)++vs++cur.toList.drop (o+i+vs.length)).toArray t fr))
 | [],i,cur,w,hg,_,_,_=>by
  simp only [storeCells,List.append_nil,List.length_nil,Nat.add_zero,List.take_append_drop,Array.toArray_toList]
  rw [← setRow_eq_put hg,setRow_self w g cur t fr hg]
  rfl
 | v::rest,i,cur,w,hg,hf,hl,h1=>by
  have hi:o+i<cur.size:=by simp at hl;omega
  have hcell:w.cell? ⟨g,o+i,none⟩=some cur[o+i]:=by rw [cell_row hg];simp [hi]
  have hfro:=frozen_thawed hg hf hi
  have hst:(store ((⟨g,o,none⟩:Addr).add i) v).run P w = .ok () (w.putObj g (Obj.cells (cur.setIfInBounds (o+i) v) t fr)):=by
   rw [Addr.add_lit,run_store P w _ v _ (h1 v (by simp)),hcell]
   simp [hfro,setCell_eq_setRow w g (o+i) cur t fr v hg,setRow_eq_put hg]
  have hlt:=lt_of_heap hg
  have ih:=run_storeCells_th g o t fr rest (i+1) (cur.setIfInBounds (o+i) v) (w.putObj g (Obj.cells (cur.setIfInBounds (o+i) v) t fr)) (heap_put_same hlt) (by simpa using hf) (by simp at hl ⊢;omega) (fun x hx=>h1 x (by simp [hx]))
  simp only [storeCells,Sem.run_bind,hst,Result.andThen_ok,ih]
  congr 1
  unfold World.putObj
  simp only [Array.setIfInBounds_setIfInBounds]
  congr 3
  have e:=list_seg_step cur.toList (o+i) v rest (by simp at hl ⊢;omega)
  simpa [Array.toList_setIfInBounds,Nat.add_assoc] using e
theorem oneCell_of {p:PV} {u:Value} (h:VR G w p u) (hc:p.isCell=true):u.oneCell'=true:=by
 cases p <;> simp only [VR] at h <;> first
  | (subst h;rfl)
  | (rcases h with ⟨_,_,_,rfl,_⟩|⟨_,_,_,_,rfl⟩ <;> rfl)
  | (obtain ⟨_,_,rfl⟩:=h;rfl)
  | (obtain ⟨_,_,_,rfl,_⟩:=h;rfl)
  | (obtain ⟨_,_,_,rfl⟩:=h;rfl)
  | (obtain ⟨_,_,rfl,_⟩:=h;rfl)
  | (obtain ⟨_,_,_,_,rfl,_⟩:=h;rfl)
  | (simp [PV.isCell] at hc;done)
  | (obtain ⟨_,rfl,_⟩:=h;rfl)
theorem oneCells_of:∀ {ps:List PV} {vs:List Value},VRL G w ps vs→ps.all PV.isCell=true→∀ u∈vs,u.oneCell'=true
 | [],vs,h,_,u,hu=>by rw [VRL.nil_iff.1 h] at hu;cases hu
 | c::cs,vs,h,hc,u,hu=>by
  obtain ⟨x,vs',rfl,h1,h2⟩:=VRL.cons_iff.1 h
  simp only [List.all_cons,Bool.and_eq_true] at hc
  rcases List.mem_cons.1 hu with rfl|hu
  ·exact oneCell_of h1 hc.1
  ·exact oneCells_of h2 hc.2 u hu
theorem ok_store (hw:WR P B0 w0 G st.heap w) (ht:VRL G w tm a.tmps.toList) {t:TypeId} {x y:Operand} {s:Nat} {d e:Opd} (ho:o.op = .store t x y) (hsz:sizeT P t=some s) (hd:opd x=some d) (he:opd y=some e)
  (hs:stepOp E rec tm st (.store s d e)=some (.val v st')):Yields P B0 w0 G st w v st' (OpRun P a o w):=by
 have hx:=opd_ok ht hd
 have hy:=(opd_ok ht he).cells
 have hyl:=hy.length
 have core:∀ {b off:Nat} {arr:Array Value} {T:TypeId} {fr:Nat×Nat},a.eval x = .pointer (some ⟨b,off,none⟩)→w.heap[b]? = some (Obj.cells arr T fr)→Thawed fr arr.size→(e.ev tm).cells.length=s→off+s≤arr.size→(e.ev tm).cells.all PV.isCell=true →
   OpRun P a o w = .ok .skip (w.putObj b (Obj.cells (arr.toList.take off++(a.eval y).cells.toList++arr.toList.drop (off+(a.eval y).cells.toList.length)).toArray T fr)):=by
  intro b off arr T fr h1 h2 h3 h4 h5 h6
  refine OpRun.unit (by unfold execOp;rw [ho]) ?_
  unfold Instr.storeAt storeVar
  have hcs:(a.eval y).cells.size=s:=by rw [← Array.length_toList,hyl,h4]
  have:=run_storeCells_th (P:=P) b off T fr (a.eval y).cells.toList 0 arr w h2 h3 (by rw [hyl,h4];simpa using h5) (oneCells_of hy h6)
  simp only [Nat.add_zero] at this
  simp only [h1,Sem.run_bind,sureAddr_run,Result.andThen_ok,sizeOf_run hsz,hcs,ne_eq,not_true_eq_false,if_false,this,Sem.run_ite]
 simp only [stepOp] at hs
 split at hs
 ·rename_i l off hev
  rw [hev] at hx
  simp only [VR] at hx
  obtain ⟨b,h1,h2⟩:=hx
  split at hs
  ·rename_i cs hh
   split at hs
   ·rename_i hc
    obtain ⟨c1,c2,c3⟩:=hc
    cases hs
    obtain ⟨arr,T,h5,h6⟩:=hw.row h1 hh
    have hl:=h6.length
    simp at hl
    have hrun:=core h2 h5 (Thawed.zero _) c1 (by omega) c3
    have hspl:=h6.splice (off:=off) hy
    obtain ⟨g1,g2⟩:=set_obj hw h1 (.var (splice cs off (e.ev tm).cells)) (Obj.cells (arr.toList.take off++(a.eval y).cells.toList++arr.toList.drop (off+(a.eval y).cells.toList.length)).toArray T (0,0))
     (fun ar T' fr' hh=>by
      rw [h5] at hh;cases hh
      refine ⟨_,rfl,?_⟩
      simp only [List.size_toArray,List.length_append,List.length_take,List.length_drop,Array.length_toList] at hyl ⊢
      omega)
     (fun r hh=>by rw [h5] at hh;cases hh)
     (fun w' hp hh=>⟨_,_,hh,hspl.mono hp⟩)
    exact ⟨G,_,g1,g2 _ (Nat.min_le_right _ _),Nat.min_le_left _ _,.inr ⟨hrun,rfl⟩⟩
   ·cases hs
  ·cases hs
 ·rename_i l off hev
  rw [hev] at hx
  simp only [VR] at hx
  obtain ⟨b,e',h1,h2⟩:=hx
  split at hs
  ·rename_i cs hh
   split at hs
   ·rename_i hc
    obtain ⟨c1,c2,c3⟩:=hc
    cases hs
    obtain ⟨k1,k2,⟨arr,T,fr,k3,k4,k5⟩,k6⟩:=hw.arr h1 hh
    have hrun:=core h2 k3 k5 c1 (by omega) c3
    obtain ⟨vs,m1,m2⟩:=k6.vals
    have hvl:=m1.length
    have hspl:=m1.splice (off:=off) hy
    obtain ⟨g1,g2⟩:=store_arr hw h1 hh (cs':=splice cs off (e.ev tm).cells) (by simp [splice];omega) arr (arr.toList.take off++(a.eval y).cells.toList++arr.toList.drop (off+(a.eval y).cells.toList.length)).toArray T fr k3
     (by
      simp only [List.size_toArray,List.length_append,List.length_take,List.length_drop,Array.length_toList] at hyl ⊢
      omega)
     (fun w' hp hh'=>VRC.of_row hh' (hspl.mono hp) (fun j u hj=>by
      obtain ⟨rest,hrest⟩:∃ rest,arr.toList=vs++rest:=by
       refine ⟨arr.toList.drop vs.length,?_⟩
       have:arr.toList.take vs.length=vs:=by
        apply List.ext_getElem?
        intro i
        rw [List.getElem?_take]
        split
        ·rename_i hi
         have:=m2 i vs[i] (List.getElem?_eq_getElem hi)
         rw [Addr.add_lit,cell_row k3] at this
         rw [List.getElem?_eq_getElem hi,← this]
         simp
        ·rw [List.getElem?_eq_none (by omega)]
       rw [← this]
       simp only [List.length_take,Array.length_toList]
       rw [show min vs.length arr.size=vs.length from by omega]
       rw [List.take_append_drop]
      rw [Nat.zero_add]
      simp only [List.getElem?_toArray]
      simp only [Array.length_toList] at hyl
      rw [hrest,List.take_append_of_le_length (by omega),List.drop_append_of_le_length (by simp;omega),← List.append_assoc]
      exact (List.getElem?_append_left (List.getElem?_eq_some_iff.1 hj).1).trans hj))
    exact ⟨G,_,g1,g2 _ (Nat.min_le_right _ _),Nat.min_le_left _ _,.inr ⟨hrun,rfl⟩⟩
   ·cases hs
  ·cases hs
 ·cases hs
end
end Go.Den
end
section
namespace Go.Den
section
variable {P:Program} {B0:Nat} {w0:World} {G:Gh} {st:St} {w:World} {tm:List PV} {a:Act} {o:Oper} {E:Env} {rec:Rec} {v:PV} {st':St}
theorem ok_nilCheck (hw:WR P B0 w0 G st.heap w) (ht:VRL G w tm a.tmps.toList) {x:Operand} {d:Opd} (ho:o.op = .nilCheck x) (hd:opd x=some d)
  (hs:stepOp E rec tm st (.nilCheck d)=some (.val v st')):Yields P B0 w0 G st w v st' (OpRun P a o w):=by
 have hx:=opd_ok ht hd
 simp only [stepOp] at hs
 split at hs
 ·rename_i l off hev
  cases hs
  rw [hev] at hx
  have h0:=hx
  simp only [VR] at hx
  obtain ⟨b,h1,h2⟩:=hx
  exact .pure hw (v:=a.eval x) (by unfold OpRun execOp;rw [ho];simp [h2]) h0
 ·rename_i cs hev
  cases hs
  rw [hev] at hx
  have h0:=hx
  simp only [VR] at hx
  obtain ⟨b,off,h2,_⟩:=hx
  exact .pure hw (v:=a.eval x) (by unfold OpRun execOp;rw [ho];simp [h2]) h0
 ·rename_i f fa fc hev
  cases hs
  rw [hev] at hx
  have h0:=hx
  simp only [VR] at hx
  obtain ⟨a',c',h2,_⟩:=hx
  exact .pure hw (v:=a.eval x) (by unfold OpRun execOp;rw [ho];simp [h2]) h0
 ·cases hs
theorem ok_binI (hw:WR P B0 w0 G st.heap w) (ht:VRL G w tm a.tmps.toList) {op:BinOp} {t u:TypeId} {x y:Operand} {d e:Opd} (ho:o.op = .binOp op t x y u) (hd:opd x=some d) (he:opd y=some e)
  (hs:stepOp E rec tm st (.binI op d e)=some (.val v st')):Yields P B0 w0 G st w v st' (OpRun P a o w):=by
 have hx:=opd_ok ht hd
 have hy:=opd_ok ht he
 simp only [stepOp] at hs
 split at hs
 ·rename_i k m k' m' h1 h2
  split at hs
  ·rename_i hk
   subst hk
   obtain ⟨p,h3,h4⟩:=Option.map_eq_some_iff.1 hs
   cases h4
   rw [h1] at hx
   rw [h2] at hy
   obtain ⟨u,h5,h6⟩:=binI_ok (P:=P) (G:=G) (w:=w) (t:=t) h3 x y
   refine .pure hw (OpRun.val (by unfold execOp;rw [ho]) ?_) h6
   rw [hx.int_inv,hy.int_inv]
   exact h5
  ·cases hs
 ·cases hs
theorem ok_binS (hw:WR P B0 w0 G st.heap w) (ht:VRL G w tm a.tmps.toList) {op:BinOp} {t u:TypeId} {x y:Operand} {d e:Opd} (ho:o.op = .binOp op t x y u) (hd:opd x=some d) (he:opd y=some e)
  (hs:stepOp E rec tm st (.binS op d e)=some (.val v st')):Yields P B0 w0 G st w v st' (OpRun P a o w):=by
 have hx:=opd_ok ht hd
 have hy:=opd_ok ht he
 simp only [stepOp] at hs
 split at hs
 ·rename_i s s' h1 h2
  obtain ⟨p,h3,h4⟩:=Option.map_eq_some_iff.1 hs
  cases h4
  rw [h1] at hx
  rw [h2] at hy
  have hg:(eqGuard op t x y (.string s) (.string s')).run P w = .ok () w:=by unfold eqGuard;cases op <;> rfl
  have key:∃ u,(binOp op t (.string s) (.string s')).run P w = .ok u w∧VR G w v u:=by
   unfold binS at h3
   split at h3
   ·split at h3
    ·rename_i hle
     cases h3
     refine ⟨_,?_,VR.str_mk⟩
     have h9:(s.size:Int)+(s'.size:Int)≤9223372036854775807:=by omega
     simp [binOp,Op.stringOp,h9]
    ·cases h3
   ·cases h3;exact ⟨_,by simp [binOp,Op.stringOp],VR.bool_mk⟩
   ·cases h3;exact ⟨_,by simp [binOp,Op.stringOp],VR.bool_mk⟩
   ·cases h3
  obtain ⟨u,h5,h6⟩:=key
  refine .pure hw (OpRun.val (by unfold execOp;rw [ho]) ?_) h6
  rw [hx.str_inv,hy.str_inv]
  simp [hg,h5]
 ·cases hs
theorem ok_binB (hw:WR P B0 w0 G st.heap w) (ht:VRL G w tm a.tmps.toList) {op:BinOp} {t u:TypeId} {x y:Operand} {d e:Opd} {neg:Bool} (ho:o.op = .binOp op t x y u) (hu:P.underlying t=some .bool) (hop:op=if neg then .neq else .eql) (hd:opd x=some d) (he:opd y=some e)
  (hs:stepOp E rec tm st (.binB neg d e)=some (.val v st')):Yields P B0 w0 G st w v st' (OpRun P a o w):=by
 have hx:=opd_ok ht hd
 have hy:=opd_ok ht he
 simp only [stepOp] at hs
 split at hs
 ·rename_i s s' h1 h2
  cases hs
  rw [h1] at hx
  rw [h2] at hy
  have hg:∀ op,(eqGuard op t x y (.bool s) (.bool s')).run P w = .ok () w:=by intro op;unfold eqGuard;cases op <;> rfl
  refine .pure hw (OpRun.val (u := .bool (if neg then !(s==s') else s==s')) (by unfold execOp;rw [ho]) ?_) VR.bool_mk
  rw [hx.bool_inv,hy.bool_inv]
  have heq:(Op.equalIn 10000 t (.bool s) (.bool s')).run P w = .ok (s==s') w:=run_equalIn_bool' (P:=P) w 9999 t s s' hu
  subst hop
  cases neg <;> simp [hg,binOp,Op.equal,Op.maxDepth,heq]
 ·cases hs
theorem ints_inv:∀ {ps:List PV} {l:List Int} {vs:List Value},ints ps=some l→VRL G w ps vs→vs=l.map (Value.int .i64)
 | [],l,vs,h,hv=>by simp only [ints] at h;cases h;exact VRL.nil_iff.1 hv
 | p::ps,l,vs,h,hv=>by
  obtain ⟨u,vs',rfl,h1,h2⟩:=VRL.cons_iff.1 hv
  unfold ints at h
  split at h
  ·rename_i h0;cases h0
  ·rename_i n r h0
   cases h0
   obtain ⟨l',h3,h4⟩:=Option.map_eq_some_iff.1 h
   subst h4
   rw [h1.int_inv,ints_inv h3 h2]
   rfl
  ·cases h
theorem intFields_spec {fs:List Field} (h:intFields P fs=true):∀ f∈fs,f.name≠ "_"∧P.underlying f.type=some (.int .i64):=by
 intro f hf
 unfold intFields at h
 have:=List.all_eq_true.1 h f hf
 simp only [Bool.and_eq_true,bne_iff_ne,ne_eq] at this
 refine ⟨this.1,?_⟩
 have h2:=this.2
 split at h2
 ·assumption
 ·cases h2
theorem eqFields_ok {d:Nat} {xs ys:Array Value}:∀ (fs:List Field) (k:Nat) (l m:List Int),intFields P fs=true→offsFrom k fs=true→l.length=fs.length→m.length=fs.length →
  (∀ i n,l[i]? = some n→xs[k+i]? = some (.int .i64 n))→(∀ i n,m[i]? = some n→ys[k+i]? = some (.int .i64 n))→(Op.eqFields (d+1) xs ys fs).run P w = .ok (l==m) w
 | [],k,l,m,_,_,hl,hm,_,_=>by
  have:l=[]:=List.eq_nil_of_length_eq_zero (by simpa using hl)
  have:m=[]:=List.eq_nil_of_length_eq_zero (by simpa using hm)
  subst l;subst m
  simp [Op.eqFields]
 | f::fs,k,[],m,_,_,hl,_,_,_=>by simp at hl
 | f::fs,k,n::l,[],_,_,_,hm,_,_=>by simp at hm
 | f::fs,k,n::l,n'::m,hi,hoff,hl,hm,hx,hy=>by
  obtain ⟨h1,h2⟩:=intFields_spec hi f (by simp)
  simp only [offsFrom,Bool.and_eq_true,beq_iff_eq] at hoff
  have hagg:(isAgg f.type).run P w = .ok false w:=by unfold isAgg;simp [run_underlying h2]
  have p1:(part f.type xs f.offset).run P w = .ok (.int .i64 n) w:=by
   unfold part;simp [hagg,hoff.1,show xs[k]? = some (.int .i64 n) from hx 0 n rfl]
  have p2:(part f.type ys f.offset).run P w = .ok (.int .i64 n') w:=by
   unfold part;simp [hagg,hoff.1,show ys[k]? = some (.int .i64 n') from hy 0 n' rfl]
  have p3:=run_equalIn_int (P:=P) w d f.type .i64 .i64 n n' h2
  have hi':intFields P fs=true:=by
   unfold intFields at hi ⊢
   rw [List.all_cons,Bool.and_eq_true] at hi
   exact hi.2
  have ih:=eqFields_ok (d:=d) (xs:=xs) (ys:=ys) fs (k+1) l m hi' hoff.2 (by simpa using hl) (by simpa using hm)
   (fun i q hq=>by have:=hx (i+1) q (by simpa using hq);rwa [show k+(i+1)=k+1+i from by omega] at this)
   (fun i q hq=>by have:=hy (i+1) q (by simpa using hq);rwa [show k+(i+1)=k+1+i from by omega] at this)
  simp only [Op.eqFields,ne_eq,h1,not_false_eq_true,if_true,Sem.run_bind,p1,p2,p3,Result.andThen_ok,Sem.run_ite,ih,Sem.run_pure]
  by_cases hn:n=n'
  ·subst hn;simp
  ·simp [hn]
theorem equal_struct {t:TypeId} {fields:Array Field} {xs ys:Array Value} {l m:List Int} (hu:P.underlying t=some (.struct fields)) (hi:intFields P fields.toList=true) (hoff:offsFrom 0 fields.toList=true) (hst:P.stoodInHeld t=false)
  (hl:l.length=fields.size) (hm:m.length=fields.size) (hx:xs.toList=l.map (Value.int .i64)) (hy:ys.toList=m.map (Value.int .i64)) :
  (Op.equalIn 10000 t (.agg xs) (.agg ys)).run P w = .ok (l==m) w:=by
 have hf:P.fieldsOf t=fields:=by unfold Program.fieldsOf;rw [hu]
 rw [show (10000:Nat)=9999+1 from rfl,run_equalIn_struct w 9999 t xs ys (by rw [hf];exact hu) hst,hf]
 refine eqFields_ok (d:=9998) fields.toList 0 l m hi hoff (by simpa using hl) (by simpa using hm) (fun i n hn=>?_) (fun i n hn=>?_)
 ·rw [Nat.zero_add,← Array.getElem?_toList,hx];simp [hn]
 ·rw [Nat.zero_add,← Array.getElem?_toList,hy];simp [hn]
theorem ok_eqAgg (hw:WR P B0 w0 G st.heap w) (ht:VRL G w tm a.tmps.toList) {op:BinOp} {t u:TypeId} {x y:Operand} {d e:Opd} {neg:Bool} {fields:Array Field} (ho:o.op = .binOp op t x y u) (hu:P.underlying t=some (.struct fields))
  (hi:intFields P fields.toList=true) (hoff:offsFrom 0 fields.toList=true) (hst:P.stoodInHeld t=false) (hg0:P.eqGuardType P.depth t=false) (hop:op=if neg then .neq else .eql) (hd:opd x=some d) (he:opd y=some e)
  (hs:stepOp E rec tm st (.eqAgg neg fields.size d e)=some (.val v st')):Yields P B0 w0 G st w v st' (OpRun P a o w):=by
 have hx:=opd_ok ht hd
 have hy:=opd_ok ht he
 simp only [stepOp] at hs
 split at hs
 ·rename_i s s' h1 h2
  rw [h1] at hx
  rw [h2] at hy
  simp only [VR] at hx hy
  obtain ⟨xs,hx1,hx2⟩:=hx
  obtain ⟨ys,hy1,hy2⟩:=hy
  split at hs
  ·rename_i l m hl hm
   split at hs
   ·rename_i hlen
    cases hs
    have heq:=equal_struct (P:=P) (w:=w) hu hi hoff hst hlen.1 hlen.2 (ints_inv hl hx2) (ints_inv hm hy2)
    have hg:=run_eqGuard_agg (P:=P) w op t x y xs ys hg0
    refine .pure hw (OpRun.val (u := .bool (if neg then !(l==m) else l==m)) (by unfold execOp;rw [ho]) ?_) VR.bool_mk
    rw [hx1,hy1]
    simp only [Sem.run_bind,hg,Result.andThen_ok]
    subst hop
    cases neg <;> simp [binOp,Op.equal,Op.maxDepth,heq]
   ·cases hs
  ·cases hs
 ·cases hs
theorem const_nilS {y:Operand} (h:opd y=some (.c .nilslice)):y = .const (.slice none 0 0):=by
 unfold opd at h
 split at h
 ·cases h
 ·rename_i v
  obtain ⟨p,h1,h2⟩:=Option.map_eq_some_iff.1 h
  cases h2
  unfold const0 at h1
  split at h1
  ·rename_i cs;obtain ⟨_,_,h3⟩:=Option.map_eq_some_iff.1 h1;cases h3
  ·unfold cell0 at h1
   split at h1 <;> first|rfl|cases h1
 ·cases h
 ·cases h
theorem ok_isNilS (hw:WR P B0 w0 G st.heap w) (ht:VRL G w tm a.tmps.toList) {op:BinOp} {t u e:TypeId} {x y:Operand} {d:Opd} {neg:Bool} (ho:o.op = .binOp op t x y u) (hu:P.underlying t=some (.slice e)) (hop:op=if neg then .neq else .eql) (hd:opd x=some d) (he:opd y=some (.c .nilslice))
  (hs:stepOp E rec tm st (.isNilS neg d)=some (.val v st')):Yields P B0 w0 G st w v st' (OpRun P a o w):=by
 have hx:=opd_ok ht hd
 have hy:=const_nilS he
 subst hy
 have core:∀ (b:Option Addr) (n c:Nat),a.eval x = .slice b n c→OpRun P a o w = .ok (.value (.bool (if neg then !b.isNone else b.isNone))) w:=by
  intro b n c hb
  refine OpRun.val (by unfold execOp;rw [ho]) ?_
  have hg:(eqGuard op t x (.const (.slice none 0 0)) (.slice b n c) (.slice none 0 0)).run P w = .ok () w:=by unfold eqGuard;cases op <;> rfl
  have heq0:∀ d,(Op.equalIn (d+1) t (.slice b n c) (.slice none 0 0)).run P w = .ok b.isNone w:=by
   intro d
   cases b <;> simp [Op.equalIn,run_underlying hu]
  have heq:(Op.equalIn 10000 t (.slice b n c) (.slice none 0 0)).run P w = .ok b.isNone w:=heq0 9999
  rw [hb]
  simp only [Act.eval,Sem.run_bind,hg,Result.andThen_ok]
  subst hop
  cases neg <;> simp [binOp,Op.equal,Op.maxDepth,heq]
 simp only [stepOp] at hs
 split at hs
 ·rename_i hev
  cases hs
  rw [hev] at hx
  simp only [VR] at hx
  refine .pure hw (core none 0 0 hx) ?_
  cases neg <;> exact VR.bool_mk
 ·rename_i o' n cs hev
  cases hs
  rw [hev] at hx
  simp only [VR] at hx
  rcases hx with ⟨b,off,cap,h1,_⟩|⟨_,_,_,x0,h1⟩
  rotate_left
  ·refine .pure hw (core _ _ _ h1) ?_
   cases neg <;> exact VR.bool_mk
  refine .pure hw (core _ _ _ h1) ?_
  cases neg <;> exact VR.bool_mk
 ·cases hs
theorem ok_not (hw:WR P B0 w0 G st.heap w) (ht:VRL G w tm a.tmps.toList) {t:TypeId} {x:Operand} {d:Opd} (ho:o.op = .unOp .not t x) (hd:opd x=some d)
  (hs:stepOp E rec tm st (.not d)=some (.val v st')):Yields P B0 w0 G st w v st' (OpRun P a o w):=by
 have hx:=opd_ok ht hd
 simp only [stepOp] at hs
 split at hs
 ·rename_i b hev
  cases hs
  rw [hev] at hx
  exact .pure hw (OpRun.val (u := .bool !b) (by unfold execOp;rw [ho]) (by rw [hx.bool_inv];simp [Op.unary])) VR.bool_mk
 ·cases hs
theorem ok_neg (hw:WR P B0 w0 G st.heap w) (ht:VRL G w tm a.tmps.toList) {t:TypeId} {x:Operand} {d:Opd} (ho:o.op = .unOp .neg t x) (hd:opd x=some d)
  (hs:stepOp E rec tm st (.neg d)=some (.val v st')):Yields P B0 w0 G st w v st' (OpRun P a o w):=by
 have hx:=opd_ok ht hd
 simp only [stepOp] at hs
 split at hs
 ·rename_i k n hev
  cases hs
  rw [hev] at hx
  exact .pure hw (OpRun.val (u := .int k (k.wrap (0 - n))) (by unfold execOp;rw [ho]) (by rw [hx.int_inv];simp [Op.unary,Op.intArith])) VR.int_mk
 ·cases hs
theorem ok_toInt (hw:WR P B0 w0 G st.heap w) (ht:VRL G w tm a.tmps.toList) {s t:TypeId} {k0 k:IntKind} {x:Operand} {d:Opd} (ho:o.op = .convert s t x) (hsrc:P.underlying s=some (.int k0)) (hdst:P.underlying t=some (.int k)) (hd:opd x=some d)
  (hs:stepOp E rec tm st (.toInt k d)=some (.val v st')):Yields P B0 w0 G st w v st' (OpRun P a o w):=by
 have hx:=opd_ok ht hd
 simp only [stepOp] at hs
 split at hs
 ·rename_i k1 n hev
  cases hs
  rw [hev] at hx
  exact .pure hw (OpRun.val (u := .int k (k.wrap n)) (by unfold execOp;rw [ho]) (by rw [hx.int_inv];simp [convert,run_underlying hsrc,run_underlying hdst,Conv.intToInt])) VR.int_mk
 ·cases hs
theorem ok_mkIface (hw:WR P B0 w0 G st.heap w) (ht:VRL G w tm a.tmps.toList) {t:TypeId} {x:Operand} {d:Opd} {td:TypeDesc} (ho:o.op = .makeInterface t x) (hu:P.underlying t=some td) (hni:∀ ms,td ≠ .interface ms) (hd:opd x=some d)
  (hs:stepOp E rec tm st (.mkIface t d)=some (.val v st')):Yields P B0 w0 G st w v st' (OpRun P a o w):=by
 have hx:=opd_ok ht hd
 simp only [stepOp] at hs
 cases hs
 refine .pure hw (OpRun.val (u := .iface t (a.eval x)) (by unfold execOp;rw [ho]) ?_) (by simp only [VR];exact ⟨_,rfl,hx⟩)
 unfold Instr.makeInterface
 simp only [Sem.run_bind,run_underlying hu,Result.andThen_ok]
 cases td <;> first|rfl|exact absurd rfl (hni _)
theorem ok_mkFunc (hw:WR P B0 w0 G st.heap w) (ht:VRL G w tm a.tmps.toList) {f:FuncId} {fi ca:Array Operand} {d e:List Opd} (ho:o.op = .makeFunc (.func f) fi ca) (hd:opds fi.toList=some d) (he:opds ca.toList=some e)
  (hs:stepOp E rec tm st (.mkFunc f d e)=some (.val v st')):Yields P B0 w0 G st w v st' (OpRun P a o w):=by
 simp only [stepOp] at hs
 cases hs
 refine .pure hw (OpRun.val (u := .func (.func f) (fi.map a.eval) (ca.map a.eval)) (by unfold execOp;rw [ho]) rfl) ?_
 simp only [VR]
 exact ⟨_,_,rfl,by simpa using opds_ok ht hd,by simpa using opds_ok ht he⟩
theorem ok_mkMap (hw:WR P B0 w0 G st.heap w) {t kt e:TypeId} {r:Option Operand} (ho:o.op = .makeMap t r) (hu:P.underlying t=some (.map kt e)) (hr:r=none∨∃ k n,r=some (.const (.int k n)))
  (hs:stepOp E rec tm st .mkMap=some (.val v st')):Yields P B0 w0 G st w v st' (OpRun P a o w):=by
 simp only [stepOp] at hs
 cases hs
 obtain ⟨h1,h2⟩:=alloc_obj hw (.map []) (.map #[] 0) (fun G' w' hp hh _=>⟨_,_,hh,rfl⟩)
 refine ⟨_,_,h1,h2 _,Nat.le_refl _,.inl ⟨.map (some w.heap.size),OpRun.val (by unfold execOp;rw [ho]) ?_,by simp only [VR];exact ⟨_,upd_same _ _ _,rfl⟩⟩⟩
 unfold Instr.makeMap
 rcases hr with rfl|⟨k,n,rfl⟩
 ·simp
 ·simp [run_underlying hu,Act.eval,Go.asInt,asIntOf]
theorem ok_extract (hw:WR P B0 w0 G st.heap w) (ht:VRL G w tm a.tmps.toList) {x:Operand} {i:Nat} {d:Opd} (ho:o.op = .extract x i) (hd:opd x=some d)
  (hs:stepOp E rec tm st (.extract d i)=some (.val v st')):Yields P B0 w0 G st w v st' (OpRun P a o w):=by
 have hx:=opd_ok ht hd
 simp only [stepOp] at hs
 split at hs
 ·rename_i vs hev
  obtain ⟨p,h1,h2⟩:=Option.map_eq_some_iff.1 hs
  cases h2
  rw [hev] at hx
  simp only [VR] at hx
  obtain ⟨us,h3,h4⟩:=hx
  obtain ⟨u,h5,h6⟩:=h4.get h1
  refine .pure hw (OpRun.val (u:=u) (by unfold execOp;rw [ho]) ?_) h6
  unfold Instr.extract
  rw [h3]
  have:us[i]? = some u:=by simpa using h5
  simp [this]
 ·cases hs
theorem len_run {t:TypeId} {c:Call} {x:Operand} (ho:o.op = .call c) (hc:c.callee = .builtin .len) (hat:c.argTypes=#[t]) (har:c.args=#[x]) {n:Int} (h:(Builtin.len_ #[t] o.type #[a.eval x]).run P w = .ok (.int .i64 n) w):OpRun P a o w = .ok (.value (.int .i64 n)) w:=by
 unfold OpRun execOp
 rw [ho]
 simp [resolve,hc,har,hat,invoke,builtin,h]
theorem ok_len (hw:WR P B0 w0 G st.heap w) (ht:VRL G w tm a.tmps.toList) {t e:TypeId} {c:Call} {x:Operand} {d:Opd} (ho:o.op = .call c) (hc:c.callee = .builtin .len) (hat:c.argTypes=#[t]) (har:c.args=#[x]) (hu:P.underlying t=some (.slice e))
  (hd:opd x=some d) (hs:stepOp E rec tm st (.len d)=some (.val v st')):Yields P B0 w0 G st w v st' (OpRun P a o w):=by
 have hx:=opd_ok ht hd
 simp only [stepOp] at hs
 split at hs
 ·rename_i hev
  cases hs
  rw [hev] at hx
  simp only [VR] at hx
  exact .pure hw (len_run ho hc hat har (by rw [hx];simp [Builtin.len_,run_underlying hu,goInt])) VR.int_mk
 ·rename_i oo n cs hev
  cases hs
  rw [hev] at hx
  simp only [VR] at hx
  rcases hx with ⟨b,off,cap,h1,_⟩|⟨_,rfl,_,x0,h1⟩
  rotate_left
  ·exact .pure hw (len_run ho hc hat har (by rw [h1];simp [Builtin.len_,run_underlying hu,goInt])) VR.int_mk
  exact .pure hw (len_run ho hc hat har (by rw [h1];simp [Builtin.len_,run_underlying hu,goInt])) VR.int_mk
 ·rename_i l sz n hev
  cases hs
  rw [hev] at hx
  simp only [VR] at hx
  obtain ⟨b,e',cap,_,h1,_⟩:=hx
  exact .pure hw (len_run ho hc hat har (by rw [h1];simp [Builtin.len_,run_underlying hu,goInt])) VR.int_mk
 ·rename_i l sz n hev
  cases hs
  rw [hev] at hx
  simp only [VR] at hx
  obtain ⟨b,cap,_,h1,_⟩:=hx
  exact .pure hw (len_run ho hc hat har (by rw [h1];simp [Builtin.len_,run_underlying hu,goInt])) VR.int_mk
 ·cases hs
theorem ok_lenStr (hw:WR P B0 w0 G st.heap w) (ht:VRL G w tm a.tmps.toList) {t:TypeId} {c:Call} {x:Operand} {d:Opd} (ho:o.op = .call c) (hc:c.callee = .builtin .len) (hat:c.argTypes=#[t]) (har:c.args=#[x]) (hu:P.underlying t=some .string)
  (hd:opd x=some d) (hs:stepOp E rec tm st (.lenStr d)=some (.val v st')):Yields P B0 w0 G st w v st' (OpRun P a o w):=by
 have hx:=opd_ok ht hd
 simp only [stepOp] at hs
 split at hs
 ·rename_i s hev
  cases hs
  rw [hev] at hx
  exact .pure hw (len_run ho hc hat har (by rw [hx.str_inv];simp [Builtin.len_,run_underlying hu,goInt])) VR.int_mk
 ·cases hs
end
end Go.Den
end
section
namespace Go.Den
section
variable {P:Program} {B0:Nat} {w0:World} {G:Gh} {st:St} {w:World} {tm:List PV} {a:Act} {o:Oper} {E:Env} {rec:Rec} {v:PV} {st':St}
theorem ok_fieldAddr (hw:WR P B0 w0 G st.heap w) (ht:VRL G w tm a.tmps.toList) {t:TypeId} {x:Operand} {f:Nat} {fields:Array Field} {fd:Field} {s:Nat} {d:Opd} (ho:o.op = .fieldAddr t x f) (hu:P.underlying t=some (.struct fields)) (hf:fields[f]? = some fd) (hsz:sizeT P fd.type=some s) (h0:s≠0) (hd:opd x=some d)
  (hs:stepOp E rec tm st (.fieldAddr fd.offset d)=some (.val v st')):Yields P B0 w0 G st w v st' (OpRun P a o w):=by
 have hx:=opd_ok ht hd
 have core:∀ {b off:Nat},a.eval x = .pointer (some ⟨b,off,none⟩)→OpRun P a o w = .ok (.value (.pointer (some ⟨b,off+fd.offset,none⟩))) w:=by
  intro b off h
  refine OpRun.val (by unfold execOp;rw [ho]) ?_
  unfold Instr.fieldAt fieldPlace
  simp [run_underlying hu,hf,h,sureAddr_run,sizeOf_run hsz,h0,Addr.add_lit]
 simp only [stepOp] at hs
 split at hs
 ·rename_i l off hev
  cases hs
  rw [hev] at hx
  simp only [VR] at hx
  obtain ⟨b,h1,h2⟩:=hx
  exact .pure hw (core h2) (by simp only [VR];exact ⟨b,h1,rfl⟩)
 ·rename_i l off hev
  cases hs
  rw [hev] at hx
  simp only [VR] at hx
  obtain ⟨b,e,h1,h2⟩:=hx
  exact .pure hw (core h2) (by simp only [VR];exact ⟨b,e,h1,rfl⟩)
 ·rename_i cs hev
  split at hs
  ·rename_i hle
   cases hs
   rw [hev] at hx
   simp only [VR] at hx
   obtain ⟨b,off,h1,h2,h3⟩:=hx
   refine .pure hw (core h1) ?_
   simp only [VR]
   refine ⟨b,off+fd.offset,rfl,fun hne=>?_,h3.drop _ hle⟩
   obtain ⟨m,h4,h5⟩:=h2 (by intro e;subst e;simp at hne)
   exact ⟨m,h4,by simp;omega⟩
  ·cases hs
 ·cases hs
theorem ok_part (hw:WR P B0 w0 G st.heap w) (ht:VRL G w tm a.tmps.toList) {t:TypeId} {x:Operand} {f:Nat} {fields:Array Field} {fd:Field} {s:Nat} {d:Opd} (ho:o.op = .field t x f) (hu:P.underlying t=some (.struct fields)) (hf:fields[f]? = some fd) (hok:okT P fd.type=true) (hsz:sizeT P fd.type=some s) (hd:opd x=some d)
  (hs:stepOp E rec tm st (.part (aggT P fd.type) s fd.offset d)=some (.val v st')):Yields P B0 w0 G st w v st' (OpRun P a o w):=by
 have hx:=opd_ok ht hd
 simp only [stepOp] at hs
 split at hs
 ·rename_i cs hev
  split at hs
  ·obtain ⟨p,h1,h2⟩:=Option.map_eq_some_iff.1 hs
   cases h2
   rw [hev] at hx
   simp only [VR] at hx
   obtain ⟨us,h3,h4⟩:=hx
   obtain ⟨u,h5,h6⟩:=part_ok hok hsz h4 h1
   refine .pure hw (OpRun.val (by unfold execOp;rw [ho]) ?_) h6
   unfold Instr.field
   simp [run_underlying hu,hf,h3,asAgg,h5]
  ·cases hs
 ·cases hs
theorem asIntOf_run {k:IntKind} {n:Int}:(asIntOf (.int k n)).run P w = .ok (k,n) w:=rfl
theorem ok_indexAddr (hw:WR P B0 w0 G st.heap w) (ht:VRL G w tm a.tmps.toList) {t e:TypeId} {x i:Operand} {s:Nat} {d g:Opd} (ho:o.op = .indexAddr t x i) (hu:P.underlying t=some (.slice e)) (hsz:sizeT P e=some s) (hd:opd x=some d) (hg:opd i=some g)
  (hs:stepOp E rec tm st (.indexAddr s d g)=some (.val v st')):Yields P B0 w0 G st w v st' (OpRun P a o w):=by
 have hx:=opd_ok ht hd
 have hi:=opd_ok ht hg
 have core:∀ {b off n cap:Nat} {k:IntKind} {j:Int},a.eval x = .slice (some ⟨b,off,none⟩) n cap→a.eval i = .int k j→0≤j→j<n→OpRun P a o w = .ok (.value (.pointer (some ⟨b,off+j.toNat*s,none⟩))) w:=by
  intro b off n cap k j h1 h2 h3 h4
  refine OpRun.val (by unfold execOp;rw [ho]) ?_
  unfold Instr.indexAt
  simp [h1,h2,asIntOf_run,run_underlying hu,h3,h4,sizeOf_run hsz,Addr.add_lit]
 simp only [stepOp] at hs
 split at hs
 ·rename_i oo n cs k j h1 h2
  split at hs
  ·rename_i hc
   cases hs
   rw [h1] at hx
   rw [h2] at hi
   simp only [VR] at hx
   rcases hx with ⟨b,off,cap,h3,h4,h5,_,h6⟩|⟨_,rfl,_⟩
   rotate_left
   ·omega
   refine .pure hw (core h3 hi.int_inv hc.1 hc.2) ?_
   simp only [VR]
   by_cases hle:j.toNat*s≤cs.length
   ·refine ⟨b,off+j.toNat*s,rfl,fun hne=>?_,(h6.drop _ hle).take _⟩
    obtain ⟨m,h7,h8⟩:=h5 (by intro e;subst e;simp at hne)
    exact ⟨m,h7,by simp;omega⟩
   ·have:((cs.drop (j.toNat*s)).take s)=[]:=by rw [List.drop_eq_nil_of_le (by omega)];simp
    rw [this]
    exact ⟨b,off+j.toNat*s,rfl,fun hne=>absurd rfl hne,by simp only [VRC]⟩
  ·cases hs
 ·rename_i l sz' n k j h1 h2
  split at hs
  ·rename_i hc
   cases hs
   rw [h1] at hx
   rw [h2] at hi
   simp only [VR] at hx
   obtain ⟨b,e',cap,h3,h4,h5,h6⟩:=hx
   refine .pure hw (core h4 hi.int_inv hc.2.1 hc.2.2) ?_
   simp only [VR]
   exact ⟨b,e',h3,by simp⟩
  ·cases hs
 ·rename_i l sz' n k j h1 h2
  split at hs
  ·rename_i hc
   cases hs
   rw [h1] at hx
   rw [h2] at hi
   simp only [VR] at hx
   obtain ⟨b,cap,h3,h4,h5⟩:=hx
   refine .pure hw (core h4 hi.int_inv hc.2.1 hc.2.2) ?_
   simp only [VR]
   exact ⟨b,h3,by simp⟩
  ·cases hs
 ·cases hs
theorem ok_indexVar (hw:WR P B0 w0 G st.heap w) (ht:VRL G w tm a.tmps.toList) {t e:TypeId} {x i:Operand} {n s:Nat} {d g:Opd} (ho:o.op = .indexAddr t x i) (hu:P.underlying t=some (.array n e)) (hsz:sizeT P e=some s) (hd:opd x=some d) (hg:opd i=some g)
  (hs:stepOp E rec tm st (.indexVar n s d g)=some (.val v st')):Yields P B0 w0 G st w v st' (OpRun P a o w):=by
 have hx:=opd_ok ht hd
 have hi:=opd_ok ht hg
 simp only [stepOp] at hs
 split at hs
 ·rename_i l off k j h1 h2
  split at hs
  ·rename_i hc
   cases hs
   rw [h1] at hx
   rw [h2] at hi
   simp only [VR] at hx
   obtain ⟨b,h3,h4⟩:=hx
   refine .pure hw (v := .pointer (some ⟨b,off+j.toNat*s,none⟩)) (OpRun.val (by unfold execOp;rw [ho]) ?_) (by simp only [VR];exact ⟨b,h3,rfl⟩)
   unfold Instr.indexAt
   simp [h4,hi.int_inv,asIntOf_run,run_underlying hu,sureAddr_run,hc.1,hc.2,sizeOf_run hsz,Addr.add_lit]
  ·cases hs
 ·cases hs
theorem ok_indexArr (hw:WR P B0 w0 G st.heap w) (ht:VRL G w tm a.tmps.toList) {t e:TypeId} {x i:Operand} {n s:Nat} {d g:Opd} (ho:o.op = .index t x i) (hu:P.underlying t=some (.array n e)) (hok:okT P e=true) (hsz:sizeT P e=some s) (hd:opd x=some d) (hg:opd i=some g)
  (hs:stepOp E rec tm st (.indexArr (aggT P e) n s d g)=some (.val v st')):Yields P B0 w0 G st w v st' (OpRun P a o w):=by
 have hx:=opd_ok ht hd
 have hi:=opd_ok ht hg
 simp only [stepOp] at hs
 split at hs
 ·rename_i cs k j h1 h2
  split at hs
  ·rename_i hc
   obtain ⟨p,h3,h4⟩:=Option.map_eq_some_iff.1 hs
   cases h4
   rw [h1] at hx
   rw [h2] at hi
   simp only [VR] at hx
   obtain ⟨us,h5,h6⟩:=hx
   obtain ⟨u,h7,h8⟩:=part_ok hok hsz h6 h3
   refine .pure hw (OpRun.val (by unfold execOp;rw [ho]) ?_) h8
   unfold Instr.index
   simp [h5,hi.int_inv,asIntOf_run,run_underlying hu,hc.1,hc.2.1,sizeOf_run hsz,h7]
  ·cases hs
 ·cases hs
theorem ok_indexStr (hw:WR P B0 w0 G st.heap w) (ht:VRL G w tm a.tmps.toList) {t:TypeId} {x i:Operand} {d g:Opd} (ho:o.op = .index t x i) (hu:P.underlying t=some .string) (hd:opd x=some d) (hg:opd i=some g)
  (hs:stepOp E rec tm st (.indexStr d g)=some (.val v st')):Yields P B0 w0 G st w v st' (OpRun P a o w):=by
 have hx:=opd_ok ht hd
 have hi:=opd_ok ht hg
 simp only [stepOp] at hs
 split at hs
 ·rename_i s k j h1 h2
  split at hs
  ·rename_i hc
   obtain ⟨p,h3,h4⟩:=Option.map_eq_some_iff.1 hs
   cases h4
   rw [h1] at hx
   rw [h2] at hi
   refine .pure hw (v := .int .u8 p.toNat) (OpRun.val (by unfold execOp;rw [ho]) ?_) VR.int_mk
   unfold Instr.index
   simp [hx.str_inv,hi.int_inv,asIntOf_run,run_underlying hu,hc,h3]
  ·cases hs
 ·cases hs
theorem bound_ok (ht:VRL G w tm a.tmps.toList) {x:Option Operand} {d:Option Opd} {k df y:Nat} {code:BoundsCode} (hd:opdO x=some d) (hb:bound tm d df=some k) (hle:d.isSome=true→k≤y) :
  match x with
  | some x=>(Instr.sliceBound (a.eval x) y code).run P w = .ok k w
  | none=>k=df:=by
 unfold opdO at hd
 cases x with
 | none=>cases hd;simp only [bound] at hb;cases hb;rfl
 | some x =>
  obtain ⟨d',h1,h2⟩:=Option.map_eq_some_iff.1 hd
  subst h2
  have hx:=opd_ok ht h1
  simp only [bound] at hb
  split at hb
  ·rename_i k' n hev
   split at hb
   ·rename_i h0
    cases hb
    rw [hev] at hx
    have:=hle rfl
    unfold Instr.sliceBound
    simp only [hx.int_inv,Sem.run_bind,asIntOf_run,Result.andThen_ok]
    rw [if_pos ⟨h0,by omega⟩]
    rfl
   ·cases hb
  ·cases hb
theorem bounds_run (ht:VRL G w tm a.tmps.toList) {lo hi:Option Operand} {dl dh:Option Opd} {n cap h l:Nat} (isS:Bool) (hl:opdO lo=some dl) (hh:opdO hi=some dh) (h1:bound tm dh n=some h) (h2:bound tm dl 0=some l) (hle:l≤h) (hn:h≤n) (hc:n≤cap) :
  (Instr.sliceBounds isS n cap (lo.map a.eval) (hi.map a.eval) none).run P w = .ok (l,h,cap) w:=by
 unfold Instr.sliceBounds
 have b1:=bound_ok (P:=P) (y:=cap) (code:=if isS then .sliceAcap else .sliceAlen) ht hh h1 (fun _=>by omega)
 have b2:=bound_ok (P:=P) (y:=h) (code := .sliceB) ht hl h2 (fun _=>hle)
 cases hi with
 | none =>
  simp only at b1
  subst b1
  cases lo with
  | none=>simp only at b2;subst b2;simp
  | some lo=>simp only at b2;simp [b2]
 | some hi =>
  simp only at b1
  cases lo with
  | none=>simp only at b2;subst b2;simp [b1]
  | some lo=>simp only at b2;simp [b1,b2]
theorem ok_slice (hw:WR P B0 w0 G st.heap w) (ht:VRL G w tm a.tmps.toList) {t e:TypeId} {x:Operand} {lo hi:Option Operand} {s:Nat} {d:Opd} {dl dh:Option Opd} (ho:o.op = .slice t x lo hi none) (hu:P.underlying t=some (.slice e)) (hsz:sizeT P e=some s) (_h1:1≤s) (hd:opd x=some d) (hl:opdO lo=some dl) (hh:opdO hi=some dh)
  (hs:stepOp E rec tm st (.slice s d dl dh)=some (.val v st')):Yields P B0 w0 G st w v st' (OpRun P a o w):=by
 have hx:=opd_ok ht hd
 simp only [stepOp] at hs
 split at hs
 ·rename_i hev
  split at hs
  ·rename_i b1 b2
   cases hs
   rw [hev] at hx
   simp only [VR] at hx
   have hb:=bounds_run (P:=P) (n:=0) (cap:=0) ht true hl hh b1 b2 (Nat.le_refl _) (Nat.le_refl _) (Nat.le_refl _)
   refine .pure hw (v := .slice none 0 0) (OpRun.val (by unfold execOp;rw [ho]) ?_) (by simp only [VR])
   unfold Instr.sliceAt
   simp only [Sem.run_bind,run_underlying hu,Result.andThen_ok,Instr.slice,hx,Option.map_none,hb,sizeOf_run hsz,Sem.run_pure]
   simp
  ·cases hs
 ·rename_i oo n cs hev
  split at hs
  ·rename_i h l b1 b2
   split at hs
   ·rename_i hc
    obtain ⟨c1,c2,c3⟩:=hc
    cases hs
    rw [hev] at hx
    simp only [VR] at hx
    rcases hx with ⟨b,off,cap,h3,h4,h5,h9,h6⟩|⟨rfl,rfl,rfl,x0,h3⟩
    rotate_left
    ·have hh0:h=0:=by omega
     have hl0:l=0:=by omega
     subst hh0 hl0
     have hb:=bounds_run (P:=P) (n:=0) (cap:=0) ht true hl hh b1 b2 c1 c2 (Nat.le_refl _)
     refine .pure hw (v := .slice (some x0) 0 0) (OpRun.val (by unfold execOp;rw [ho]) ?_) ?_
     ·unfold Instr.sliceAt
      simp only [Sem.run_bind,run_underlying hu,Result.andThen_ok,Instr.slice,h3,Option.map_none,hb,sizeOf_run hsz,Sem.run_pure]
      simp
     ·simp only [VR,Own.cut]
      simp
    have hb:=bounds_run (P:=P) (n:=n) (cap:=cap) ht true hl hh b1 b2 c1 c2 h4
    have hls:l*s≤cs.length:=by rw [c3];exact Nat.mul_le_mul_right _ (by omega)
    by_cases hcap:cap=l
    ·have hhl:h - l=0:=by omega
     refine .pure hw (v := .slice (some ⟨b,off,none⟩) (h - l) (cap - l)) (OpRun.val (by unfold execOp;rw [ho]) ?_) ?_
     ·unfold Instr.sliceAt
      simp only [Sem.run_bind,run_underlying hu,Result.andThen_ok,Instr.slice,h3,Option.map_none,hb,sizeOf_run hsz,Sem.run_pure,if_pos hcap]
     ·simp only [VR]
      have:((cs.drop (l*s)).take ((h - l)*s))=[]:=by rw [hhl];simp
      rw [this]
      refine .inl ⟨b,off,cap - l,rfl,by omega,fun hne=>absurd rfl hne,?_,by simp only [VRC]⟩
      cases oo with
      | shared=>trivial
      | tag t' z' =>
       obtain ⟨q,q1,_⟩:=h9
       simp only [Own.cut]
       split
       ·exact ⟨q,q1,.inl ⟨rfl,by omega⟩⟩
       ·trivial
    ·refine .pure hw (v := .slice (some ⟨b,off+l*s,none⟩) (h - l) (cap - l)) (OpRun.val (by unfold execOp;rw [ho]) ?_) ?_
     ·unfold Instr.sliceAt
      simp only [Sem.run_bind,run_underlying hu,Result.andThen_ok,Instr.slice,h3,Option.map_none,hb,sizeOf_run hsz,Sem.run_pure,if_neg hcap,Option.map_some,Addr.add_lit]
     ·simp only [VR]
      refine .inl ⟨b,off+l*s,cap - l,rfl,by omega,fun hne=>?_,?_,(h6.drop _ hls).take _⟩
      rotate_left
      ·cases oo with
       | shared=>trivial
       | tag t' z' =>
        obtain ⟨q,q1,q2⟩:=h9
        simp only [Own.cut]
        split
        ·rename_i hcut
         obtain ⟨rfl,hnone,_⟩:=hcut
         have hdh:dh=none:=by simpa using hnone
         rw [hdh] at b1
         simp only [bound,Option.some.injEq] at b1
         subst b1
         obtain ⟨q3,q4⟩:=q2.resolve_left (by omega)
         have e1:n*z' - l*z'=(n - l)*z':=(Nat.sub_mul n l z').symm
         have e2:(cap - l)*z'=cap*z' - l*z':=Nat.sub_mul cap l z'
         have e3:l*z'≤cap*z':=Nat.mul_le_mul_right _ (by omega)
         refine ⟨q,q1,.inr ⟨?_,?_⟩⟩
         ·rw [q3];simp only [List.length_take,List.length_drop,c3,Prod.mk.injEq,true_and];omega
         ·rw [e2,show off+l*z'+(cap*z' - l*z')=off+cap*z' by omega];exact q4
        ·trivial
      obtain ⟨m,h7,h8⟩:=h5 (by intro e;subst e;simp at hne)
      exact ⟨m,h7,by simp;omega⟩
   ·cases hs
  ·cases hs
 ·cases hs
theorem ok_sliceStr (hw:WR P B0 w0 G st.heap w) (ht:VRL G w tm a.tmps.toList) {t:TypeId} {x:Operand} {lo hi:Option Operand} {d:Opd} {dl dh:Option Opd} (ho:o.op = .slice t x lo hi none) (hu:P.underlying t=some .string) (hd:opd x=some d) (hl:opdO lo=some dl) (hh:opdO hi=some dh)
  (hs:stepOp E rec tm st (.sliceStr d dl dh)=some (.val v st')):Yields P B0 w0 G st w v st' (OpRun P a o w):=by
 have hx:=opd_ok ht hd
 simp only [stepOp] at hs
 split at hs
 ·rename_i s hev
  split at hs
  ·rename_i h l b1 b2
   split at hs
   ·rename_i hc
    cases hs
    rw [hev] at hx
    have hb:=bounds_run (P:=P) (n:=s.size) (cap:=s.size) ht false hl hh b1 b2 hc.1 hc.2 (Nat.le_refl _)
    refine .pure hw (v := .string (s.extract l h)) (OpRun.val (by unfold execOp;rw [ho]) ?_) VR.str_mk
    unfold Instr.sliceAt
    simp only [Sem.run_bind,run_underlying hu,Result.andThen_ok,Instr.slice,hx.str_inv,Option.map_none,Option.isSome_none,Bool.false_eq_true,if_false,hb,Sem.run_pure]
   ·cases hs
  ·cases hs
 ·cases hs
theorem mm_ok {mx:Bool} {p:PV}:∀ {ps:List PV} {x:PV} {xv:Value} {vs:List Value},mm mx x ps=some p→VR G w x xv→VRL G w ps vs→(mx=true→∃ u,(vs.foldlM Builtin.max2 xv).run P w = .ok u w∧VR G w p u)∧(mx=false→∃ u,(vs.foldlM Builtin.min2 xv).run P w = .ok u w∧VR G w p u)
 | [],x,xv,vs,h,hx,hv=>by
  simp only [mm] at h;cases h
  rw [VRL.nil_iff.1 hv]
  exact ⟨fun _=>⟨xv,rfl,hx⟩,fun _=>⟨xv,rfl,hx⟩⟩
 | q::ps,x,xv,vs,h,hx,hv=>by
  obtain ⟨y,vs',rfl,h1,h2⟩:=VRL.cons_iff.1 hv
  unfold mm at h
  split at h
  ·rename_i he;cases he
  ·rename_i k m k' m' r he
   cases he
   have hx':=hx.int_inv
   have hy':=h1.int_inv
   subst hx' hy'
   have ih:=mm_ok (mx:=mx) h VR.int_mk h2
   refine ⟨fun e=>?_,fun e=>?_⟩
   ·subst e
    obtain ⟨u,h3,h4⟩:=ih.1 rfl
    exact ⟨u,by simpa [Builtin.max2] using h3,h4⟩
   ·subst e
    obtain ⟨u,h3,h4⟩:=ih.2 rfl
    exact ⟨u,by simpa [Builtin.min2] using h3,h4⟩
  ·cases h
theorem ok_minmax (hw:WR P B0 w0 G st.heap w) (ht:VRL G w tm a.tmps.toList) {c:Call} {mx:Bool} {x:Opd} {ys:List Opd} (ho:o.op = .call c) (hc:c.callee = .builtin (if mx then .max else .min)) (har:opds c.args.toList=some (x::ys))
  (hs:stepOp E rec tm st (.minmax mx x ys)=some (.val v st')):Yields P B0 w0 G st w v st' (OpRun P a o w):=by
 have hx:=opds_ok ht har
 simp only [stepOp] at hs
 obtain ⟨p,h1,h2⟩:=Option.map_eq_some_iff.1 hs
 cases h2
 obtain ⟨xv,vs,h3,h4,h5⟩:=VRL.cons_iff.1 hx
 have:=mm_ok (P:=P) h1 h4 h5
 have hargs:(c.args.map a.eval).toList=xv::vs:=by simpa using h3
 cases mx with
 | true =>
  obtain ⟨u,h6,h7⟩:=this.1 rfl
  refine .pure hw (v:=u) ?_ h7
  unfold OpRun execOp
  rw [ho]
  simp only [if_true] at hc
  simp only [resolve,hc,Sem.run_bind,Sem.run_pure,Result.andThen_ok,invoke,builtin,Builtin.max_,hargs,h6]
 | false =>
  obtain ⟨u,h6,h7⟩:=this.2 rfl
  refine .pure hw (v:=u) ?_ h7
  unfold OpRun execOp
  rw [ho]
  simp only [Bool.false_eq_true,if_false] at hc
  simp only [resolve,hc,Sem.run_bind,Sem.run_pure,Result.andThen_ok,invoke,builtin,Builtin.min_,hargs,h6]
theorem ok_rangeStr (hw:WR P B0 w0 G st.heap w) (ht:VRL G w tm a.tmps.toList) {t:TypeId} {x:Operand} {d:Opd} (ho:o.op = .range t x) (hu:P.underlying t=some .string) (hd:opd x=some d)
  (hs:stepOp E rec tm st (.rangeStr d)=some (.val v st')):Yields P B0 w0 G st w v st' (OpRun P a o w):=by
 have hx:=opd_ok ht hd
 simp only [stepOp] at hs
 split at hs
 ·rename_i s hev
  cases hs
  rw [hev] at hx
  obtain ⟨h1,h2⟩:=alloc_obj hw (.iter s 0) (.stringIter s 0) (fun G' w' hp hh _=>hh)
  refine ⟨_,_,h1,h2 _,Nat.le_refl _,.inl ⟨.pointer (some ⟨w.heap.size,0,none⟩),OpRun.val (by unfold execOp;rw [ho]) ?_,by simp only [VR];exact ⟨_,upd_same _ _ _,rfl⟩⟩⟩
  unfold Instr.range
  simp [run_underlying hu,hx.str_inv]
 ·cases hs
theorem ok_nextStr (hw:WR P B0 w0 G st.heap w) (ht:VRL G w tm a.tmps.toList) {x:Operand} {d:Opd} (ho:o.op = .next x true) (hd:opd x=some d)
  (hs:stepOp E rec tm st (.nextStr d)=some (.val v st')):Yields P B0 w0 G st w v st' (OpRun P a o w):=by
 have hx:=opd_ok ht hd
 simp only [stepOp] at hs
 split at hs
 ·rename_i l hev
  rw [hev] at hx
  simp only [VR] at hx
  obtain ⟨b,h1,h2⟩:=hx
  split at hs
  ·rename_i s pos hh
   obtain ⟨_,hbl,_,_,ob,hob,hor⟩:=hw.obj h1
   rw [hh] at hob;cases hob
   have hor':w.heap[b]? = some (Obj.stringIter s pos):=hor
   have hget:(getObj b).run P w = .ok (.stringIter s pos) w:=by simp [getObj,Sem.run,hor']
   split at hs
   ·rename_i hlt
    cases hs
    obtain ⟨g1,g2⟩:=set_obj hw h1 (.iter s (pos+(Utf8.decode s pos).2)) (.stringIter s (pos+(Utf8.decode s pos).2)) (fun _ _ _ hh=>by rw [hor'] at hh;cases hh) (fun _ hh=>by rw [hor'] at hh;cases hh) (fun w' _ hh=>hh)
    have hset:(setObj b (.stringIter s (pos+(Utf8.decode s pos).2))).run P w = .ok () (w.putObj b (.stringIter s (pos+(Utf8.decode s pos).2))):=by
     simp [setObj,Sem.run,hor',World.putObj]
    refine ⟨G,_,g1,g2 _ (Nat.min_le_right _ _),Nat.min_le_left _ _,.inl ⟨.tuple #[.bool true,goInt pos,.int .i32 (Utf8.decode s pos).1],OpRun.val (by unfold execOp;rw [ho]) ?_,?_⟩⟩
    ·unfold Instr.next
     simp only [h2,Sem.run_bind,hget,Result.andThen_ok,hlt,if_true,Sem.run_ite,hset,Sem.run_pure]
    ·simp only [VR]
     exact ⟨_,rfl,VRL.cons VR.bool_mk (VRL.cons VR.int_mk (VRL.cons VR.int_mk (VRL.nil_iff.2 rfl)))⟩
   ·rename_i hlt
    cases hs
    refine .pure hw (v := .tuple #[.bool false]) (OpRun.val (by unfold execOp;rw [ho]) ?_) (by simp only [VR];exact ⟨_,rfl,VRL.cons VR.bool_mk (VRL.nil_iff.2 rfl)⟩)
    unfold Instr.next
    simp only [h2,Sem.run_bind,hget,Result.andThen_ok,hlt,if_false,Sem.run_ite,Sem.run_pure]
  ·cases hs
 ·cases hs
theorem ok_assertT (hw:WR P B0 w0 G st.heap w) (ht:VRL G w tm a.tmps.toList) {xt t:TypeId} {x:Operand} {d:Opd} {td:TypeDesc} {zv:Value} {z:PV} {i:TypeInfo} (ho:o.op = .typeAssert x xt t true) (hu:P.underlying t=some td) (hni:∀ ms,td ≠ .interface ms) (hi:P.info? t=some i) (hzi:i.zero=some zv) (hz:const0 zv=some z) (hd:opd x=some d)
  (hs:stepOp E rec tm st (.assertT t z d)=some (.val v st')):Yields P B0 w0 G st w v st' (OpRun P a o w):=by
 have hx:=opd_ok ht hd
 simp only [stepOp] at hs
 split at hs
 ·rename_i t' p hev
  cases hs
  rw [hev] at hx
  simp only [VR] at hx
  obtain ⟨y,h1,h2⟩:=hx
  have hzr:(zeroValue t).run P w = .ok zv w:=by unfold zeroValue;simp [run_typeInfo w hi,hzi]
  refine .pure hw (v:=if t'=t then .tuple #[y,.bool true] else .tuple #[zv,.bool false]) (OpRun.val (by unfold execOp;rw [ho]) ?_) ?_
  ·unfold Instr.typeAssert
   simp only [Sem.run_bind,run_underlying hu,Result.andThen_ok,h1]
   cases td <;> first
    | exact absurd rfl (hni _)
    | (by_cases hc:t'=t <;> simp [hc,hzr])
  ·by_cases hc:t'=t
   ·simp only [hc,if_true,VR]
    exact ⟨_,rfl,VRL.cons h2 (VRL.cons VR.bool_mk (VRL.nil_iff.2 rfl))⟩
   ·simp only [hc,if_false,VR]
    exact ⟨_,rfl,VRL.cons (const0_ok hz) (VRL.cons VR.bool_mk (VRL.nil_iff.2 rfl))⟩
 ·cases hs
end
end Go.Den
end

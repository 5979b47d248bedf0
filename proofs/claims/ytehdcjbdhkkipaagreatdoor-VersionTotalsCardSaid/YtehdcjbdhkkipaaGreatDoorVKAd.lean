/- Part of the proofs of laws of the package version. Texts: DenOpsC, DenOpsD. -/
import Derived.Test.YtehdcjbdhkkipaaGreatDoorVKAc
set_option linter.unusedSimpArgs false
set_option linter.unusedVariables false
section
namespace Go.Den
section
variable{P:Program}{B0:Nat}{w0:World}{G:Gh}{st:St}{w:World}{tm:List PV}{a:Act}{o:Oper}{E:Env}{rec:Rec}{v:PV}{st':St}
theorem VRL.of_get:∀ {ps:List PV} {vs:List Value},vs.length=ps.length→(∀ (i:Nat) (p:PV),ps[i]? = some p→∃ u,vs[i]? = some u∧VR G w p u)→VRL G w ps vs
 | [],vs,h,_=>by simp at h;subst h;exact VRL.nil_iff.2 rfl
 | c::cs,[],h,_=>by simp at h
 | c::cs,u::vs,h,hg=>by
  obtain⟨u',h1,h2⟩:=hg 0 c rfl
  simp at h1;subst h1
  refine VRL.cons h2 (VRL.of_get (by simpa using h) (fun i p hp=>?_))
  simpa using hg (i+1) p (by simpa using hp)
theorem repl_length(z:List PV):∀ n,(repl z n).length=n*z.length
 | 0=>by simp[repl]
 | n+1=>by simp[repl,repl_length z n,Nat.add_mul,Nat.add_comm]
theorem repl_get(z:List PV)(hz:0<z.length):∀ (n i:Nat),i<n*z.length→(repl z n)[i]? = z[i % z.length]?
 | 0,i,h=>by simp at h
 | n+1,i,h=>by
  simp only[repl]
  by_cases hi:i<z.length
  ·rw[List.getElem?_append_left hi,Nat.mod_eq_of_lt hi]
  ·rw[List.getElem?_append_right (by omega),repl_get z hz n _ (by rw[Nat.add_mul] at h;omega)]
   rw[← Nat.mod_eq_sub_mod (by omega)]
theorem repl_ok{z:List PV}{zs:Array Value}(h:VRL G w z zs.toList)(hz:0<z.length)(n:Nat):VRL G w (repl z n) ((Array.range (n*z.length)).map fun i=>zs[i % zs.size]!).toList:=by
 have hl:=h.length
 simp at hl
 refine VRL.of_get (by simp[repl_length]) (fun i p hp=>?_)
 have hi:i<n*z.length:=by rw[← repl_length z n];exact (List.getElem?_eq_some_iff.1 hp).1
 rw[repl_get z hz n i hi] at hp
 obtain⟨u,h1,h2⟩:=h.get hp
 refine⟨u,?_,h2⟩
 have h1':zs[i % z.length]? = some u:=by simpa using h1
 simp only[Array.toList_map,Array.toList_range,List.getElem?_map,List.getElem?_range hi,Option.map_some,hl]
 rw[Array.getElem!_eq_getD,Array.getD_eq_getD_getElem?,h1']
 rfl
theorem ok_buildSlice(hw:WR P B0 w0 G st.heap w)(ht:VRL G w tm a.tmps.toList){t e:TypeId}{n s:Nat}{parts:Array (Nat×Operand)}{z:List PV}{ds:List (Nat×Nat×Opd)}(ho:o.op = .buildSlice t n parts)
  (hu:P.underlying t=some (.slice e)) (hs':sizeT P e=some s) (hz:zeroT P e=some z) (hd:partsC P t parts.toList=some ds) (hn:n*s≤10000) (h1:1≤s) (hzl:z.length=s)
  (hs:stepOp E rec tm st (.buildSlice s n (repl z n) ds)=some (.val v st')):Yields P B0 w0 G st w v st' (OpRun P a o w):=by
 simp only[stepOp] at hs
 split at hs
 ·rename_i cs hf
  cases hs
  obtain⟨u,z1,z2,_⟩:=zeroT_run hz w
  have hzr:VRL G w z u.cells.toList:=cells0_ok z2
  have hus:u.cells.size=s:=by have:=hzr.length;simp at this;omega
  have hmap:(parts.map fun (i,x)=>(i,a.eval x)).toList=parts.toList.map fun (i,x)=>(i,a.eval x):=by simp
  have hrep:=repl_ok hzr (by omega) n
  rw[hzl] at hrep
  obtain⟨arr',h3,h4⟩:=fill_ok (P:=P) ht (t:=t) (fun i=>some (i*s,s)) (fun i x hx=>by
   unfold placeOf at hx
   simp only[hu] at hx
   obtain⟨inf,h5,h6⟩:=Option.map_eq_some_iff.1 hx
   have:sizeT P e=some inf.size:=by unfold sizeT;rw[h5];rfl
   rw[hs'] at this;cases this
   rw[← h6]) hd hrep hf
  have hcl:=h4.length
  have hlen:arr'.size=cs.length:=by simpa using hcl
  have hlen2:cs.length=(repl z n).length:=by
   have:∀ {ds:List (Nat×Nat×Opd)} {cs cs':List PV},fillD tm cs ds=some cs'→cs'.length=cs.length:=by
    intro ds
    induction ds with
    | nil=>intro cs cs' h;simp only[fillD] at h;cases h;rfl
    | cons d ds ih =>
     intro cs cs' h
     obtain⟨off,size,x⟩:=d
     simp only[fillD] at h
     split at h
     ·rename_i hc
      rw[ih h]
      simp[splice];omega
     ·cases h
   exact this hf
  obtain⟨g1,g2,g3⟩:=alloc_row hw false (cs.map PV.share) arr' e (0,0) (by simp;omega) (Thawed.zero _) (fun G' w' hp hh=>VRC.share (VRC.of_row hh (h4.mono hp) (fun j x hj=>by simpa using hj)))
  refine⟨_,_,g1,g2 _,Nat.le_refl _,.inl ⟨.slice (some ⟨w.heap.size,0,none⟩) n n,?_,?_⟩⟩
  ·refine OpRun.val (by unfold execOp;rw[ho]) ?_
   unfold Instr.buildSlice
   by_cases h0:n*s=0
   ·have hn0:n=0:=by
     rcases Nat.mul_eq_zero.1 h0 with h|h
     ·exact h
     ·omega
    subst hn0
    have hr0:Array.range 0=#[]:=rfl
    rw[Nat.zero_mul,hr0,Array.map_empty] at h3
    have h3':Instr.fill (fun i=>some (i*s,s)) #[] (parts.toList.map fun (i,x)=>(i,a.eval x))=some arr':=h3
    simp only[Sem.run_bind,run_underlying hu,Result.andThen_ok,sizeOf_run hs',Sem.run_ite,Nat.zero_mul,gt_iff_lt,if_neg (show ¬ (2 ^ 24<0) by omega),if_true,Sem.run_pure,hr0,hmap,Array.map_empty,h3',newRow,run_newObj,World.alloc_eq]
   ·have hbig:¬ (2 ^ 24<n*s):=by omega
    simp only[Sem.run_bind,run_underlying hu,Result.andThen_ok,sizeOf_run hs',Sem.run_ite,gt_iff_lt,if_neg hbig,if_neg h0,z1,Sem.run_pure,hmap,h3,newRow,run_newObj,World.alloc_eq]
  ·simp only[VR]
   refine .inl ⟨w.heap.size,0,n,rfl,Nat.le_refl _,fun _=>⟨_,upd_same _ _ _,by simp⟩,⟨rfl,by simpa using upd_same _ _ _,?_⟩,by simpa using g3⟩
   refine⟨arr',e,(0,0),heap_alloc_new _ _,?_⟩
   rw[hlen,hlen2,repl_length,hzl]
   exact Nat.le_refl _
 ·cases hs
theorem sureAddr_run{ad:Addr}(w:World):(Instr.sureAddr (.pointer (some ad))).run P w = .ok ad w:=rfl
theorem WR.row(hw:WR P B0 w0 G st.heap w){l b:Nat}{cs:List PV}(hb:G.be l=some b)(hh:st.heap[l]? = some (.var cs)) :
  ∃ (arr:Array Value) (T:TypeId),w.heap[b]? = some (Obj.cells arr T (0,0))∧VRL G w cs arr.toList:=by
 obtain⟨_,_,_,_,o,h1,h2⟩:=hw.obj hb
 rw[hh] at h1;cases h1
 exact h2
theorem WR.arr(hw:WR P B0 w0 G st.heap w){t b e:Nat}{cs:List PV}(hb:G.tg t=some (b,e))(hh:st.heap[t]? = some (.arr cs)) :
  G.cm b=none∧e=cs.length∧(∃ (arr:Array Value) (T:TypeId) (fr:Nat×Nat),w.heap[b]? = some (Obj.cells arr T fr)∧e≤arr.size∧Thawed fr arr.size)∧VRC G w cs b 0:=by
 have:=(hw.tag hb).2.2
 rw[hh] at this
 exact this
theorem ok_load(hw:WR P B0 w0 G st.heap w)(ht:VRL G w tm a.tmps.toList){t:TypeId}{x:Operand}{s:Nat}{d:Opd}(ho:o.op = .load t x)(hok:okT P t=true)(hsz:sizeT P t=some s)(hd:opd x=some d)
  (hs:stepOp E rec tm st (.load (aggT P t) s d)=some (.val v st')):Yields P B0 w0 G st w v st' (OpRun P a o w):=by
 have hx:=opd_ok ht hd
 have fin:∀ {b off:Nat} {cs:List PV} {p:PV},a.eval x = .pointer (some ⟨b,off,none⟩)→VRC G w cs b off→rdPart (aggT P t) s cs=some p→v=p→st'=st→Yields P B0 w0 G st w v st' (OpRun P a o w):=by
  intro b off cs p h1 h2 h3 h4 h5
  subst h4;subst h5
  obtain⟨u,h6,h7⟩:=loadVar_ok hok hsz h2 h3
  refine .pure hw (OpRun.val (by unfold execOp;rw[ho]) ?_) h7
  unfold Instr.loadAt
  simp[h1,sureAddr_run,h6]
 simp only[stepOp] at hs
 split at hs
 ·rename_i l off hev
  rw[hev] at hx
  simp only[VR] at hx
  obtain⟨b,h1,h2⟩:=hx
  split at hs
  ·rename_i cs hh
   split at hs
   ·rename_i hle
    obtain⟨p,h3,h4⟩:=Option.map_eq_some_iff.1 hs
    cases h4
    obtain⟨arr,T,h5,h6⟩:=hw.row h1 hh
    refine fin h2 (cs:=cs.drop off) ?_ h3 rfl rfl
    exact VRC.of_row h5 (h6.drop off) (fun j u hj=>by simpa using hj)
   ·cases hs
  ·cases hs
 ·rename_i cs hev
  rw[hev] at hx
  simp only[VR] at hx
  obtain⟨b,off,h1,_,h2⟩:=hx
  obtain⟨p,h3,h4⟩:=Option.map_eq_some_iff.1 hs
  cases h4
  exact fin h1 h2 h3 rfl rfl
 ·rename_i l off hev
  rw[hev] at hx
  simp only[VR] at hx
  obtain⟨b,e,h1,h2⟩:=hx
  split at hs
  ·rename_i cs hh
   split at hs
   ·rename_i hle
    obtain⟨p,h3,h4⟩:=Option.map_eq_some_iff.1 hs
    cases h4
    obtain⟨_,_,_,h6⟩:=hw.arr h1 hh
    have:=h6.drop off hle
    rw[Nat.zero_add] at this
    exact fin h2 this h3 rfl rfl
   ·cases hs
  ·cases hs
 ·cases hs
theorem setRow_eq_put{w:World}{g:Nat}{old cs:Array Value}{t:TypeId}{fr:Nat×Nat}(hg:w.heap[g]? = some (Obj.cells old t fr)):w.setRow g cs=w.putObj g (Obj.cells cs t fr):=by
 have hlt:=lt_of_heap hg
 have hv:w.heap[g]=Obj.cells old t fr:=(Array.getElem?_eq_some_iff.1 hg).2
 unfold World.setRow World.putObj
 congr 1
 apply Array.ext
 ·simp
 ·intro i h1 h2
  have h3:i<w.heap.size:=by simpa using h2
  simp only[Array.getElem_modify,Array.getElem_setIfInBounds h3]
  by_cases h:g=i
  ·subst h;simp[hv]
  ·simp[h]
theorem frozen_thawed{w:World}{g i:Nat}{old:Array Value}{t:TypeId}{fr:Nat×Nat}(hg:w.heap[g]? = some (Obj.cells old t fr))(hf:Thawed fr old.size)(hi:i<old.size):w.frozen? ⟨g,i,none⟩=false:=by
 unfold World.frozen?
 simp only[hg]
 exact hf i hi
theorem run_storeCells_th(g o:Nat)(t:TypeId)(fr:Nat×Nat):∀ (vs:List Value) (i:Nat) (cur:Array Value) (w:World),w.heap[g]? = some (Obj.cells cur t fr)→Thawed fr cur.size→o+i+vs.length≤cur.size→(∀ v∈vs,v.oneCell'=true) →
  (storeCells ⟨g,o,none⟩ vs i).run P w = .ok () (w.putObj g (Obj.cells (cur.toList.take (o+i)++vs++cur.toList.drop (o+i+vs.length)).toArray t fr))
 | [],i,cur,w,hg,_,_,_=>by
  simp only[storeCells,List.append_nil,List.length_nil,Nat.add_zero,List.take_append_drop,Array.toArray_toList]
  rw[← setRow_eq_put hg,setRow_self w g cur t fr hg]
  rfl
 | v::rest,i,cur,w,hg,hf,hl,h1=>by
  have hi:o+i<cur.size:=by simp at hl;omega
  have hcell:w.cell? ⟨g,o+i,none⟩=some cur[o+i]:=by rw[cell_row hg];simp[hi]
  have hfro:=frozen_thawed hg hf hi
  have hst:(store ((⟨g,o,none⟩:Addr).add i) v).run P w = .ok () (w.putObj g (Obj.cells (cur.setIfInBounds (o+i) v) t fr)):=by
   rw[Addr.add_lit,run_store P w _ v _ (h1 v (by simp)),hcell]
   simp[hfro,setCell_eq_setRow w g (o+i) cur t fr v hg,setRow_eq_put hg]
  have hlt:=lt_of_heap hg
  have ih:=run_storeCells_th g o t fr rest (i+1) (cur.setIfInBounds (o+i) v) (w.putObj g (Obj.cells (cur.setIfInBounds (o+i) v) t fr)) (heap_put_same hlt) (by simpa using hf) (by simp at hl ⊢;omega) (fun x hx=>h1 x (by simp[hx]))
  simp only[storeCells,Sem.run_bind,hst,Result.andThen_ok,ih]
  congr 1
  unfold World.putObj
  simp only[Array.setIfInBounds_setIfInBounds]
  congr 3
  have e:=list_seg_step cur.toList (o+i) v rest (by simp at hl ⊢;omega)
  simpa[Array.toList_setIfInBounds,Nat.add_assoc] using e
theorem oneCell_of{p:PV}{u:Value}(h:VR G w p u)(hc:p.isCell=true):u.oneCell'=true:=by
 cases p <;> simp only[VR] at h <;> first
  | (subst h;rfl)
  | (rcases h with ⟨_,_,_,rfl,_⟩|⟨_,_,_,_,rfl⟩ <;> rfl)
  | (obtain⟨_,_,rfl⟩:=h;rfl)
  | (obtain⟨_,_,_,rfl,_⟩:=h;rfl)
  | (obtain⟨_,_,_,rfl⟩:=h;rfl)
  | (obtain⟨_,_,rfl,_⟩:=h;rfl)
  | (obtain⟨_,_,_,_,rfl,_⟩:=h;rfl)
  | (simp[PV.isCell] at hc;done)
  | (obtain⟨_,rfl,_⟩:=h;rfl)
theorem oneCells_of:∀ {ps:List PV} {vs:List Value},VRL G w ps vs→ps.all PV.isCell=true→∀ u∈vs,u.oneCell'=true
 | [],vs,h,_,u,hu=>by rw[VRL.nil_iff.1 h] at hu;cases hu
 | c::cs,vs,h,hc,u,hu=>by
  obtain⟨x,vs',rfl,h1,h2⟩:=VRL.cons_iff.1 h
  simp only[List.all_cons,Bool.and_eq_true] at hc
  rcases List.mem_cons.1 hu with rfl|hu
  ·exact oneCell_of h1 hc.1
  ·exact oneCells_of h2 hc.2 u hu
theorem ok_store(hw:WR P B0 w0 G st.heap w)(ht:VRL G w tm a.tmps.toList){t:TypeId}{x y:Operand}{s:Nat}{d e:Opd}(ho:o.op = .store t x y)(hsz:sizeT P t=some s)(hd:opd x=some d)(he:opd y=some e)
  (hs:stepOp E rec tm st (.store s d e)=some (.val v st')):Yields P B0 w0 G st w v st' (OpRun P a o w):=by
 have hx:=opd_ok ht hd
 have hy:=(opd_ok ht he).cells
 have hyl:=hy.length
 have core:∀ {b off:Nat} {arr:Array Value} {T:TypeId} {fr:Nat×Nat},a.eval x = .pointer (some ⟨b,off,none⟩)→w.heap[b]? = some (Obj.cells arr T fr)→Thawed fr arr.size→(e.ev tm).cells.length=s→off+s≤arr.size→(e.ev tm).cells.all PV.isCell=true →
   OpRun P a o w = .ok .skip (w.putObj b (Obj.cells (arr.toList.take off++(a.eval y).cells.toList++arr.toList.drop (off+(a.eval y).cells.toList.length)).toArray T fr)):=by
  intro b off arr T fr h1 h2 h3 h4 h5 h6
  refine OpRun.unit (by unfold execOp;rw[ho]) ?_
  unfold Instr.storeAt storeVar
  have hcs:(a.eval y).cells.size=s:=by rw[← Array.length_toList,hyl,h4]
  have:=run_storeCells_th (P:=P) b off T fr (a.eval y).cells.toList 0 arr w h2 h3 (by rw[hyl,h4];simpa using h5) (oneCells_of hy h6)
  simp only[Nat.add_zero] at this
  simp only[h1,Sem.run_bind,sureAddr_run,Result.andThen_ok,sizeOf_run hsz,hcs,ne_eq,not_true_eq_false,if_false,this,Sem.run_ite]
 simp only[stepOp] at hs
 split at hs
 ·rename_i l off hev
  rw[hev] at hx
  simp only[VR] at hx
  obtain⟨b,h1,h2⟩:=hx
  split at hs
  ·rename_i cs hh
   split at hs
   ·rename_i hc
    obtain⟨c1,c2,c3⟩:=hc
    cases hs
    obtain⟨arr,T,h5,h6⟩:=hw.row h1 hh
    have hl:=h6.length
    simp at hl
    have hrun:=core h2 h5 (Thawed.zero _) c1 (by omega) c3
    have hspl:=h6.splice (off:=off) hy
    obtain⟨g1,g2⟩:=set_obj hw h1 (.var (splice cs off (e.ev tm).cells)) (Obj.cells (arr.toList.take off++(a.eval y).cells.toList++arr.toList.drop (off+(a.eval y).cells.toList.length)).toArray T (0,0))
     (fun ar T' fr' hh=>by
      rw[h5] at hh;cases hh
      refine⟨_,rfl,?_⟩
      simp only[List.size_toArray,List.length_append,List.length_take,List.length_drop,Array.length_toList] at hyl ⊢
      omega)
     (fun r hh=>by rw[h5] at hh;cases hh)
     (fun w' hp hh=>⟨_,_,hh,hspl.mono hp⟩)
    exact⟨G,_,g1,g2 _ (Nat.min_le_right _ _),Nat.min_le_left _ _,.inr ⟨hrun,rfl⟩⟩
   ·cases hs
  ·cases hs
 ·rename_i l off hev
  rw[hev] at hx
  simp only[VR] at hx
  obtain⟨b,e',h1,h2⟩:=hx
  split at hs
  ·rename_i cs hh
   split at hs
   ·rename_i hc
    obtain⟨c1,c2,c3⟩:=hc
    cases hs
    obtain⟨k1,k2,⟨arr,T,fr,k3,k4,k5⟩,k6⟩:=hw.arr h1 hh
    have hrun:=core h2 k3 k5 c1 (by omega) c3
    obtain⟨vs,m1,m2⟩:=k6.vals
    have hvl:=m1.length
    have hspl:=m1.splice (off:=off) hy
    obtain⟨g1,g2⟩:=store_arr hw h1 hh (cs':=splice cs off (e.ev tm).cells) (by simp[splice];omega) arr (arr.toList.take off++(a.eval y).cells.toList++arr.toList.drop (off+(a.eval y).cells.toList.length)).toArray T fr k3
     (by
      simp only[List.size_toArray,List.length_append,List.length_take,List.length_drop,Array.length_toList] at hyl ⊢
      omega)
     (fun w' hp hh'=>VRC.of_row hh' (hspl.mono hp) (fun j u hj=>by
      obtain⟨rest,hrest⟩:∃ rest,arr.toList=vs++rest:=by
       refine⟨arr.toList.drop vs.length,?_⟩
       have:arr.toList.take vs.length=vs:=by
        apply List.ext_getElem?
        intro i
        rw[List.getElem?_take]
        split
        ·rename_i hi
         have:=m2 i vs[i] (List.getElem?_eq_getElem hi)
         rw[Addr.add_lit,cell_row k3] at this
         rw[List.getElem?_eq_getElem hi,← this]
         simp
        ·rw[List.getElem?_eq_none (by omega)]
       rw[← this]
       simp only[List.length_take,Array.length_toList]
       rw[show min vs.length arr.size=vs.length from by omega]
       rw[List.take_append_drop]
      rw[Nat.zero_add]
      simp only[List.getElem?_toArray]
      simp only[Array.length_toList] at hyl
      rw[hrest,List.take_append_of_le_length (by omega),List.drop_append_of_le_length (by simp;omega),← List.append_assoc]
      exact (List.getElem?_append_left (List.getElem?_eq_some_iff.1 hj).1).trans hj))
    exact⟨G,_,g1,g2 _ (Nat.min_le_right _ _),Nat.min_le_left _ _,.inr ⟨hrun,rfl⟩⟩
   ·cases hs
  ·cases hs
 ·cases hs
end
end Go.Den
end
section
namespace Go.Den
section
variable{P:Program}{B0:Nat}{w0:World}{G:Gh}{st:St}{w:World}{tm:List PV}{a:Act}{o:Oper}{E:Env}{rec:Rec}{v:PV}{st':St}
theorem ok_nilCheck(hw:WR P B0 w0 G st.heap w)(ht:VRL G w tm a.tmps.toList){x:Operand}{d:Opd}(ho:o.op = .nilCheck x)(hd:opd x=some d)
  (hs:stepOp E rec tm st (.nilCheck d)=some (.val v st')):Yields P B0 w0 G st w v st' (OpRun P a o w):=by
 have hx:=opd_ok ht hd
 simp only[stepOp] at hs
 split at hs
 ·rename_i l off hev
  cases hs
  rw[hev] at hx
  have h0:=hx
  simp only[VR] at hx
  obtain⟨b,h1,h2⟩:=hx
  exact .pure hw (v:=a.eval x) (by unfold OpRun execOp;rw[ho];simp[h2]) h0
 ·rename_i cs hev
  cases hs
  rw[hev] at hx
  have h0:=hx
  simp only[VR] at hx
  obtain⟨b,off,h2,_⟩:=hx
  exact .pure hw (v:=a.eval x) (by unfold OpRun execOp;rw[ho];simp[h2]) h0
 ·rename_i f fa fc hev
  cases hs
  rw[hev] at hx
  have h0:=hx
  simp only[VR] at hx
  obtain⟨a',c',h2,_⟩:=hx
  exact .pure hw (v:=a.eval x) (by unfold OpRun execOp;rw[ho];simp[h2]) h0
 ·cases hs
theorem ok_binI(hw:WR P B0 w0 G st.heap w)(ht:VRL G w tm a.tmps.toList){op:BinOp}{t u:TypeId}{x y:Operand}{d e:Opd}(ho:o.op = .binOp op t x y u)(hd:opd x=some d)(he:opd y=some e)
  (hs:stepOp E rec tm st (.binI op d e)=some (.val v st')):Yields P B0 w0 G st w v st' (OpRun P a o w):=by
 have hx:=opd_ok ht hd
 have hy:=opd_ok ht he
 simp only[stepOp] at hs
 split at hs
 ·rename_i k m k' m' h1 h2
  split at hs
  ·rename_i hk
   subst hk
   obtain⟨p,h3,h4⟩:=Option.map_eq_some_iff.1 hs
   cases h4
   rw[h1] at hx
   rw[h2] at hy
   obtain⟨u,h5,h6⟩:=binI_ok (P:=P) (G:=G) (w:=w) (t:=t) h3 x y
   refine .pure hw (OpRun.val (by unfold execOp;rw[ho]) ?_) h6
   rw[hx.int_inv,hy.int_inv]
   exact h5
  ·cases hs
 ·cases hs
theorem ok_binS(hw:WR P B0 w0 G st.heap w)(ht:VRL G w tm a.tmps.toList){op:BinOp}{t u:TypeId}{x y:Operand}{d e:Opd}(ho:o.op = .binOp op t x y u)(hd:opd x=some d)(he:opd y=some e)
  (hs:stepOp E rec tm st (.binS op d e)=some (.val v st')):Yields P B0 w0 G st w v st' (OpRun P a o w):=by
 have hx:=opd_ok ht hd
 have hy:=opd_ok ht he
 simp only[stepOp] at hs
 split at hs
 ·rename_i s s' h1 h2
  obtain⟨p,h3,h4⟩:=Option.map_eq_some_iff.1 hs
  cases h4
  rw[h1] at hx
  rw[h2] at hy
  have hg:(eqGuard op t x y (.string s) (.string s')).run P w = .ok () w:=by unfold eqGuard;cases op <;> rfl
  have key:∃ u,(binOp op t (.string s) (.string s')).run P w = .ok u w∧VR G w v u:=by
   unfold binS at h3
   split at h3
   ·split at h3
    ·rename_i hle
     cases h3
     refine⟨_,?_,VR.str_mk⟩
     have h9:(s.size:Int)+(s'.size:Int)≤9223372036854775807:=by omega
     simp[binOp,Op.stringOp,h9]
    ·cases h3
   ·cases h3;exact⟨_,by simp[binOp,Op.stringOp],VR.bool_mk⟩
   ·cases h3;exact⟨_,by simp[binOp,Op.stringOp],VR.bool_mk⟩
   ·cases h3
  obtain⟨u,h5,h6⟩:=key
  refine .pure hw (OpRun.val (by unfold execOp;rw[ho]) ?_) h6
  rw[hx.str_inv,hy.str_inv]
  simp[hg,h5]
 ·cases hs
theorem ok_binB(hw:WR P B0 w0 G st.heap w)(ht:VRL G w tm a.tmps.toList){op:BinOp}{t u:TypeId}{x y:Operand}{d e:Opd}{neg:Bool}(ho:o.op = .binOp op t x y u)(hu:P.underlying t=some .bool)(hop:op=if neg then .neq else .eql)(hd:opd x=some d)(he:opd y=some e)
  (hs:stepOp E rec tm st (.binB neg d e)=some (.val v st')):Yields P B0 w0 G st w v st' (OpRun P a o w):=by
 have hx:=opd_ok ht hd
 have hy:=opd_ok ht he
 simp only[stepOp] at hs
 split at hs
 ·rename_i s s' h1 h2
  cases hs
  rw[h1] at hx
  rw[h2] at hy
  have hg:∀ op,(eqGuard op t x y (.bool s) (.bool s')).run P w = .ok () w:=by intro op;unfold eqGuard;cases op <;> rfl
  refine .pure hw (OpRun.val (u := .bool (if neg then !(s==s') else s==s')) (by unfold execOp;rw[ho]) ?_) VR.bool_mk
  rw[hx.bool_inv,hy.bool_inv]
  have heq:(Op.equalIn 10000 t (.bool s) (.bool s')).run P w = .ok (s==s') w:=run_equalIn_bool' (P:=P) w 9999 t s s' hu
  subst hop
  cases neg <;> simp[hg,binOp,Op.equal,Op.maxDepth,heq]
 ·cases hs
theorem ints_inv:∀ {ps:List PV} {l:List Int} {vs:List Value},ints ps=some l→VRL G w ps vs→vs=l.map (Value.int .i64)
 | [],l,vs,h,hv=>by simp only[ints] at h;cases h;exact VRL.nil_iff.1 hv
 | p::ps,l,vs,h,hv=>by
  obtain⟨u,vs',rfl,h1,h2⟩:=VRL.cons_iff.1 hv
  unfold ints at h
  split at h
  ·rename_i h0;cases h0
  ·rename_i n r h0
   cases h0
   obtain⟨l',h3,h4⟩:=Option.map_eq_some_iff.1 h
   subst h4
   rw[h1.int_inv,ints_inv h3 h2]
   rfl
  ·cases h
theorem intFields_spec{fs:List Field}(h:intFields P fs=true):∀ f∈fs,f.name≠ "_"∧P.underlying f.type=some (.int .i64):=by
 intro f hf
 unfold intFields at h
 have:=List.all_eq_true.1 h f hf
 simp only[Bool.and_eq_true,bne_iff_ne,ne_eq] at this
 refine⟨this.1,?_⟩
 have h2:=this.2
 split at h2
 ·assumption
 ·cases h2
theorem eqFields_ok{d:Nat}{xs ys:Array Value}:∀ (fs:List Field) (k:Nat) (l m:List Int),intFields P fs=true→offsFrom k fs=true→l.length=fs.length→m.length=fs.length →
  (∀ i n,l[i]? = some n→xs[k+i]? = some (.int .i64 n))→(∀ i n,m[i]? = some n→ys[k+i]? = some (.int .i64 n))→(Op.eqFields (d+1) xs ys fs).run P w = .ok (l==m) w
 | [],k,l,m,_,_,hl,hm,_,_=>by
  have:l=[]:=List.eq_nil_of_length_eq_zero (by simpa using hl)
  have:m=[]:=List.eq_nil_of_length_eq_zero (by simpa using hm)
  subst l;subst m
  simp[Op.eqFields]
 | f::fs,k,[],m,_,_,hl,_,_,_=>by simp at hl
 | f::fs,k,n::l,[],_,_,_,hm,_,_=>by simp at hm
 | f::fs,k,n::l,n'::m,hi,hoff,hl,hm,hx,hy=>by
  obtain⟨h1,h2⟩:=intFields_spec hi f (by simp)
  simp only[offsFrom,Bool.and_eq_true,beq_iff_eq] at hoff
  have hagg:(isAgg f.type).run P w = .ok false w:=by unfold isAgg;simp[run_underlying h2]
  have p1:(part f.type xs f.offset).run P w = .ok (.int .i64 n) w:=by
   unfold part;simp[hagg,hoff.1,show xs[k]? = some (.int .i64 n) from hx 0 n rfl]
  have p2:(part f.type ys f.offset).run P w = .ok (.int .i64 n') w:=by
   unfold part;simp[hagg,hoff.1,show ys[k]? = some (.int .i64 n') from hy 0 n' rfl]
  have p3:=run_equalIn_int (P:=P) w d f.type .i64 .i64 n n' h2
  have hi':intFields P fs=true:=by
   unfold intFields at hi ⊢
   rw[List.all_cons,Bool.and_eq_true] at hi
   exact hi.2
  have ih:=eqFields_ok (d:=d) (xs:=xs) (ys:=ys) fs (k+1) l m hi' hoff.2 (by simpa using hl) (by simpa using hm)
   (fun i q hq=>by have:=hx (i+1) q (by simpa using hq);rwa [show k+(i+1)=k+1+i from by omega] at this)
   (fun i q hq=>by have:=hy (i+1) q (by simpa using hq);rwa [show k+(i+1)=k+1+i from by omega] at this)
  simp only[Op.eqFields,ne_eq,h1,not_false_eq_true,if_true,Sem.run_bind,p1,p2,p3,Result.andThen_ok,Sem.run_ite,ih,Sem.run_pure]
  by_cases hn:n=n'
  ·subst hn;simp
  ·simp[hn]
theorem equal_struct{t:TypeId}{fields:Array Field}{xs ys:Array Value}{l m:List Int}(hu:P.underlying t=some (.struct fields))(hi:intFields P fields.toList=true)(hoff:offsFrom 0 fields.toList=true)(hst:P.stoodInHeld t=false)
  (hl:l.length=fields.size) (hm:m.length=fields.size) (hx:xs.toList=l.map (Value.int .i64)) (hy:ys.toList=m.map (Value.int .i64)) :
  (Op.equalIn 10000 t (.agg xs) (.agg ys)).run P w = .ok (l==m) w:=by
 have hf:P.fieldsOf t=fields:=by unfold Program.fieldsOf;rw[hu]
 rw[show (10000:Nat)=9999+1 from rfl,run_equalIn_struct w 9999 t xs ys (by rw[hf];exact hu) hst,hf]
 refine eqFields_ok (d:=9998) fields.toList 0 l m hi hoff (by simpa using hl) (by simpa using hm) (fun i n hn=>?_) (fun i n hn=>?_)
 ·rw[Nat.zero_add,← Array.getElem?_toList,hx];simp[hn]
 ·rw[Nat.zero_add,← Array.getElem?_toList,hy];simp[hn]
theorem ok_eqAgg(hw:WR P B0 w0 G st.heap w)(ht:VRL G w tm a.tmps.toList){op:BinOp}{t u:TypeId}{x y:Operand}{d e:Opd}{neg:Bool}{fields:Array Field}(ho:o.op = .binOp op t x y u)(hu:P.underlying t=some (.struct fields))
  (hi:intFields P fields.toList=true) (hoff:offsFrom 0 fields.toList=true) (hst:P.stoodInHeld t=false) (hg0:P.eqGuardType P.depth t=false) (hop:op=if neg then .neq else .eql) (hd:opd x=some d) (he:opd y=some e)
  (hs:stepOp E rec tm st (.eqAgg neg fields.size d e)=some (.val v st')):Yields P B0 w0 G st w v st' (OpRun P a o w):=by
 have hx:=opd_ok ht hd
 have hy:=opd_ok ht he
 simp only[stepOp] at hs
 split at hs
 ·rename_i s s' h1 h2
  rw[h1] at hx
  rw[h2] at hy
  simp only[VR] at hx hy
  obtain⟨xs,hx1,hx2⟩:=hx
  obtain⟨ys,hy1,hy2⟩:=hy
  split at hs
  ·rename_i l m hl hm
   split at hs
   ·rename_i hlen
    cases hs
    have heq:=equal_struct (P:=P) (w:=w) hu hi hoff hst hlen.1 hlen.2 (ints_inv hl hx2) (ints_inv hm hy2)
    have hg:=run_eqGuard_agg (P:=P) w op t x y xs ys hg0
    refine .pure hw (OpRun.val (u := .bool (if neg then !(l==m) else l==m)) (by unfold execOp;rw[ho]) ?_) VR.bool_mk
    rw[hx1,hy1]
    simp only[Sem.run_bind,hg,Result.andThen_ok]
    subst hop
    cases neg <;> simp[binOp,Op.equal,Op.maxDepth,heq]
   ·cases hs
  ·cases hs
 ·cases hs
theorem const_nilS{y:Operand}(h:opd y=some (.c .nilslice)):y = .const (.slice none 0 0):=by
 unfold opd at h
 split at h
 ·cases h
 ·rename_i v
  obtain⟨p,h1,h2⟩:=Option.map_eq_some_iff.1 h
  cases h2
  unfold const0 at h1
  split at h1
  ·rename_i cs;obtain⟨_,_,h3⟩:=Option.map_eq_some_iff.1 h1;cases h3
  ·unfold cell0 at h1
   split at h1 <;> first|rfl|cases h1
 ·cases h
 ·cases h
theorem ok_isNilS(hw:WR P B0 w0 G st.heap w)(ht:VRL G w tm a.tmps.toList){op:BinOp}{t u e:TypeId}{x y:Operand}{d:Opd}{neg:Bool}(ho:o.op = .binOp op t x y u)(hu:P.underlying t=some (.slice e))(hop:op=if neg then .neq else .eql)(hd:opd x=some d)(he:opd y=some (.c .nilslice))
  (hs:stepOp E rec tm st (.isNilS neg d)=some (.val v st')):Yields P B0 w0 G st w v st' (OpRun P a o w):=by
 have hx:=opd_ok ht hd
 have hy:=const_nilS he
 subst hy
 have core:∀ (b:Option Addr) (n c:Nat),a.eval x = .slice b n c→OpRun P a o w = .ok (.value (.bool (if neg then !b.isNone else b.isNone))) w:=by
  intro b n c hb
  refine OpRun.val (by unfold execOp;rw[ho]) ?_
  have hg:(eqGuard op t x (.const (.slice none 0 0)) (.slice b n c) (.slice none 0 0)).run P w = .ok () w:=by unfold eqGuard;cases op <;> rfl
  have heq0:∀ d,(Op.equalIn (d+1) t (.slice b n c) (.slice none 0 0)).run P w = .ok b.isNone w:=by
   intro d
   cases b <;> simp[Op.equalIn,run_underlying hu]
  have heq:(Op.equalIn 10000 t (.slice b n c) (.slice none 0 0)).run P w = .ok b.isNone w:=heq0 9999
  rw[hb]
  simp only[Act.eval,Sem.run_bind,hg,Result.andThen_ok]
  subst hop
  cases neg <;> simp[binOp,Op.equal,Op.maxDepth,heq]
 simp only[stepOp] at hs
 split at hs
 ·rename_i hev
  cases hs
  rw[hev] at hx
  simp only[VR] at hx
  refine .pure hw (core none 0 0 hx) ?_
  cases neg <;> exact VR.bool_mk
 ·rename_i o' n cs hev
  cases hs
  rw[hev] at hx
  simp only[VR] at hx
  rcases hx with ⟨b,off,cap,h1,_⟩|⟨_,_,_,x0,h1⟩
  rotate_left
  ·refine .pure hw (core _ _ _ h1) ?_
   cases neg <;> exact VR.bool_mk
  refine .pure hw (core _ _ _ h1) ?_
  cases neg <;> exact VR.bool_mk
 ·cases hs
theorem ok_not(hw:WR P B0 w0 G st.heap w)(ht:VRL G w tm a.tmps.toList){t:TypeId}{x:Operand}{d:Opd}(ho:o.op = .unOp .not t x)(hd:opd x=some d)
  (hs:stepOp E rec tm st (.not d)=some (.val v st')):Yields P B0 w0 G st w v st' (OpRun P a o w):=by
 have hx:=opd_ok ht hd
 simp only[stepOp] at hs
 split at hs
 ·rename_i b hev
  cases hs
  rw[hev] at hx
  exact .pure hw (OpRun.val (u := .bool !b) (by unfold execOp;rw[ho]) (by rw[hx.bool_inv];simp[Op.unary])) VR.bool_mk
 ·cases hs
theorem ok_neg(hw:WR P B0 w0 G st.heap w)(ht:VRL G w tm a.tmps.toList){t:TypeId}{x:Operand}{d:Opd}(ho:o.op = .unOp .neg t x)(hd:opd x=some d)
  (hs:stepOp E rec tm st (.neg d)=some (.val v st')):Yields P B0 w0 G st w v st' (OpRun P a o w):=by
 have hx:=opd_ok ht hd
 simp only[stepOp] at hs
 split at hs
 ·rename_i k n hev
  cases hs
  rw[hev] at hx
  exact .pure hw (OpRun.val (u := .int k (k.wrap (0 - n))) (by unfold execOp;rw[ho]) (by rw[hx.int_inv];simp[Op.unary,Op.intArith])) VR.int_mk
 ·cases hs
theorem ok_toInt(hw:WR P B0 w0 G st.heap w)(ht:VRL G w tm a.tmps.toList){s t:TypeId}{k0 k:IntKind}{x:Operand}{d:Opd}(ho:o.op = .convert s t x)(hsrc:P.underlying s=some (.int k0))(hdst:P.underlying t=some (.int k))(hd:opd x=some d)
  (hs:stepOp E rec tm st (.toInt k d)=some (.val v st')):Yields P B0 w0 G st w v st' (OpRun P a o w):=by
 have hx:=opd_ok ht hd
 simp only[stepOp] at hs
 split at hs
 ·rename_i k1 n hev
  cases hs
  rw[hev] at hx
  exact .pure hw (OpRun.val (u := .int k (k.wrap n)) (by unfold execOp;rw[ho]) (by rw[hx.int_inv];simp[convert,run_underlying hsrc,run_underlying hdst,Conv.intToInt])) VR.int_mk
 ·cases hs
theorem ok_mkIface(hw:WR P B0 w0 G st.heap w)(ht:VRL G w tm a.tmps.toList){t:TypeId}{x:Operand}{d:Opd}{td:TypeDesc}(ho:o.op = .makeInterface t x)(hu:P.underlying t=some td)(hni:∀ ms,td ≠ .interface ms)(hd:opd x=some d)
  (hs:stepOp E rec tm st (.mkIface t d)=some (.val v st')):Yields P B0 w0 G st w v st' (OpRun P a o w):=by
 have hx:=opd_ok ht hd
 simp only[stepOp] at hs
 cases hs
 refine .pure hw (OpRun.val (u := .iface t (a.eval x)) (by unfold execOp;rw[ho]) ?_) (by simp only[VR];exact⟨_,rfl,hx⟩)
 unfold Instr.makeInterface
 simp only[Sem.run_bind,run_underlying hu,Result.andThen_ok]
 cases td <;> first|rfl|exact absurd rfl (hni _)
theorem ok_mkFunc(hw:WR P B0 w0 G st.heap w)(ht:VRL G w tm a.tmps.toList){f:FuncId}{fi ca:Array Operand}{d e:List Opd}(ho:o.op = .makeFunc (.func f) fi ca)(hd:opds fi.toList=some d)(he:opds ca.toList=some e)
  (hs:stepOp E rec tm st (.mkFunc f d e)=some (.val v st')):Yields P B0 w0 G st w v st' (OpRun P a o w):=by
 simp only[stepOp] at hs
 cases hs
 refine .pure hw (OpRun.val (u := .func (.func f) (fi.map a.eval) (ca.map a.eval)) (by unfold execOp;rw[ho]) rfl) ?_
 simp only[VR]
 exact⟨_,_,rfl,by simpa using opds_ok ht hd,by simpa using opds_ok ht he⟩
theorem ok_mkMap(hw:WR P B0 w0 G st.heap w){t kt e:TypeId}{r:Option Operand}(ho:o.op = .makeMap t r)(hu:P.underlying t=some (.map kt e))(hr:r=none∨∃ k n,r=some (.const (.int k n)))
  (hs:stepOp E rec tm st .mkMap=some (.val v st')):Yields P B0 w0 G st w v st' (OpRun P a o w):=by
 simp only[stepOp] at hs
 cases hs
 obtain⟨h1,h2⟩:=alloc_obj hw (.map []) (.map #[] 0) (fun G' w' hp hh _=>⟨_,_,hh,rfl⟩)
 refine⟨_,_,h1,h2 _,Nat.le_refl _,.inl ⟨.map (some w.heap.size),OpRun.val (by unfold execOp;rw[ho]) ?_,by simp only[VR];exact⟨_,upd_same _ _ _,rfl⟩⟩⟩
 unfold Instr.makeMap
 rcases hr with rfl|⟨k,n,rfl⟩
 ·simp
 ·simp[run_underlying hu,Act.eval,Go.asInt,asIntOf]
theorem ok_extract(hw:WR P B0 w0 G st.heap w)(ht:VRL G w tm a.tmps.toList){x:Operand}{i:Nat}{d:Opd}(ho:o.op = .extract x i)(hd:opd x=some d)
  (hs:stepOp E rec tm st (.extract d i)=some (.val v st')):Yields P B0 w0 G st w v st' (OpRun P a o w):=by
 have hx:=opd_ok ht hd
 simp only[stepOp] at hs
 split at hs
 ·rename_i vs hev
  obtain⟨p,h1,h2⟩:=Option.map_eq_some_iff.1 hs
  cases h2
  rw[hev] at hx
  simp only[VR] at hx
  obtain⟨us,h3,h4⟩:=hx
  obtain⟨u,h5,h6⟩:=h4.get h1
  refine .pure hw (OpRun.val (u:=u) (by unfold execOp;rw[ho]) ?_) h6
  unfold Instr.extract
  rw[h3]
  have:us[i]? = some u:=by simpa using h5
  simp[this]
 ·cases hs
theorem len_run{t:TypeId}{c:Call}{x:Operand}(ho:o.op = .call c)(hc:c.callee = .builtin .len)(hat:c.argTypes=#[t])(har:c.args=#[x]){n:Int}(h:(Builtin.len_ #[t] o.type #[a.eval x]).run P w = .ok (.int .i64 n) w):OpRun P a o w = .ok (.value (.int .i64 n)) w:=by
 unfold OpRun execOp
 rw[ho]
 simp[resolve,hc,har,hat,invoke,builtin,h]
theorem ok_len(hw:WR P B0 w0 G st.heap w)(ht:VRL G w tm a.tmps.toList){t e:TypeId}{c:Call}{x:Operand}{d:Opd}(ho:o.op = .call c)(hc:c.callee = .builtin .len)(hat:c.argTypes=#[t])(har:c.args=#[x])(hu:P.underlying t=some (.slice e))
  (hd:opd x=some d) (hs:stepOp E rec tm st (.len d)=some (.val v st')):Yields P B0 w0 G st w v st' (OpRun P a o w):=by
 have hx:=opd_ok ht hd
 simp only[stepOp] at hs
 split at hs
 ·rename_i hev
  cases hs
  rw[hev] at hx
  simp only[VR] at hx
  exact .pure hw (len_run ho hc hat har (by rw[hx];simp[Builtin.len_,run_underlying hu,goInt])) VR.int_mk
 ·rename_i oo n cs hev
  cases hs
  rw[hev] at hx
  simp only[VR] at hx
  rcases hx with ⟨b,off,cap,h1,_⟩|⟨_,rfl,_,x0,h1⟩
  rotate_left
  ·exact .pure hw (len_run ho hc hat har (by rw[h1];simp[Builtin.len_,run_underlying hu,goInt])) VR.int_mk
  exact .pure hw (len_run ho hc hat har (by rw[h1];simp[Builtin.len_,run_underlying hu,goInt])) VR.int_mk
 ·rename_i l sz n hev
  cases hs
  rw[hev] at hx
  simp only[VR] at hx
  obtain⟨b,e',cap,_,h1,_⟩:=hx
  exact .pure hw (len_run ho hc hat har (by rw[h1];simp[Builtin.len_,run_underlying hu,goInt])) VR.int_mk
 ·cases hs
theorem ok_lenStr(hw:WR P B0 w0 G st.heap w)(ht:VRL G w tm a.tmps.toList){t:TypeId}{c:Call}{x:Operand}{d:Opd}(ho:o.op = .call c)(hc:c.callee = .builtin .len)(hat:c.argTypes=#[t])(har:c.args=#[x])(hu:P.underlying t=some .string)
  (hd:opd x=some d) (hs:stepOp E rec tm st (.lenStr d)=some (.val v st')):Yields P B0 w0 G st w v st' (OpRun P a o w):=by
 have hx:=opd_ok ht hd
 simp only[stepOp] at hs
 split at hs
 ·rename_i s hev
  cases hs
  rw[hev] at hx
  exact .pure hw (len_run ho hc hat har (by rw[hx.str_inv];simp[Builtin.len_,run_underlying hu,goInt])) VR.int_mk
 ·cases hs
end
end Go.Den
end

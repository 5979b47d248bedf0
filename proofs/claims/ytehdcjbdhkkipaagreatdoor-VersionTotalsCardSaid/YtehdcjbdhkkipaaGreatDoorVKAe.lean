/- Part of the proofs of laws of the package version. Texts: DenOpsE, DenOpsF, DenOpsG. -/
import Derived.Test.YtehdcjbdhkkipaaGreatDoorVKAd
set_option linter.unusedSimpArgs false
set_option linter.unusedVariables false
section
namespace Go.Den
section
variable{P:Program}{B0:Nat}{w0:World}{G:Gh}{st:St}{w:World}{tm:List PV}{a:Act}{o:Oper}{E:Env}{rec:Rec}{v:PV}{st':St}
theorem ok_fieldAddr(hw:WR P B0 w0 G st.heap w)(ht:VRL G w tm a.tmps.toList){t:TypeId}{x:Operand}{f:Nat}{fields:Array Field}{fd:Field}{s:Nat}{d:Opd}(ho:o.op = .fieldAddr t x f)(hu:P.underlying t=some (.struct fields))(hf:fields[f]? = some fd)(hsz:sizeT P fd.type=some s)(h0:s≠0)(hd:opd x=some d)
  (hs:stepOp E rec tm st (.fieldAddr fd.offset d)=some (.val v st')):Yields P B0 w0 G st w v st' (OpRun P a o w):=by
 have hx:=opd_ok ht hd
 have core:∀ {b off:Nat},a.eval x = .pointer (some ⟨b,off,none⟩)→OpRun P a o w = .ok (.value (.pointer (some ⟨b,off+fd.offset,none⟩))) w:=by
  intro b off h
  refine OpRun.val (by unfold execOp;rw[ho]) ?_
  unfold Instr.fieldAt fieldPlace
  simp[run_underlying hu,hf,h,sureAddr_run,sizeOf_run hsz,h0,Addr.add_lit]
 simp only[stepOp] at hs
 split at hs
 ·rename_i l off hev
  cases hs
  rw[hev] at hx
  simp only[VR] at hx
  obtain⟨b,h1,h2⟩:=hx
  exact .pure hw (core h2) (by simp only[VR];exact⟨b,h1,rfl⟩)
 ·rename_i l off hev
  cases hs
  rw[hev] at hx
  simp only[VR] at hx
  obtain⟨b,e,h1,h2⟩:=hx
  exact .pure hw (core h2) (by simp only[VR];exact⟨b,e,h1,rfl⟩)
 ·rename_i cs hev
  split at hs
  ·rename_i hle
   cases hs
   rw[hev] at hx
   simp only[VR] at hx
   obtain⟨b,off,h1,h2,h3⟩:=hx
   refine .pure hw (core h1) ?_
   simp only[VR]
   refine⟨b,off+fd.offset,rfl,fun hne=>?_,h3.drop _ hle⟩
   obtain⟨m,h4,h5⟩:=h2 (by intro e;subst e;simp at hne)
   exact⟨m,h4,by simp;omega⟩
  ·cases hs
 ·cases hs
theorem ok_part(hw:WR P B0 w0 G st.heap w)(ht:VRL G w tm a.tmps.toList){t:TypeId}{x:Operand}{f:Nat}{fields:Array Field}{fd:Field}{s:Nat}{d:Opd}(ho:o.op = .field t x f)(hu:P.underlying t=some (.struct fields))(hf:fields[f]? = some fd)(hok:okT P fd.type=true)(hsz:sizeT P fd.type=some s)(hd:opd x=some d)
  (hs:stepOp E rec tm st (.part (aggT P fd.type) s fd.offset d)=some (.val v st')):Yields P B0 w0 G st w v st' (OpRun P a o w):=by
 have hx:=opd_ok ht hd
 simp only[stepOp] at hs
 split at hs
 ·rename_i cs hev
  split at hs
  ·obtain⟨p,h1,h2⟩:=Option.map_eq_some_iff.1 hs
   cases h2
   rw[hev] at hx
   simp only[VR] at hx
   obtain⟨us,h3,h4⟩:=hx
   obtain⟨u,h5,h6⟩:=part_ok hok hsz h4 h1
   refine .pure hw (OpRun.val (by unfold execOp;rw[ho]) ?_) h6
   unfold Instr.field
   simp[run_underlying hu,hf,h3,asAgg,h5]
  ·cases hs
 ·cases hs
theorem asIntOf_run{k:IntKind}{n:Int}:(asIntOf (.int k n)).run P w = .ok (k,n) w:=rfl
theorem ok_indexAddr(hw:WR P B0 w0 G st.heap w)(ht:VRL G w tm a.tmps.toList){t e:TypeId}{x i:Operand}{s:Nat}{d g:Opd}(ho:o.op = .indexAddr t x i)(hu:P.underlying t=some (.slice e))(hsz:sizeT P e=some s)(hd:opd x=some d)(hg:opd i=some g)
  (hs:stepOp E rec tm st (.indexAddr s d g)=some (.val v st')):Yields P B0 w0 G st w v st' (OpRun P a o w):=by
 have hx:=opd_ok ht hd
 have hi:=opd_ok ht hg
 have core:∀ {b off n cap:Nat} {k:IntKind} {j:Int},a.eval x = .slice (some ⟨b,off,none⟩) n cap→a.eval i = .int k j→0≤j→j<n→OpRun P a o w = .ok (.value (.pointer (some ⟨b,off+j.toNat*s,none⟩))) w:=by
  intro b off n cap k j h1 h2 h3 h4
  refine OpRun.val (by unfold execOp;rw[ho]) ?_
  unfold Instr.indexAt
  simp[h1,h2,asIntOf_run,run_underlying hu,h3,h4,sizeOf_run hsz,Addr.add_lit]
 simp only[stepOp] at hs
 split at hs
 ·rename_i oo n cs k j h1 h2
  split at hs
  ·rename_i hc
   cases hs
   rw[h1] at hx
   rw[h2] at hi
   simp only[VR] at hx
   rcases hx with ⟨b,off,cap,h3,h4,h5,_,h6⟩|⟨_,rfl,_⟩
   rotate_left
   ·omega
   refine .pure hw (core h3 hi.int_inv hc.1 hc.2) ?_
   simp only[VR]
   by_cases hle:j.toNat*s≤cs.length
   ·refine⟨b,off+j.toNat*s,rfl,fun hne=>?_,(h6.drop _ hle).take _⟩
    obtain⟨m,h7,h8⟩:=h5 (by intro e;subst e;simp at hne)
    exact⟨m,h7,by simp;omega⟩
   ·have:((cs.drop (j.toNat*s)).take s)=[]:=by rw[List.drop_eq_nil_of_le (by omega)];simp
    rw[this]
    exact⟨b,off+j.toNat*s,rfl,fun hne=>absurd rfl hne,by simp only[VRC]⟩
  ·cases hs
 ·rename_i l sz' n k j h1 h2
  split at hs
  ·rename_i hc
   cases hs
   rw[h1] at hx
   rw[h2] at hi
   simp only[VR] at hx
   obtain⟨b,e',cap,h3,h4,h5,h6⟩:=hx
   refine .pure hw (core h4 hi.int_inv hc.2.1 hc.2.2) ?_
   simp only[VR]
   exact⟨b,e',h3,by simp⟩
  ·cases hs
 ·cases hs
theorem ok_indexVar(hw:WR P B0 w0 G st.heap w)(ht:VRL G w tm a.tmps.toList){t e:TypeId}{x i:Operand}{n s:Nat}{d g:Opd}(ho:o.op = .indexAddr t x i)(hu:P.underlying t=some (.array n e))(hsz:sizeT P e=some s)(hd:opd x=some d)(hg:opd i=some g)
  (hs:stepOp E rec tm st (.indexVar n s d g)=some (.val v st')):Yields P B0 w0 G st w v st' (OpRun P a o w):=by
 have hx:=opd_ok ht hd
 have hi:=opd_ok ht hg
 simp only[stepOp] at hs
 split at hs
 ·rename_i l off k j h1 h2
  split at hs
  ·rename_i hc
   cases hs
   rw[h1] at hx
   rw[h2] at hi
   simp only[VR] at hx
   obtain⟨b,h3,h4⟩:=hx
   refine .pure hw (v := .pointer (some ⟨b,off+j.toNat*s,none⟩)) (OpRun.val (by unfold execOp;rw[ho]) ?_) (by simp only[VR];exact⟨b,h3,rfl⟩)
   unfold Instr.indexAt
   simp[h4,hi.int_inv,asIntOf_run,run_underlying hu,sureAddr_run,hc.1,hc.2,sizeOf_run hsz,Addr.add_lit]
  ·cases hs
 ·cases hs
theorem ok_indexArr(hw:WR P B0 w0 G st.heap w)(ht:VRL G w tm a.tmps.toList){t e:TypeId}{x i:Operand}{n s:Nat}{d g:Opd}(ho:o.op = .index t x i)(hu:P.underlying t=some (.array n e))(hok:okT P e=true)(hsz:sizeT P e=some s)(hd:opd x=some d)(hg:opd i=some g)
  (hs:stepOp E rec tm st (.indexArr (aggT P e) n s d g)=some (.val v st')):Yields P B0 w0 G st w v st' (OpRun P a o w):=by
 have hx:=opd_ok ht hd
 have hi:=opd_ok ht hg
 simp only[stepOp] at hs
 split at hs
 ·rename_i cs k j h1 h2
  split at hs
  ·rename_i hc
   obtain⟨p,h3,h4⟩:=Option.map_eq_some_iff.1 hs
   cases h4
   rw[h1] at hx
   rw[h2] at hi
   simp only[VR] at hx
   obtain⟨us,h5,h6⟩:=hx
   obtain⟨u,h7,h8⟩:=part_ok hok hsz h6 h3
   refine .pure hw (OpRun.val (by unfold execOp;rw[ho]) ?_) h8
   unfold Instr.index
   simp[h5,hi.int_inv,asIntOf_run,run_underlying hu,hc.1,hc.2.1,sizeOf_run hsz,h7]
  ·cases hs
 ·cases hs
theorem ok_indexStr(hw:WR P B0 w0 G st.heap w)(ht:VRL G w tm a.tmps.toList){t:TypeId}{x i:Operand}{d g:Opd}(ho:o.op = .index t x i)(hu:P.underlying t=some .string)(hd:opd x=some d)(hg:opd i=some g)
  (hs:stepOp E rec tm st (.indexStr d g)=some (.val v st')):Yields P B0 w0 G st w v st' (OpRun P a o w):=by
 have hx:=opd_ok ht hd
 have hi:=opd_ok ht hg
 simp only[stepOp] at hs
 split at hs
 ·rename_i s k j h1 h2
  split at hs
  ·rename_i hc
   obtain⟨p,h3,h4⟩:=Option.map_eq_some_iff.1 hs
   cases h4
   rw[h1] at hx
   rw[h2] at hi
   refine .pure hw (v := .int .u8 p.toNat) (OpRun.val (by unfold execOp;rw[ho]) ?_) VR.int_mk
   unfold Instr.index
   simp[hx.str_inv,hi.int_inv,asIntOf_run,run_underlying hu,hc,h3]
  ·cases hs
 ·cases hs
theorem bound_ok(ht:VRL G w tm a.tmps.toList){x:Option Operand}{d:Option Opd}{k df y:Nat}{code:BoundsCode}(hd:opdO x=some d)(hb:bound tm d df=some k)(hle:d.isSome=true→k≤y) :
  match x with
  | some x=>(Instr.sliceBound (a.eval x) y code).run P w = .ok k w
  | none=>k=df:=by
 unfold opdO at hd
 cases x with
 | none=>cases hd;simp only[bound] at hb;cases hb;rfl
 | some x =>
  obtain⟨d',h1,h2⟩:=Option.map_eq_some_iff.1 hd
  subst h2
  have hx:=opd_ok ht h1
  simp only[bound] at hb
  split at hb
  ·rename_i k' n hev
   split at hb
   ·rename_i h0
    cases hb
    rw[hev] at hx
    have:=hle rfl
    unfold Instr.sliceBound
    simp only[hx.int_inv,Sem.run_bind,asIntOf_run,Result.andThen_ok]
    rw[if_pos ⟨h0,by omega⟩]
    rfl
   ·cases hb
  ·cases hb
theorem bounds_run(ht:VRL G w tm a.tmps.toList){lo hi:Option Operand}{dl dh:Option Opd}{n cap h l:Nat}(isS:Bool)(hl:opdO lo=some dl)(hh:opdO hi=some dh)(h1:bound tm dh n=some h)(h2:bound tm dl 0=some l)(hle:l≤h)(hn:h≤n)(hc:n≤cap) :
  (Instr.sliceBounds isS n cap (lo.map a.eval) (hi.map a.eval) none).run P w = .ok (l,h,cap) w:=by
 unfold Instr.sliceBounds
 have b1:=bound_ok (P:=P) (y:=cap) (code:=if isS then .sliceAcap else .sliceAlen) ht hh h1 (fun _=>by omega)
 have b2:=bound_ok (P:=P) (y:=h) (code := .sliceB) ht hl h2 (fun _=>hle)
 cases hi with
 | none =>
  simp only at b1
  subst b1
  cases lo with
  | none=>simp only at b2;subst b2;simp
  | some lo=>simp only at b2;simp[b2]
 | some hi =>
  simp only at b1
  cases lo with
  | none=>simp only at b2;subst b2;simp[b1]
  | some lo=>simp only at b2;simp[b1,b2]
theorem ok_slice(hw:WR P B0 w0 G st.heap w)(ht:VRL G w tm a.tmps.toList){t e:TypeId}{x:Operand}{lo hi:Option Operand}{s:Nat}{d:Opd}{dl dh:Option Opd}(ho:o.op = .slice t x lo hi none)(hu:P.underlying t=some (.slice e))(hsz:sizeT P e=some s)(_h1:1≤s)(hd:opd x=some d)(hl:opdO lo=some dl)(hh:opdO hi=some dh)
  (hs:stepOp E rec tm st (.slice s d dl dh)=some (.val v st')):Yields P B0 w0 G st w v st' (OpRun P a o w):=by
 have hx:=opd_ok ht hd
 simp only[stepOp] at hs
 split at hs
 ·rename_i hev
  split at hs
  ·rename_i b1 b2
   cases hs
   rw[hev] at hx
   simp only[VR] at hx
   have hb:=bounds_run (P:=P) (n:=0) (cap:=0) ht true hl hh b1 b2 (Nat.le_refl _) (Nat.le_refl _) (Nat.le_refl _)
   refine .pure hw (v := .slice none 0 0) (OpRun.val (by unfold execOp;rw[ho]) ?_) (by simp only[VR])
   unfold Instr.sliceAt
   simp only[Sem.run_bind,run_underlying hu,Result.andThen_ok,Instr.slice,hx,Option.map_none,hb,sizeOf_run hsz,Sem.run_pure]
   simp
  ·cases hs
 ·rename_i oo n cs hev
  split at hs
  ·rename_i h l b1 b2
   split at hs
   ·rename_i hc
    obtain⟨c1,c2,c3⟩:=hc
    cases hs
    rw[hev] at hx
    simp only[VR] at hx
    rcases hx with ⟨b,off,cap,h3,h4,h5,_,h6⟩|⟨_,rfl,rfl,x0,h3⟩
    rotate_left
    ·have hh0:h=0:=by omega
     have hl0:l=0:=by omega
     subst hh0 hl0
     have hb:=bounds_run (P:=P) (n:=0) (cap:=0) ht true hl hh b1 b2 c1 c2 (Nat.le_refl _)
     refine .pure hw (v := .slice (some x0) 0 0) (OpRun.val (by unfold execOp;rw[ho]) ?_) ?_
     ·unfold Instr.sliceAt
      simp only[Sem.run_bind,run_underlying hu,Result.andThen_ok,Instr.slice,h3,Option.map_none,hb,sizeOf_run hsz,Sem.run_pure]
      simp
     ·simp only[VR]
      simp
    have hb:=bounds_run (P:=P) (n:=n) (cap:=cap) ht true hl hh b1 b2 c1 c2 h4
    have hls:l*s≤cs.length:=by rw[c3];exact Nat.mul_le_mul_right _ (by omega)
    by_cases hcap:cap=l
    ·have hhl:h - l=0:=by omega
     refine .pure hw (v := .slice (some ⟨b,off,none⟩) (h - l) (cap - l)) (OpRun.val (by unfold execOp;rw[ho]) ?_) ?_
     ·unfold Instr.sliceAt
      simp only[Sem.run_bind,run_underlying hu,Result.andThen_ok,Instr.slice,h3,Option.map_none,hb,sizeOf_run hsz,Sem.run_pure,if_pos hcap]
     ·simp only[VR]
      have:((cs.drop (l*s)).take ((h - l)*s))=[]:=by rw[hhl];simp
      rw[this]
      exact .inl ⟨b,off,cap - l,rfl,by omega,fun hne=>absurd rfl hne,trivial,by simp only[VRC]⟩
    ·refine .pure hw (v := .slice (some ⟨b,off+l*s,none⟩) (h - l) (cap - l)) (OpRun.val (by unfold execOp;rw[ho]) ?_) ?_
     ·unfold Instr.sliceAt
      simp only[Sem.run_bind,run_underlying hu,Result.andThen_ok,Instr.slice,h3,Option.map_none,hb,sizeOf_run hsz,Sem.run_pure,if_neg hcap,Option.map_some,Addr.add_lit]
     ·simp only[VR]
      refine .inl ⟨b,off+l*s,cap - l,rfl,by omega,fun hne=>?_,trivial,(h6.drop _ hls).take _⟩
      obtain⟨m,h7,h8⟩:=h5 (by intro e;subst e;simp at hne)
      exact⟨m,h7,by simp;omega⟩
   ·cases hs
  ·cases hs
 ·cases hs
theorem ok_sliceStr(hw:WR P B0 w0 G st.heap w)(ht:VRL G w tm a.tmps.toList){t:TypeId}{x:Operand}{lo hi:Option Operand}{d:Opd}{dl dh:Option Opd}(ho:o.op = .slice t x lo hi none)(hu:P.underlying t=some .string)(hd:opd x=some d)(hl:opdO lo=some dl)(hh:opdO hi=some dh)
  (hs:stepOp E rec tm st (.sliceStr d dl dh)=some (.val v st')):Yields P B0 w0 G st w v st' (OpRun P a o w):=by
 have hx:=opd_ok ht hd
 simp only[stepOp] at hs
 split at hs
 ·rename_i s hev
  split at hs
  ·rename_i h l b1 b2
   split at hs
   ·rename_i hc
    cases hs
    rw[hev] at hx
    have hb:=bounds_run (P:=P) (n:=s.size) (cap:=s.size) ht false hl hh b1 b2 hc.1 hc.2 (Nat.le_refl _)
    refine .pure hw (v := .string (s.extract l h)) (OpRun.val (by unfold execOp;rw[ho]) ?_) VR.str_mk
    unfold Instr.sliceAt
    simp only[Sem.run_bind,run_underlying hu,Result.andThen_ok,Instr.slice,hx.str_inv,Option.map_none,Option.isSome_none,Bool.false_eq_true,if_false,hb,Sem.run_pure]
   ·cases hs
  ·cases hs
 ·cases hs
theorem mm_ok{mx:Bool}{p:PV}:∀ {ps:List PV} {x:PV} {xv:Value} {vs:List Value},mm mx x ps=some p→VR G w x xv→VRL G w ps vs→(mx=true→∃ u,(vs.foldlM Builtin.max2 xv).run P w = .ok u w∧VR G w p u)∧(mx=false→∃ u,(vs.foldlM Builtin.min2 xv).run P w = .ok u w∧VR G w p u)
 | [],x,xv,vs,h,hx,hv=>by
  simp only[mm] at h;cases h
  rw[VRL.nil_iff.1 hv]
  exact⟨fun _=>⟨xv,rfl,hx⟩,fun _=>⟨xv,rfl,hx⟩⟩
 | q::ps,x,xv,vs,h,hx,hv=>by
  obtain⟨y,vs',rfl,h1,h2⟩:=VRL.cons_iff.1 hv
  unfold mm at h
  split at h
  ·rename_i he;cases he
  ·rename_i k m k' m' r he
   cases he
   have hx':=hx.int_inv
   have hy':=h1.int_inv
   subst hx' hy'
   have ih:=mm_ok (mx:=mx) h VR.int_mk h2
   refine⟨fun e=>?_,fun e=>?_⟩
   ·subst e
    obtain⟨u,h3,h4⟩:=ih.1 rfl
    exact⟨u,by simpa[Builtin.max2] using h3,h4⟩
   ·subst e
    obtain⟨u,h3,h4⟩:=ih.2 rfl
    exact⟨u,by simpa[Builtin.min2] using h3,h4⟩
  ·cases h
theorem ok_minmax(hw:WR P B0 w0 G st.heap w)(ht:VRL G w tm a.tmps.toList){c:Call}{mx:Bool}{x:Opd}{ys:List Opd}(ho:o.op = .call c)(hc:c.callee = .builtin (if mx then .max else .min))(har:opds c.args.toList=some (x::ys))
  (hs:stepOp E rec tm st (.minmax mx x ys)=some (.val v st')):Yields P B0 w0 G st w v st' (OpRun P a o w):=by
 have hx:=opds_ok ht har
 simp only[stepOp] at hs
 obtain⟨p,h1,h2⟩:=Option.map_eq_some_iff.1 hs
 cases h2
 obtain⟨xv,vs,h3,h4,h5⟩:=VRL.cons_iff.1 hx
 have:=mm_ok (P:=P) h1 h4 h5
 have hargs:(c.args.map a.eval).toList=xv::vs:=by simpa using h3
 cases mx with
 | true =>
  obtain⟨u,h6,h7⟩:=this.1 rfl
  refine .pure hw (v:=u) ?_ h7
  unfold OpRun execOp
  rw[ho]
  simp only[if_true] at hc
  simp only[resolve,hc,Sem.run_bind,Sem.run_pure,Result.andThen_ok,invoke,builtin,Builtin.max_,hargs,h6]
 | false =>
  obtain⟨u,h6,h7⟩:=this.2 rfl
  refine .pure hw (v:=u) ?_ h7
  unfold OpRun execOp
  rw[ho]
  simp only[Bool.false_eq_true,if_false] at hc
  simp only[resolve,hc,Sem.run_bind,Sem.run_pure,Result.andThen_ok,invoke,builtin,Builtin.min_,hargs,h6]
theorem ok_rangeStr(hw:WR P B0 w0 G st.heap w)(ht:VRL G w tm a.tmps.toList){t:TypeId}{x:Operand}{d:Opd}(ho:o.op = .range t x)(hu:P.underlying t=some .string)(hd:opd x=some d)
  (hs:stepOp E rec tm st (.rangeStr d)=some (.val v st')):Yields P B0 w0 G st w v st' (OpRun P a o w):=by
 have hx:=opd_ok ht hd
 simp only[stepOp] at hs
 split at hs
 ·rename_i s hev
  cases hs
  rw[hev] at hx
  obtain⟨h1,h2⟩:=alloc_obj hw (.iter s 0) (.stringIter s 0) (fun G' w' hp hh _=>hh)
  refine⟨_,_,h1,h2 _,Nat.le_refl _,.inl ⟨.pointer (some ⟨w.heap.size,0,none⟩),OpRun.val (by unfold execOp;rw[ho]) ?_,by simp only[VR];exact⟨_,upd_same _ _ _,rfl⟩⟩⟩
  unfold Instr.range
  simp[run_underlying hu,hx.str_inv]
 ·cases hs
theorem ok_nextStr(hw:WR P B0 w0 G st.heap w)(ht:VRL G w tm a.tmps.toList){x:Operand}{d:Opd}(ho:o.op = .next x true)(hd:opd x=some d)
  (hs:stepOp E rec tm st (.nextStr d)=some (.val v st')):Yields P B0 w0 G st w v st' (OpRun P a o w):=by
 have hx:=opd_ok ht hd
 simp only[stepOp] at hs
 split at hs
 ·rename_i l hev
  rw[hev] at hx
  simp only[VR] at hx
  obtain⟨b,h1,h2⟩:=hx
  split at hs
  ·rename_i s pos hh
   obtain⟨_,hbl,_,_,ob,hob,hor⟩:=hw.obj h1
   rw[hh] at hob;cases hob
   have hor':w.heap[b]? = some (Obj.stringIter s pos):=hor
   have hget:(getObj b).run P w = .ok (.stringIter s pos) w:=by simp[getObj,Sem.run,hor']
   split at hs
   ·rename_i hlt
    cases hs
    obtain⟨g1,g2⟩:=set_obj hw h1 (.iter s (pos+(Utf8.decode s pos).2)) (.stringIter s (pos+(Utf8.decode s pos).2)) (fun _ _ _ hh=>by rw[hor'] at hh;cases hh) (fun _ hh=>by rw[hor'] at hh;cases hh) (fun w' _ hh=>hh)
    have hset:(setObj b (.stringIter s (pos+(Utf8.decode s pos).2))).run P w = .ok () (w.putObj b (.stringIter s (pos+(Utf8.decode s pos).2))):=by
     simp[setObj,Sem.run,hor',World.putObj]
    refine⟨G,_,g1,g2 _ (Nat.min_le_right _ _),Nat.min_le_left _ _,.inl ⟨.tuple #[.bool true,goInt pos,.int .i32 (Utf8.decode s pos).1],OpRun.val (by unfold execOp;rw[ho]) ?_,?_⟩⟩
    ·unfold Instr.next
     simp only[h2,Sem.run_bind,hget,Result.andThen_ok,hlt,if_true,Sem.run_ite,hset,Sem.run_pure]
    ·simp only[VR]
     exact⟨_,rfl,VRL.cons VR.bool_mk (VRL.cons VR.int_mk (VRL.cons VR.int_mk (VRL.nil_iff.2 rfl)))⟩
   ·rename_i hlt
    cases hs
    refine .pure hw (v := .tuple #[.bool false]) (OpRun.val (by unfold execOp;rw[ho]) ?_) (by simp only[VR];exact⟨_,rfl,VRL.cons VR.bool_mk (VRL.nil_iff.2 rfl)⟩)
    unfold Instr.next
    simp only[h2,Sem.run_bind,hget,Result.andThen_ok,hlt,if_false,Sem.run_ite,Sem.run_pure]
  ·cases hs
 ·cases hs
theorem ok_assertT(hw:WR P B0 w0 G st.heap w)(ht:VRL G w tm a.tmps.toList){xt t:TypeId}{x:Operand}{d:Opd}{td:TypeDesc}{zv:Value}{z:PV}{i:TypeInfo}(ho:o.op = .typeAssert x xt t true)(hu:P.underlying t=some td)(hni:∀ ms,td ≠ .interface ms)(hi:P.info? t=some i)(hzi:i.zero=some zv)(hz:const0 zv=some z)(hd:opd x=some d)
  (hs:stepOp E rec tm st (.assertT t z d)=some (.val v st')):Yields P B0 w0 G st w v st' (OpRun P a o w):=by
 have hx:=opd_ok ht hd
 simp only[stepOp] at hs
 split at hs
 ·rename_i t' p hev
  cases hs
  rw[hev] at hx
  simp only[VR] at hx
  obtain⟨y,h1,h2⟩:=hx
  have hzr:(zeroValue t).run P w = .ok zv w:=by unfold zeroValue;simp[run_typeInfo w hi,hzi]
  refine .pure hw (v:=if t'=t then .tuple #[y,.bool true] else .tuple #[zv,.bool false]) (OpRun.val (by unfold execOp;rw[ho]) ?_) ?_
  ·unfold Instr.typeAssert
   simp only[Sem.run_bind,run_underlying hu,Result.andThen_ok,h1]
   cases td <;> first
    | exact absurd rfl (hni _)
    | (by_cases hc:t'=t <;> simp[hc,hzr])
  ·by_cases hc:t'=t
   ·simp only[hc,if_true,VR]
    exact⟨_,rfl,VRL.cons h2 (VRL.cons VR.bool_mk (VRL.nil_iff.2 rfl))⟩
   ·simp only[hc,if_false,VR]
    exact⟨_,rfl,VRL.cons (const0_ok hz) (VRL.cons VR.bool_mk (VRL.nil_iff.2 rfl))⟩
 ·cases hs
end
end Go.Den
end
section
namespace Go.Den
section
variable{P:Program}{B0:Nat}{w0:World}{G:Gh}{st:St}{w:World}{tm:List PV}{a:Act}{o:Oper}{E:Env}{rec:Rec}{v:PV}{st':St}
theorem checkKey_ok{t:TypeId}{fields:Array Field}{xs:Array Value}{l:List Int}(emp:Bool)(hu:P.underlying t=some (.struct fields))(hi:intFields P fields.toList=true)(hoff:offsFrom 0 fields.toList=true)
  (hl:l.length=fields.size) (hx:xs.toList=l.map (Value.int .i64)):(Instr.checkKey emp 10000 t (.agg xs)).run P w = .ok () w:=by
 have key:∀ (d:Nat) (fs:List Field) (k:Nat) (l:List Int),intFields P fs=true→offsFrom k fs=true→l.length=fs.length→(∀ i n,l[i]? = some n→xs[k+i]? = some (.int .i64 n)) →
   (forIn fs PUnit.unit (fun f _=>if f.name≠ "_" then do Instr.checkKey emp (d+1) f.type (← part f.type xs f.offset);pure (ForInStep.yield PUnit.unit) else pure (ForInStep.yield PUnit.unit)):Sem PUnit).run P w = .ok PUnit.unit w:=by
  intro d fs
  induction fs with
  | nil=>intro k l _ _ _ _;simp
  | cons f fs ih =>
   intro k l hi hoff hl hx
   cases l with
   | nil=>simp at hl
   | cons n l =>
    obtain⟨h1,h2⟩:=intFields_spec hi f (by simp)
    simp only[offsFrom,Bool.and_eq_true,beq_iff_eq] at hoff
    have hagg:(isAgg f.type).run P w = .ok false w:=by unfold isAgg;simp[run_underlying h2]
    have p1:(part f.type xs f.offset).run P w = .ok (.int .i64 n) w:=by
     unfold part;simp[hagg,hoff.1,show xs[k]? = some (.int .i64 n) from hx 0 n rfl]
    have hi':intFields P fs=true:=by
     unfold intFields at hi ⊢
     rw[List.all_cons,Bool.and_eq_true] at hi
     exact hi.2
    have hck:(Instr.checkKey emp (d+1) f.type (.int .i64 n)).run P w = .ok () w:=by
     simp[Instr.checkKey,run_underlying h2]
    have:=ih (k+1) l hi' hoff.2 (by simpa using hl) (fun i q hq=>by have:=hx (i+1) q (by simpa using hq);rwa [show k+(i+1)=k+1+i from by omega] at this)
    simp only[List.forIn_cons,Sem.run_bind,ne_eq,h1,not_false_eq_true,if_true,p1,Result.andThen_ok,hck,Sem.run_pure]
    exact this
 rw[show (10000:Nat)=9999+1 from rfl]
 unfold Instr.checkKey
 simp only[Sem.run_bind,run_underlying hu,Result.andThen_ok]
 rw[← Array.forIn_toList]
 have:=key 9998 fields.toList 0 l hi hoff (by simpa using hl) (fun i n hn=>by rw[Nat.zero_add,← Array.getElem?_toList,hx];simp[hn])
 simp only[this,Result.andThen_ok,Sem.run_pure]
theorem ints_length:∀ {ps:List PV} {l:List Int},ints ps=some l→l.length=ps.length
 | [],l,h=>by simp only[ints] at h;cases h;rfl
 | p::ps,l,h=>by
  unfold ints at h
  split at h
  ·rename_i h0;cases h0
  ·rename_i h0;cases h0
   obtain⟨l',h3,h4⟩:=Option.map_eq_some_iff.1 h
   subst h4
   simp[ints_length h3]
  ·cases h
theorem findAsking_ok{t:TypeId}{fields:Array Field}{kv:Array Value}{ki:List Int}(hu:P.underlying t=some (.struct fields))(hi:intFields P fields.toList=true)(hoff:offsFrom 0 fields.toList=true)(hst:P.stoodInHeld t=false)
  (hl:ki.length=fields.size) (hk:kv.toList=ki.map (Value.int .i64)):∀ (es:List (PV×PV)) (ms:List MapEntry) (i:Nat) (r:Option Nat),EsR G w es ms→findKey ki es i=some r →
   ∃ q,(Instr.findAsking t (.agg kv) ms i).run P w = .ok q w∧(match r with|some j=>∃ x,q=some (j,x)∧i≤j∧∃ e,es[j - i]? = some e∧VR G w e.2 x|none=>q=none)
 | [],ms,i,r,hr,h=>by
  simp only[findKey] at h;cases h
  have:ms=[]:=hr
  subst this
  exact⟨none,rfl,rfl⟩
 | (k',v')::es,ms,i,r,hr,h=>by
  obtain⟨e,ms',rfl,h1,h2,h3⟩:=hr
  cases k' with
  | agg cs =>
   simp only[findKey] at h
   simp only[VR] at h1
   obtain⟨xs,hx1,hx2⟩:=h1
   split at h
   ·rename_i l hll
    split at h
    ·rename_i hlen0
     have hxs:=ints_inv hll hx2
     have hlen:l.length=fields.size:=by omega
     have heq:=equal_struct (P:=P) (w:=w) hu hi hoff hst hl hlen hk hxs
     have hrun:(Op.equal t (.agg kv) e.key).run P w = .ok (ki==l) w:=by rw[hx1];unfold Op.equal Op.maxDepth;exact heq
     split at h
     ·rename_i hlk
      cases h
      subst hlk
      refine⟨some (i,e.val),?_,e.val,rfl,Nat.le_refl _,(PV.agg cs,v'),by simp,h2⟩
      simp[Instr.findAsking,hrun]
     ·rename_i hlk
      obtain⟨q,h4,h5⟩:=findAsking_ok hu hi hoff hst hl hk es ms' (i+1) r h3 h
      refine⟨q,?_,?_⟩
      ·have:(ki==l)=false:=by simp;exact fun e=>hlk e.symm
       simp[Instr.findAsking,hrun,this,h4]
      ·cases r with
       | none=>exact h5
       | some j =>
        obtain⟨x,h6,h7,e',h8,h9⟩:=h5
        refine⟨x,h6,by omega,e',?_,h9⟩
        rw[show j - i=j - (i+1)+1 from by omega]
        simpa using h8
    ·cases h
   ·cases h
  | _=>simp only[findKey] at h;cases h
theorem findKey_run{t:TypeId}{fields:Array Field}{k:Value}{ms:List MapEntry}(hu:P.underlying t=some (.struct fields)):(Instr.findKey t k ms).run P w=(Instr.findAsking t k ms 0).run P w:=by
 unfold Instr.findKey
 simp only[Sem.run_bind,run_underlying hu,Result.andThen_ok]
 cases ms with
 | nil=>simp[Instr.findNow,Instr.findAsking]
 | cons e ms =>
  have:Instr.findNow (.struct fields) k (e::ms) 0=none:=by
   simp only[Instr.findNow,Instr.sameNow]
  rw[this]
theorem ok_lookup(hw:WR P B0 w0 G st.heap w)(ht:VRL G w tm a.tmps.toList){t kt e:TypeId}{m k:Operand}{ok:Bool}{fields:Array Field}{zv:Value}{z:PV}{d g:Opd}(ho:o.op = .lookup t m k ok)(hut:P.underlying t=some (.map kt e))(hu:P.underlying kt=some (.struct fields))(hi:intFields P fields.toList=true)(hoff:offsFrom 0 fields.toList=true)(hst:P.stoodInHeld kt=false)
  (hze:(P.info? e).bind (·.zero)=some zv) (hz:const0 zv=some z) (hd:opd m=some d) (hg:opd k=some g)
  (hs:stepOp E rec tm st (.lookup fields.size z d g ok)=some (.val v st')):Yields P B0 w0 G st w v st' (OpRun P a o w):=by
 have hm:=opd_ok ht hd
 have hk:=opd_ok ht hg
 simp only[stepOp] at hs
 split at hs
 ·rename_i l kc h1 h2
  rw[h1] at hm
  rw[h2] at hk
  simp only[VR] at hm hk
  obtain⟨b,hb1,hb2⟩:=hm
  obtain⟨kv,hk1,hk2⟩:=hk
  split at hs
  ·rename_i es hh
   obtain⟨_,hbl,_,_,ob,hob,hor⟩:=hw.obj hb1
   rw[hh] at hob;cases hob
   obtain⟨ents,clock,hhp,hes⟩:=hor
   split at hs
   ·rename_i ki hki
    split at hs
    ·rename_i hlen
     have hget:(getObj b).run P w = .ok (.map ents clock) w:=by simp[getObj,Sem.run,hhp]
     have hkv:=ints_inv hki hk2
     have hck:∀ emp,(Instr.checkKey emp 10000 kt (.agg kv)).run P w = .ok () w:=fun emp=>checkKey_ok emp hu hi hoff hlen hkv
     obtain⟨i,hi1,hi2⟩:=Option.bind_eq_some_iff.1 hze
     have hzr:(zeroValue e).run P w = .ok zv w:=by unfold zeroValue;simp[run_typeInfo w hi1,hi2]
     split at hs
     ·rename_i j hf
      obtain⟨en,he1,he2⟩:=Option.map_eq_some_iff.1 hs
      cases he2
      obtain⟨q,hq1,x,hq2,_,e',he3,hx⟩:=findAsking_ok (P:=P) hu hi hoff hst hlen hkv es ents.toList 0 (some j) hes hf
      simp only[Nat.sub_zero] at he3
      rw[he1] at he3;cases he3
      subst hq2
      refine .pure hw (v:=if ok then .tuple #[x,.bool true] else x) (OpRun.val (by unfold execOp;rw[ho]) ?_) ?_
      ·unfold Instr.lookup
       simp only[Sem.run_bind,run_underlying hut,Result.andThen_ok,hb2,hget,hck,hk1,findKey_run hu,hq1,Sem.run_pure]
      ·cases ok
       ·exact hx
       ·simp only[if_true,VR]
        exact⟨_,rfl,VRL.cons hx (VRL.cons VR.bool_mk (VRL.nil_iff.2 rfl))⟩
     ·rename_i hf
      cases hs
      obtain⟨q,hq1,hq2⟩:=findAsking_ok (P:=P) hu hi hoff hst hlen hkv es ents.toList 0 none hes hf
      simp only at hq2
      subst hq2
      refine .pure hw (v:=if ok then .tuple #[zv,.bool false] else zv) (OpRun.val (by unfold execOp;rw[ho]) ?_) ?_
      ·unfold Instr.lookup
       simp only[Sem.run_bind,run_underlying hut,Result.andThen_ok,hb2,hget,hck,hk1,findKey_run hu,hq1,Sem.run_pure,hzr]
      ·cases ok
       ·exact const0_ok hz
       ·simp only[if_true,VR]
        exact⟨_,rfl,VRL.cons (const0_ok hz) (VRL.cons VR.bool_mk (VRL.nil_iff.2 rfl))⟩
     ·cases hs
    ·cases hs
   ·cases hs
  ·cases hs
 ·cases hs
theorem EsR.snoc:∀ {es:List (PV×PV)} {ms:List MapEntry} {k x:PV} {e:MapEntry},EsR G w es ms→VR G w k e.key→VR G w x e.val→EsR G w (es++[(k,x)]) (ms++[e])
 | [],ms,k,x,e,h,h1,h2=>by
  have:ms=[]:=h
  subst this
  exact⟨e,[],rfl,h1,h2,rfl⟩
 | (k',v')::es,ms,k,x,e,h,h1,h2=>by
  obtain⟨e',ms',rfl,a1,a2,a3⟩:=h
  exact⟨e',ms'++[e],rfl,a1,a2,EsR.snoc a3 h1 h2⟩
theorem ok_mapUpdate(hw:WR P B0 w0 G st.heap w)(ht:VRL G w tm a.tmps.toList){t kt e:TypeId}{m k x:Operand}{fields:Array Field}{d g f:Opd}(ho:o.op = .mapUpdate t m k x)(hut:P.underlying t=some (.map kt e))(hu:P.underlying kt=some (.struct fields))(hi:intFields P fields.toList=true)(hoff:offsFrom 0 fields.toList=true)(hst:P.stoodInHeld kt=false)
  (hd:opd m=some d) (hg:opd k=some g) (hf0:opd x=some f)
  (hs:stepOp E rec tm st (.mapUpdate fields.size d g f)=some (.val v st')):Yields P B0 w0 G st w v st' (OpRun P a o w):=by
 have hm:=opd_ok ht hd
 have hk:=opd_ok ht hg
 have hxv:=opd_ok ht hf0
 simp only[stepOp] at hs
 split at hs
 ·rename_i l kc h1 h2
  rw[h1] at hm
  rw[h2] at hk
  have hk0:=hk
  simp only[VR] at hm hk
  obtain⟨b,hb1,hb2⟩:=hm
  obtain⟨kv,hk1,hk2⟩:=hk
  split at hs
  ·rename_i es hh
   obtain⟨_,hbl,_,_,ob,hob,hor⟩:=hw.obj hb1
   rw[hh] at hob;cases hob
   obtain⟨ents,clock,hhp,hes⟩:=hor
   split at hs
   ·rename_i ki hki
    split at hs
    ·rename_i hlen
     have hget:(getObj b).run P w = .ok (.map ents clock) w:=by simp[getObj,Sem.run,hhp]
     have hkv:=ints_inv hki hk2
     have hck:(Instr.checkKey false 10000 kt (.agg kv)).run P w = .ok () w:=checkKey_ok false hu hi hoff hlen hkv
     split at hs
     ·rename_i hf
      cases hs
      obtain⟨q,hq1,hq2⟩:=findAsking_ok (P:=P) hu hi hoff hst hlen hkv es ents.toList 0 none hes hf
      simp only at hq2
      subst hq2
      obtain⟨g1,g2⟩:=set_obj hw hb1 (.map (es++[(.agg kc,f.ev tm)])) (.map (ents.push { key := .agg kv,val:=a.eval x,born:=clock }) (clock+1)) (fun _ _ _ hh=>by rw[hhp] at hh;cases hh) (fun _ hh=>by rw[hhp] at hh;cases hh)
       (fun w' hp hh=>⟨_,_,hh,by
        rw[Array.toList_push]
        exact EsR.snoc (hes.mono hp) (by rw[hk1] at hk0;exact hk0.mono hp) (hxv.mono hp)⟩)
      have hset:(setObj b (.map (ents.push { key := .agg kv,val:=a.eval x,born:=clock }) (clock+1))).run P w = .ok () (w.putObj b (.map (ents.push { key := .agg kv,val:=a.eval x,born:=clock }) (clock+1))):=by
       simp[setObj,Sem.run,hhp,World.putObj]
      refine⟨G,_,g1,g2 _ (Nat.min_le_right _ _),Nat.min_le_left _ _,.inr ⟨OpRun.unit (by unfold execOp;rw[ho]) ?_,rfl⟩⟩
      unfold Instr.mapUpdate
      simp only[Sem.run_bind,run_underlying hut,Result.andThen_ok,hb2,hget,hck,hk1,findKey_run hu,hq1,hset]
     ·cases hs
    ·cases hs
   ·cases hs
  ·cases hs
 ·cases hs
end
end Go.Den
end
section
namespace Go.Den
section
variable{P:Program}{B0:Nat}{w0:World}{G:Gh}{st:St}{w:World}{tm:List PV}{a:Act}{o:Oper}{E:Env}{rec:Rec}{v:PV}{st':St}
theorem app_run{t:TypeId}{c:Call}{x y:Operand}(ho:o.op = .call c)(hc:c.callee = .builtin .append)(hat:c.argTypes=#[t,t])(har:c.args=#[x,y]){u:Value}{w':World}(h:(Builtin.append_ #[t,t] o.type #[a.eval x,a.eval y]).run P w = .ok u w'):OpRun P a o w = .ok (.value u) w':=by
 unfold OpRun execOp
 rw[ho]
 simp[resolve,hc,har,hat,invoke,builtin,h]
theorem run_append_zero(t ty e:TypeId)(i:TypeInfo)(ht:P.underlying t=some (.slice e))(hi:P.info? e=some i)(base b:Option Addr)(n cap c:Nat)(hn:n≤cap) :
  (Builtin.append_ #[t,t] ty #[.slice base n cap,.slice b 0 c]).run P w = .ok (.slice base n cap) w:=by
 have hf:(Builtin.firstCells i.size 0 (.slice b 0 c)).run P w = .ok #[] w:=by
  cases b <;> simp[Builtin.firstCells,loadCells,loadCellsFrom]
 cases base <;> simp[Builtin.append_,run_underlying ht,sizeOf,typeInfo,hi,Builtin.lenOf,hn,hf,storeCells]
theorem zeroT_info{e:TypeId}{z:List PV}{i:TypeInfo}(h:zeroT P e=some z)(hi:P.info? e=some i):∃ u,i.zero=some u∧cells0 u.cells.toList=some z:=by
 unfold zeroT at h
 rw[hi] at h
 simp only[Option.bind_some] at h
 split at h
 ·rename_i u hu;exact⟨u,hu,h⟩
 ·cases h
theorem cells0_length:∀ {vs:List Value} {ps:List PV},cells0 vs=some ps→ps.length=vs.length
 | [],ps,h=>by simp only[cells0] at h;cases h;rfl
 | v::vs,ps,h=>by
  simp only[cells0] at h
  split at h
  ·rename_i p ps' h1 h2
   cases h
   simp[cells0_length h2]
  ·cases h
theorem new_row{e:TypeId}{z:Value}{vs:List Value}{cs:List PV}{need gc sz lo':Nat}{h1:List HObj}(m:Bool)(hw:WR P B0 w0 G h1 w)(hvl:VRL G w cs vs)(hl:vs.length=need*sz)(hz:z.cells.size=sz)(hge:need≤gc) :
  ∃ G',WR P B0 w0 G' (h1++[if m then HObj.arr cs else HObj.tag true]) (w.drew.alloc (.cells (vs.toArray++Builtin.zeroCells z.cells (gc - need)) e)) ∧
   Ext G h1 w G' (h1++[if m then HObj.arr cs else HObj.tag true]) (w.drew.alloc (.cells (vs.toArray++Builtin.zeroCells z.cells (gc - need)) e)) lo' ∧
   G'.tg h1.length=some (w.heap.size,cs.length)∧(m=false→G'.cm w.heap.size=some cs.length)∧VRC G' (w.drew.alloc (.cells (vs.toArray++Builtin.zeroCells z.cells (gc - need)) e)) cs w.heap.size 0 ∧
   HasRow (w.drew.alloc (.cells (vs.toArray++Builtin.zeroCells z.cells (gc - need)) e)) w.heap.size (gc*sz):=by
 have hsz:(vs.toArray++Builtin.zeroCells z.cells (gc - need)).size=gc*sz:=by
  simp only[Array.size_append,List.size_toArray,size_zeroCells,hz,hl,← Nat.add_mul]
  congr 1
  omega
 have hcl:=hvl.length
 have hw1:WR P B0 w0 G h1 w.drew:=hw.same rfl
 have hext:Ext G h1 w G h1 w.drew lo' := .same rfl
 obtain⟨g1,g2,g3⟩:=alloc_row hw1 m cs (vs.toArray++Builtin.zeroCells z.cells (gc - need)) e (0,0) (by simp;omega) (Thawed.zero _)
  (fun G' w' hp hh=>VRC.of_row hh ((hvl.mono hext.pres).mono hp) (fun j u hj=>by
   rw[Nat.zero_add]
   rw[Array.getElem?_append_left (by have:=(List.getElem?_eq_some_iff.1 hj).1;simpa using this)]
   simpa using hj))
 refine⟨_,g1,hext.trans (g2 lo'),upd_same _ _ _,fun hm=>?_,g3,⟨_,_,_,heap_alloc_new w.drew _,by rw[hsz];exact Nat.le_refl _⟩⟩
 subst hm
 exact upd_same _ _ _
theorem tag_dead{h1:List HObj}{t b e:Nat}(hw:WR P B0 w0 G h1 w)(htg:G.tg t=some (b,e))(hlive:Live h1[t]?):∀ t' e',G.tg t'=some (b,e')→¬ Live (h1.set t (.tag false))[t']? := by
 intro t' e' h2 hl
 have hlt:t<h1.length:=by
  rcases Nat.lt_or_ge t h1.length with h|h
  ·exact h
  ·rw[List.getElem?_eq_none h] at hlive;exact hlive.elim
 rw[getElem?_set' _ _ _ _ hlt] at hl
 split at hl
 ·exact hl
 ·rename_i hne
  exact hne (hw.tinj h2 htg hl hlive)
theorem ok_append(hw:WR P B0 w0 G st.heap w)(ht:VRL G w tm a.tmps.toList){t e:TypeId}{c:Call}{x y:Operand}{mu:Bool}{i:TypeInfo}{z:List PV}{d g:Opd}(ho:o.op = .call c)(hc:c.callee = .builtin .append)(hat:c.argTypes=#[t,t])(har:c.args=#[x,y])
  (hu:P.underlying t=some (.slice e)) (hi:P.info? e=some i) (hz:zeroT P e=some z) (hby:i.bytes≤1024) (hs1:1≤i.size) (hzl:z.length=i.size) (hd:opd x=some d) (hg:opd y=some g)
  (hs:stepOp E rec tm st (.append mu i.size d g)=some (.val v st')):Yields P B0 w0 G st w v st' (OpRun P a o w):=by
 have hx:=opd_ok ht hd
 have hy:=opd_ok ht hg
 obtain⟨zv,hzv,hzc⟩:=zeroT_info hz hi
 have hzs:zv.cells.size=i.size:=by have:=cells0_length hzc;simp at this;omega
 have zero:∀ {xp:PV} {b2:Option Addr} {c2:Nat},a.eval y = .slice b2 0 c2→d.ev tm=xp→(match xp with | .nilslice=>some (OpR.val .nilslice st) | .slice o n cs=>some (.val (.slice o n cs) st) | .hslice t s n=>some (.val (.hslice t s n) st)|_=>none)=some (.val v st') →
   Yields P B0 w0 G st w v st' (OpRun P a o w):=by
  intro xp b2 c2 h1 h2 h3
  rw[h2] at hx
  have fin:∀ {base:Option Addr} {n cap:Nat},a.eval x = .slice base n cap→n≤cap→VR G w v (.slice base n cap)→st'=st→Yields P B0 w0 G st w v st' (OpRun P a o w):=by
   intro base n cap h4 h5 h6 h7
   subst h7
   exact .pure hw (app_run ho hc hat har (by rw[h1,h4];exact run_append_zero t o.type e i hu hi base b2 n cap c2 h5)) h6
  split at h3
  ·cases h3
   have h0:=hx
   simp only[VR] at hx
   rw[hx] at h0
   exact fin hx (Nat.le_refl _) h0 rfl
  ·cases h3
   have h0:=hx
   simp only[VR] at hx
   rcases hx with ⟨b,off,cap,h4,h5,_⟩|⟨_,rfl,_,x0,h4⟩
   rotate_left
   ·rw[h4] at h0
    exact fin h4 (Nat.le_refl _) h0 rfl
   rw[h4] at h0
   exact fin h4 h5 h0 rfl
  ·cases h3
   have h0:=hx
   simp only[VR] at hx
   obtain⟨b,e',cap,_,h4,h5,_⟩:=hx
   rw[h4] at h0
   exact fin h4 h5 h0 rfl
  ·cases h3
 simp only[stepOp] at hs
 split at hs
 ·rename_i hev
  rw[hev] at hy
  simp only[VR] at hy
  unfold doAppend at hs
  rw[if_pos ⟨by simp,by simp⟩,if_pos rfl] at hs
  exact zero hy rfl hs
 ·rename_i oo m ys hev
  rw[hev] at hy
  simp only[VR] at hy
  rcases hy with ⟨b2,off2,c2,hy1,hy2,hy3,_,hy4⟩|⟨_,rfl,rfl,x0,hy1⟩
  rotate_left
  ·unfold doAppend at hs
   rw[if_pos ⟨by simp,by simp⟩,if_pos rfl] at hs
   exact zero hy1 rfl hs
  unfold doAppend at hs
  split at hs
  ·rename_i hcond
   obtain⟨hyl,hcell⟩:=hcond
   split at hs
   ·rename_i hm
    subst hm
    exact zero hy1 rfl hs
   ·rename_i hm
    obtain⟨news,hn1,hn2⟩:=hy4.vals
    have hnl:news.length=m*i.size:=by rw[hn1.length,hyl]
    have hone:=oneCells_of hn1 hcell
    have hmax:maxList=1000000:=rfl
    split at hs
    · -- onto nil
     rename_i hxe
     rw[hxe] at hx
     simp only[VR] at hx
     split at hs
     ·rename_i hle
      have hbb:m*i.bytes≤281474976710656:=by
       have:m*i.bytes≤1000000*1024:=Nat.mul_le_mul (by omega) hby
       omega
      have hrun:=run_append_nil (P:=P) w t o.type e i zv hu hi hzv ⟨b2,off2,none⟩ m c2 news hnl hn2 (by omega) (by omega) hbb
      have hrun':=app_run (P:=P) (a:=a) ho hc hat har (by rw[hx,hy1];exact hrun)
      have hge:=grownCap_ge w m 0 e
      split at hs
      ·rename_i hmu
       subst hmu
       cases hs
       obtain⟨G',g1,g2,g3,_,_,g6⟩:=new_row (e:=e) (lo':=st.lo) true hw hn1 hnl hzs hge
       refine⟨G',_,g1,g2,Nat.le_refl _,.inl ⟨_,hrun',?_⟩⟩
       simp only[VR]
       exact⟨_,_,_,g3,rfl,hge,g6⟩
      ·rename_i hmu
       cases hs
       have hmu':mu=false:=by simpa using hmu
       obtain⟨G',g1,g2,g3,g4,g5,g6⟩:=new_row (e:=e) (lo':=st.lo) false hw hn1.share hnl hzs hge
       refine⟨G',_,g1,g2,Nat.le_refl _,.inl ⟨_,hrun',?_⟩⟩
       simp only[VR]
       exact .inl ⟨_,0,_,rfl,hge,fun _=>⟨_,g4 rfl,by simp⟩,⟨rfl,g3,g6⟩,g5⟩
     ·cases hs
    · -- onto a slice of the run's own
     rename_i tt sz' n cs hxe
     split at hs
     ·rename_i hc3
      obtain⟨hc3,hc4,hc5⟩:=hc3
      split at hs
      ·rename_i htag
       cases hs
       subst hc3
       rw[hxe] at hx
       simp only[VR] at hx
       rcases hx with ⟨b,off,cap,x1,x2,x3,⟨x4,x5,x6⟩,x7⟩|⟨e0,_⟩
       rotate_left
       ·cases e0
       subst x4
       obtain⟨t1,t2,t3⟩:=hw.tag x5
       rw[htag] at t3
       obtain⟨k1,arr,T,fr,k2,k3⟩:=t3
       have htl:tt<st.heap.length:=(List.getElem?_eq_some_iff.1 htag).1
       have hbe:G.be tt=none:=by
        cases hh:G.be tt with
        | none=>rfl
        | some b' =>
         obtain⟨_,_,_,_,oo,h4,h5⟩:=hw.obj hh
         rw[htag] at h4;cases h4;exact h5.elim
       obtain⟨c1,c2'⟩:=close_tag hw htl hbe
       have hlen1:(st.heap.set tt (.tag false)).length=st.heap.length:=by simp
       obtain⟨ols,o1,o2⟩:=x7.vals
       have hol:ols.length=n*i.size:=by rw[o1.length,hc4]
       have hlo:min st.lo tt≤tt:=Nat.min_le_right _ _
       by_cases hroom:n+m≤cap
       · -- there is room
        obtain⟨arr2,T2,fr2,r1,r2⟩:=x6
        rw[k2] at r1;cases r1
        have hfit:n*i.size+news.length≤arr.size:=by rw[hnl,← Nat.add_mul];exact Nat.le_trans (Nat.mul_le_mul_right _ hroom) r2
        have hst:=run_storeCells_th (P:=P) b (n*i.size) T fr news 0 arr w k2 k3 (by simpa using hfit) hone
        simp only[Nat.add_zero] at hst
        have hf:=run_firstCells_some (P:=P) w i.size m ⟨b2,off2,none⟩ m c2 news hnl hn2
        have hrun:(Builtin.append_ #[t,t] o.type #[.slice (some ⟨b,0,none⟩) n cap,.slice (some ⟨b2,off2,none⟩) m c2]).run P w = .ok (.slice (some ⟨b,0,none⟩) (n+m) cap) (w.putObj b (Obj.cells (arr.toList.take (n*i.size)++news++arr.toList.drop (n*i.size+news.length)).toArray T fr)):=by
         simp[Builtin.append_,run_underlying hu,sizeOf,typeInfo,hi,Builtin.lenOf,hroom,hf,Addr.add_lit,hst]
        have hrun':=app_run (P:=P) (a:=a) ho hc hat har (by rw[x1,hy1];exact hrun)
        have hasz:(arr.toList.take (n*i.size)++news++arr.toList.drop (n*i.size+news.length)).toArray.size=arr.size:=by
         simp only[List.size_toArray,List.length_append,List.length_take,List.length_drop,Array.length_toList];omega
        obtain⟨g1,g2⟩:=grow_row c1 false x5 (tag_dead hw x5 (by rw[htag];trivial)) (by simpa using k1) (cs++ys.map PV.share) arr _ T fr k2 k3 hasz (by simp;omega) (by simp)
         (fun _ j hj=>by
          rw[List.getElem?_toArray,List.append_assoc,List.getElem?_append_left (by simp;omega),List.getElem?_take,if_pos (by omega)]
          simp)
         (fun _ _ _ _ h=>by cases h)
        rw[hlen1] at g1 g2
        have hext:=(c2' (min st.lo tt) hlo).trans (g2 (min st.lo tt))
        refine⟨_,_,g1,hext,Nat.min_le_left _ _,.inl ⟨_,hrun',?_⟩⟩
        simp only[VR]
        have hplt:b<w.heap.size:=t2
        have hvr:VRL G w (cs++ys.map PV.share) (ols++news):=o1.append hn1.share
        refine .inl ⟨b,0,cap,rfl,hroom,fun _=>⟨(cs++ys.map PV.share).length,by simpa using upd_same _ _ _,by simp⟩,⟨rfl,by simpa using upd_same _ _ _,⟨_,T,fr,heap_put_same hplt,by rw[hasz];exact r2⟩⟩,?_⟩
        refine VRC.of_row (heap_put_same hplt) (hvr.mono hext.pres) (fun j u hj=>?_)
        rw[Nat.zero_add,List.getElem?_toArray]
        by_cases hjl:j<n*i.size
        ·rw[List.getElem?_append_left (by omega)] at hj
         rw[List.append_assoc,List.getElem?_append_left (by simp;omega),List.getElem?_take,if_pos hjl]
         have:=o2 j u hj
         rw[Addr.add_lit,cell_row k2,Nat.zero_add] at this
         simpa using this
        ·rw[List.getElem?_append_right (by omega)] at hj
         have hj2:=(List.getElem?_eq_some_iff.1 hj).1
         rw[List.getElem?_append_left (by simp;omega),List.getElem?_append_right (by simp;omega)]
         rw[← hj]
         congr 1
         simp only[List.length_take,Array.length_toList]
         omega
       · -- a new row
        have hbb:(n+m)*i.bytes≤140737488355328:=by
         have:(n+m)*i.bytes≤1000000*1024:=Nat.mul_le_mul (by omega) hby
         omega
        have hrun:=run_append_grow (P:=P) w t o.type e i zv hu hi hzv ⟨b,0,none⟩ n cap ols hol o2 ⟨b2,off2,none⟩ m c2 news hnl hn2 (by omega) (by omega) (growslice_fits (by omega) hbb)
        have hrun':=app_run (P:=P) (a:=a) ho hc hat har (by rw[x1,hy1];exact hrun)
        have hge:=grownCap_ge w (n+m) cap e
        have hvr:VRL G w (cs++ys.map PV.share) (ols++news):=o1.append hn1.share
        obtain⟨G',g1,g2,g3,g4,g5,g6⟩:=new_row (e:=e) (lo':=min st.lo tt) false c1 hvr (by rw[List.length_append,hol,hnl,Nat.add_mul]) hzs hge
        have e1:(ols.toArray++news.toArray)=(ols++news).toArray:=by simp
        rw[e1] at hrun'
        rw[hlen1] at g3
        refine⟨G',_,g1,(c2' (min st.lo tt) hlo).trans g2,Nat.min_le_left _ _,.inl ⟨_,hrun',?_⟩⟩
        simp only[VR]
        exact .inl ⟨_,0,_,rfl,hge,fun _=>⟨_,g4 rfl,by simp⟩,⟨rfl,g3,g6⟩,g5⟩
      ·cases hs
     ·cases hs
    · -- onto a slice that may be written
     rename_i tt sz' n hxe
     split at hs
     ·rename_i cs htag
      split at hs
      ·rename_i hc3
       obtain⟨hc3,hc4,hc5⟩:=hc3
       cases hs
       subst hc3
       rw[hxe] at hx
       simp only[VR] at hx
       obtain⟨b,eb,cap,x5,x1,x2,x6⟩:=hx
       obtain⟨k1,k2e,⟨arr,T,fr,k2,k4,k3⟩,x7⟩:=hw.arr x5 htag
       obtain⟨t1,t2,_⟩:=hw.tag x5
       have htl:tt<st.heap.length:=(List.getElem?_eq_some_iff.1 htag).1
       have hbe:G.be tt=none:=by
        cases hh:G.be tt with
        | none=>rfl
        | some b' =>
         obtain⟨_,_,_,_,oo,h4,h5⟩:=hw.obj hh
         rw[htag] at h4;cases h4;exact h5.elim
       obtain⟨c1,c2'⟩:=close_tag hw htl hbe
       have hlen1:(st.heap.set tt (.tag false)).length=st.heap.length:=by simp
       obtain⟨ols,o1,o2⟩:=x7.vals
       have hol:ols.length=n*i.size:=by rw[o1.length,hc4]
       have hlo:min st.lo tt≤tt:=Nat.min_le_right _ _
       by_cases hroom:n+m≤cap
       ·obtain⟨arr2,T2,fr2,r1,r2⟩:=x6
        rw[k2] at r1;cases r1
        have hfit:n*i.size+news.length≤arr.size:=by rw[hnl,← Nat.add_mul];exact Nat.le_trans (Nat.mul_le_mul_right _ hroom) r2
        have hst:=run_storeCells_th (P:=P) b (n*i.size) T fr news 0 arr w k2 k3 (by simpa using hfit) hone
        simp only[Nat.add_zero] at hst
        have hf:=run_firstCells_some (P:=P) w i.size m ⟨b2,off2,none⟩ m c2 news hnl hn2
        have hrun:(Builtin.append_ #[t,t] o.type #[.slice (some ⟨b,0,none⟩) n cap,.slice (some ⟨b2,off2,none⟩) m c2]).run P w = .ok (.slice (some ⟨b,0,none⟩) (n+m) cap) (w.putObj b (Obj.cells (arr.toList.take (n*i.size)++news++arr.toList.drop (n*i.size+news.length)).toArray T fr)):=by
         simp[Builtin.append_,run_underlying hu,sizeOf,typeInfo,hi,Builtin.lenOf,hroom,hf,Addr.add_lit,hst]
        have hrun':=app_run (P:=P) (a:=a) ho hc hat har (by rw[x1,hy1];exact hrun)
        have hasz:(arr.toList.take (n*i.size)++news++arr.toList.drop (n*i.size+news.length)).toArray.size=arr.size:=by
         simp only[List.size_toArray,List.length_append,List.length_take,List.length_drop,Array.length_toList];omega
        have hvr:VRL G w (cs++ys) (ols++news):=o1.append hn1
        have hcells:∀ (j:Nat) (u:Value),(ols++news)[j]? = some u→(arr.toList.take (n*i.size)++news++arr.toList.drop (n*i.size+news.length)).toArray[0+j]? = some u:=by
         intro j u hj
         rw[Nat.zero_add,List.getElem?_toArray]
         by_cases hjl:j<n*i.size
         ·rw[List.getElem?_append_left (by omega)] at hj
          rw[List.append_assoc,List.getElem?_append_left (by simp;omega),List.getElem?_take,if_pos hjl]
          have:=o2 j u hj
          rw[Addr.add_lit,cell_row k2,Nat.zero_add] at this
          simpa using this
         ·rw[List.getElem?_append_right (by omega)] at hj
          have hj2:=(List.getElem?_eq_some_iff.1 hj).1
          rw[List.getElem?_append_left (by simp;omega),List.getElem?_append_right (by simp;omega)]
          rw[← hj]
          congr 1
          simp only[List.length_take,Array.length_toList]
          omega
        obtain⟨g1,g2⟩:=grow_row c1 true x5 (tag_dead hw x5 (by rw[htag];trivial)) (by simpa using k1) (cs++ys) arr _ T fr k2 k3 hasz (by simp;omega) (by simp;omega) (fun h=>by cases h)
         (fun G' w' hp hh _=>VRC.of_row hh (hvr.mono hp) hcells)
        rw[hlen1] at g1 g2
        refine⟨_,_,g1,(c2' (min st.lo tt) hlo).trans (g2 (min st.lo tt)),Nat.min_le_left _ _,.inl ⟨_,hrun',?_⟩⟩
        simp only[VR]
        exact⟨b,_,cap,upd_same _ _ _,rfl,hroom,⟨_,T,fr,heap_put_same t2,by rw[hasz];exact r2⟩⟩
       ·have hbb:(n+m)*i.bytes≤140737488355328:=by
         have:(n+m)*i.bytes≤1000000*1024:=Nat.mul_le_mul (by omega) hby
         omega
        have hrun:=run_append_grow (P:=P) w t o.type e i zv hu hi hzv ⟨b,0,none⟩ n cap ols hol o2 ⟨b2,off2,none⟩ m c2 news hnl hn2 (by omega) (by omega) (growslice_fits (by omega) hbb)
        have hrun':=app_run (P:=P) (a:=a) ho hc hat har (by rw[x1,hy1];exact hrun)
        have hge:=grownCap_ge w (n+m) cap e
        have hvr:VRL G w (cs++ys) (ols++news):=o1.append hn1
        obtain⟨G',g1,g2,g3,g4,g5,g6⟩:=new_row (e:=e) (lo':=min st.lo tt) true c1 hvr (by rw[List.length_append,hol,hnl,Nat.add_mul]) hzs hge
        have e1:(ols.toArray++news.toArray)=(ols++news).toArray:=by simp
        rw[e1] at hrun'
        rw[hlen1] at g3
        refine⟨G',_,g1,(c2' (min st.lo tt) hlo).trans g2,Nat.min_le_left _ _,.inl ⟨_,hrun',?_⟩⟩
        simp only[VR]
        exact⟨_,_,_,g3,rfl,hge,g6⟩
      ·cases hs
     ·cases hs
    ·cases hs
  ·cases hs
 ·cases hs
end
end Go.Den
end

/- Part of the proofs of laws of the package version. Texts: VtA, VtB. -/
import Derived.Test.YtehdcjbdhkkipaaGreatDoorVHAh
set_option linter.unusedSimpArgs false
set_option linter.unusedVariables false
section
namespace Go.Den.Ve
theorem wops_invoke {E:Env} {Q:Ex→List PV→St→Prop} {tm:List PV} {st:St} {x:Opd} {m:String} {args:List Opd} {dst:Option Nat} {g:Option (Nat×Bool)} {os:List DOper} {b:Bool} {t f:Nat} {v u:PV} {st1:St} (hw:wants tm g=b) (hb:b=true) (hx:x.ev tm = .iface t v) (hm:E.meth t m=some f) (hc:Cl E (.func f [] []) (v::evs tm args) st (.ret u) st1) (h:WOps E os Q (put tm dst u) st1):WOps E (⟨.invoke x m args,dst,g⟩::os) Q tm st:=by
 obtain ⟨N,hN⟩:=hc
 refine wops_cons (hw.trans hb) N (fun n hn=>?_) h
 simp only [stepOp,hx,hm,hN n hn]
theorem wops_invokeR {E:Env} {Q:Ex→List PV→St→Prop} {tm:List PV} {st:St} {x:Opd} {m:String} {args:List Opd} {dst:Option Nat} {g:Option (Nat×Bool)} {os:List DOper} {b:Bool} {t f:Nat} {v:PV} {P:PV→St→Prop} (hw:wants tm g=b) (hb:b=true) (hx:x.ev tm = .iface t v) (hm:E.meth t m=some f) (hc:ClR E (.func f [] []) (v::evs tm args) st P) (h:∀ u st1,P u st1→WOps E os Q (put tm dst u) st1):WOps E (⟨.invoke x m args,dst,g⟩::os) Q tm st:=by
 obtain ⟨u,st1,h1,h2⟩:=hc
 exact wops_invoke hw hb hx hm h1 (h u st1 h2)
theorem c170 (st:St):Cl EE (.func 170 [] []) [] st (.ret (.agg [.str (toB bookW),.str (toB copyW),.str (toB lineW),.str (toB lostW)])) st:=by
 refine cF0 pr170 fn170 (fun tm hl=>?_)
 refine go2 hl fnil ?_
 refine fnq_flat (results_one ?_) (by simp only [lo_push,lo_setVar];omega) (by rfl)
 rw [rdRes_hp (l:=st.heap.length) (off:=0) (sG hl)]
 simp only [↓reduceIte,go_sem,hl]
 rfl
theorem c223 (n:Int) (st:St):ClR EE (.func 223 [] []) [iv n] st (RetW st 1 ([n].flatMap encI)):=by
 refine cG1 pr223 fn223 (fun tm hl h0=>?_)
 refine go2 (bw hl h0) fnil ?_
 refine fX (.slice (.tag st.heap.length 1) 1 [iv n]) hl ?_
 exact finish_sl (n:=1) (cs:=[iv n]) rfl (by simp only [lo_push];omega) (fun m=>rfl)
theorem c224 (v:PV) (hv:v = .agg []) (st:St):ClR EE (.func 224 [] []) [v] st (RetW st 0 (([]:List Int).flatMap encI)):=by
 subst hv
 refine cG1 pr224 fn224 (fun tm hl h0=>?_)
 refine go2 (bw hl h0) fnil ?_
 refine fX (.nilslice) hl ?_
 exact finish_sl (n:=0) (cs:=[]) rfl (by simp only [lo_push];omega) (fun m=>rfl)
theorem c225 (v:PV) (hv:v = .agg []) (st:St):ClR EE (.func 225 [] []) [v] st (RetW st 0 (([]:List Int).flatMap encI)):=by
 subst hv
 refine cG1 pr225 fn225 (fun tm hl h0=>?_)
 refine go2 (bw hl h0) fnil ?_
 refine fX (.nilslice) hl ?_
 exact finish_sl (n:=0) (cs:=[]) rfl (by simp only [lo_push];omega) (fun m=>rfl)
theorem c226 (L:PV) (l:List Int) (hL:SlOf 1 encI L l) (st:St):ClR EE (.func 226 [] []) [L] st (RetW st l.length (l.flatMap encI)):=by
 refine cG1 pr226 fn226 (fun tm hl h0=>?_)
 refine go2 (bw hl h0) fnil ?_
 refine fX (L) hl ?_
 exact finish_sl hL.sl (Nat.le_refl _) (fun m=>ints_low l m)
theorem c152 (n:Int) (h0:0≤n) (h1:n<100) (st:St):Cl EE (.func 152 [] []) [iv n] st (.ret (.str (toB (itoaL n.toNat)))) st:=by
 refine ⟨1,fun k hk=>?_⟩
 obtain ⟨m,rfl⟩:∃ m,k=m+1:=⟨k - 1,by omega⟩
 show stepCall EE (run EE m) (.func 152 [] []) [iv n] st=_
 have h2:EE.prim 152 (run EE m) ([]++[iv n]++[]) st=itoaR st [iv n]:=rfl
 simp only [stepCall,enter,h2,itoaR,h0,h1,and_self,if_true]
theorem c153 (v:PV) (l:List (List UInt8)) (sep:List UInt8) (hv:SlOf 1 encS v l) (hne:l≠[]) (hl:l.length≤1000) (hs:sep.length≤1000) (hb:∀ s∈l,s.length≤1000) (st:St):Cl EE (.func 153 [] []) [v,.str (toB sep)] st (.ret (.str (toB (List.intercalate sep l)))) st:=by
 refine ⟨1,fun k hk=>?_⟩
 obtain ⟨m,rfl⟩:∃ m,k=m+1:=⟨k - 1,by omega⟩
 show stepCall EE (run EE m) (.func 153 [] []) [v,.str (toB sep)] st=_
 have h2:EE.prim 153 (run EE m) ([]++[v,.str (toB sep)]++[]) st=joinR st [v,.str (toB sep)]:=rfl
 have h1:=hv.sl
 have h3:joinR st [v,.str (toB sep)]=some (some (.ret (.str (toB (List.intercalate sep l))),st)):=by
  cases v <;> simp only [PV.sl,Option.some.injEq,Prod.mk.injEq,reduceCtorEq] at h1
  ·obtain ⟨rfl,rfl⟩:=h1
   simp only [joinR,strs_enc,size_toB,unB_toB,List.map_map]
   have e1:l.map (unB ∘ toB)=l:=by
    have:(unB ∘ toB)=id:=by funext x;rfl
    rw [this,List.map_id]
   rw [if_pos,e1]
   refine ⟨?_,hl,hs,?_⟩
   ·rw [flatMap_len (sz:=1) (fun _ _=>rfl)];omega
   ·rw [List.all_eq_true]
    intro s hs
    simp only [List.mem_map] at hs
    obtain ⟨x,hx,rfl⟩:=hs
    exact decide_eq_true (hb x hx)
  ·exact absurd (List.eq_nil_of_length_eq_zero h1.1.symm) hne
 simp only [stepCall,enter,h2,h3]
theorem c155 (s:List UInt8) (b:UInt8) (hs:s.length≤100000) (st:St):Cl EE (.func 155 [] []) [.str (toB s),.str (toB [b])] st (.ret (.slice .shared (splitL b [] s).length ((splitL b [] s).flatMap encS))) st:=by
 refine ⟨1,fun k hk=>?_⟩
 obtain ⟨m,rfl⟩:∃ m,k=m+1:=⟨k - 1,by omega⟩
 show stepCall EE (run EE m) (.func 155 [] []) [.str (toB s),.str (toB [b])] st=_
 have h2:EE.prim 155 (run EE m) ([]++[.str (toB s),.str (toB [b])]++[]) st=splitR st [.str (toB s),.str (toB [b])]:=rfl
 have h3:splitR st [.str (toB s),.str (toB [b])]=some (some (.ret (.slice .shared (splitL b [] s).length ((splitL b [] s).flatMap encS)),st)):=by
  simp only [splitR,unB_toB,size_toB,hs,if_true]
 simp only [stepCall,enter,h2,h3]
def asR (t:Nat) (z v:PV) (st:St):Option OpR:=match v with
 | .iface t' v=>some (.val (if t'=t then .tuple [v,.bool true] else .tuple [z,.bool false]) st)
 | _=>none
theorem op_assertY {E:Env} {rec:Rec} {tm:List PV} {st:St} {t:Nat} {z:PV} {x:Opd}:stepOp E rec tm st (.assertT t z x)=asR t z (x.ev tm) st:=rfl
def kindW (k:Nat):List UInt8:=if k=0 then bookW else if k=1 then copyW else if k=2 then lineW else lostW
abbrev namesPV:PV := .agg [.str (toB bookW),.str (toB copyW),.str (toB lineW),.str (toB lostW)]
theorem names_at (k:Nat) (hk:k<4) {x i:Opd} (tm:List PV) (st:St) (hx:x.ev tm=namesPV) (hi:i.ev tm=iv k) (rec:Rec):stepOp EE rec tm st (.indexArr false 4 1 x i)=some (.val (.str (toB (kindW k))) st):=by
 have:k=0∨k=1∨k=2∨k=3:=by omega
 rcases this with rfl|rfl|rfl|rfl
 all_goals simp only [op_indexArr,hx,hi];rfl
set_option maxHeartbeats 4000000 in
theorem c151g (t fn k:Nat) (v:PV) (ns:List Int) (hn:EE.meth t "kelir/version.numbers"=some fn) (hcn:∀ st,ClR EE (.func fn [] []) [v] st (RetW st ns.length (ns.flatMap encI)))
  (hk:(k=0∧t=191)∨(k=1∧t=193)∨(k=2∧t=195)∨(k=3∧t=194)) (hns:∀ n∈ns,0≤n∧n<100) (hl3:ns.length≤1000) (st:St):Cl EE (.func 151 [] []) [.iface t v] st (.ret (.str (toB (rowL (kindW k) ns)))) st:=by
 refine cF1 pr151 fn151 (fun tm hl h0=>?_)
 have hk4:k<4:=by omega
 have hkl:(kindW k).length=4:=by
  have:k=0∨k=1∨k=2∨k=3:=by omega
  rcases this with rfl|rfl|rfl|rfl <;> rfl
 have hix:∀ (tm:List PV) (st:St),tg tm 17=namesPV→tg tm 18=iv k→∀ rec,stepOp EE rec tm st (.indexArr false 4 1 (.t 17) (.t 18))=some (.val (.str (toB (kindW k))) st):=fun tm st h1 h2 rec=>names_at k hk4 tm st (sG h1) (sG h2) rec
 generalize kindW k=W at hix hkl ⊢
 have n1:∀ (z v:PV) (st:St),asR 193 z (.iface t v) st=some (.val (if k=1 then .tuple [v,.bool true] else .tuple [z,.bool false]) st):=fun z v st=>by
  rcases hk with ⟨rfl,rfl⟩|⟨rfl,rfl⟩|⟨rfl,rfl⟩|⟨rfl,rfl⟩ <;> rfl
 have n2:∀ (z v:PV) (st:St),asR 195 z (.iface t v) st=some (.val (if k=2 then .tuple [v,.bool true] else .tuple [z,.bool false]) st):=fun z v st=>by
  rcases hk with ⟨rfl,rfl⟩|⟨rfl,rfl⟩|⟨rfl,rfl⟩|⟨rfl,rfl⟩ <;> rfl
 have n3:∀ (z v:PV) (st:St),asR 194 z (.iface t v) st=some (.val (if k=3 then .tuple [v,.bool true] else .tuple [z,.bool false]) st):=fun z v st=>by
  rcases hk with ⟨rfl,rfl⟩|⟨rfl,rfl⟩|⟨rfl,rfl⟩|⟨rfl,rfl⟩ <;> rfl
 rcases hk with ⟨rfl,rfl⟩|⟨rfl,rfl⟩|⟨rfl,rfl⟩|⟨rfl,rfl⟩
 all_goals
  refine go2 (bw6 hl h0 @op_assertY n1 n2 n3) (bw c170 fnil) ?_
  refine wops_one (v := .str (toB W)) rfl (hix _ _ (sG hl) (sR hl)) ?_
  refine go2 (bw hl h0) fnil ?_
  refine wops_invokeR rfl rfl (sR (bw hl h0)) hn (by simp only [↓reduceIte,go_sem,hl,h0];exact hcn _) ?_
  intro u st1 hR
  have hU:SlOf 1 encI u ns:=hR.own_sl (fun _=>rfl)
  have hUs:=hU.slen
  have r1:=hR.lo
  have r2:=hR.len
  simp only at r1 r2
  refine go2 (bw hl hUs) fnil ?_
  refine wp_range ns.length [4] (fun i vs st'=>vs=[.str (toB (rowL W (ns.take i)))]∧st'=st1) (by omega) (sG hl) (sG hl) (sG hl) (by decide) ⟨(sR hl),rfl⟩ ?_ ?_
  ·rintro i hi tm1 st2 ⟨hv,rfl⟩ hS hia
   simp only [List.map_cons,List.map_nil,List.cons.injEq,and_true] at hv
   have hl1:tm1.length=34:=lN hS hl;have i21:tg tm1 21=u:=tQ hS hl;clear hS
   have hr:=hns _ (List.getElem_mem hi)
   have hi2:=itoaL_len ns[i].toNat
   have hrl:=rowL_len W (ns.take i)
   have htl:(ns.take i).length≤1000:=by simp;omega
   have o1:(1+(itoaL ns[i].toNat).length≤1000000)=True:=by simp only [eq_iff_iff,iff_true];omega
   have o2:((rowL W (ns.take i)).length+((itoaL ns[i].toNat).length+1)≤1000000)=True:=by simp only [eq_iff_iff,iff_true];omega
   refine go2 (bw6 hl1 i21 hia hv o1 o2) (bw (c152 _ hr.1 hr.2) fnil) ?_
   rw [rowL_take W hi]
   exact ⟨(sG hl1),rfl⟩
  ·rintro tm1 st2 ⟨hv,rfl⟩ hS
   simp only [List.map_cons,List.map_nil,List.cons.injEq,and_true,List.take_length] at hv
   have hl1:tm1.length=34:=by rw [hS.1];simp only [↓reduceIte,go_sem,hl]
   refine go2 (bw hl1 hv) fnil ?_
   exact fnq_flat (results_one (by rw [rdRes_tmp];simp only [↓reduceIte,go_sem,hl1])) (by rw [r1];exact Nat.le_refl _) (by rfl)
theorem c151h (n:Int) (h:0≤n∧n<100) (st:St):Cl EE (.func 151 [] []) [.iface 191 (iv n)] st (.ret (.str (toB (rowL bookW [n])))) st :=
 c151g 191 223 0 (iv n) [n] rfl (fun st=>c223 n st) (.inl ⟨rfl,rfl⟩) (by simpa using h) (by simp) st
theorem c151s (st:St):Cl EE (.func 151 [] []) [.iface 193 (.agg [])] st (.ret (.str (toB copyW))) st :=
 c151g 193 224 1 (.agg []) [] rfl (fun st=>c224 _ rfl st) (.inr (.inl ⟨rfl,rfl⟩)) (by simp) (by simp) st
theorem c151v (L:PV) (l:List Int) (hL:SlOf 1 encI L l) (h:∀ n∈l,0≤n∧n<100) (hl:l.length≤1000) (st:St):Cl EE (.func 151 [] []) [.iface 195 L] st (.ret (.str (toB (rowL lineW l)))) st :=
 c151g 195 226 2 L l rfl (fun st=>c226 L l hL st) (.inr (.inr (.inl ⟨rfl,rfl⟩))) h hl st
theorem c151p (st:St):Cl EE (.func 151 [] []) [.iface 194 (.agg [])] st (.ret (.str (toB lostW))) st :=
 c151g 194 225 3 (.agg []) [] rfl (fun st=>c225 _ rfl st) (.inr (.inr (.inr ⟨rfl,rfl⟩))) (by simp) (by simp) st
end Go.Den.Ve
end
section
namespace Go.Den.Ve
structure OkP (b:BP):Prop where
 w:0≤b.words∧b.words<100
 n:∀ c∈b.cs,∀ x∈c.ls,x.lost=false→∀ n∈x.l,0≤n∧n<100
 rows:(rowsV b.bk).length≤450
 row:∀ r∈rowsV b.bk,r.length≤700
theorem rowL_ge (w:List UInt8) (ns:List Int):w.length+ns.length≤(rowL w ns).length:=by
 unfold rowL
 induction ns generalizing w with
 | nil=>simp
 | cons n ns ih =>
  have:=ih (w++(32::itoaL n.toNat))
  simp only [List.foldl_cons,List.length_append,List.length_cons] at this ⊢
  omega
def rowsK (b:BK) (k:Nat):List (List UInt8):=rowL bookW [b.words]::(b.copies.take k).flatMap copyRows
theorem rowsK_succ (b:BP) {k:Nat} (hk:k<b.cs.length):rowsK b.bk (k+1)=rowsK b.bk k++copyRows b.cs[k].c:=by
 have hk':k<b.bk.copies.length:=by simpa using hk
 rw [rowsK,List.take_succ_eq_append_getElem hk',List.flatMap_append,rowsK,List.cons_append]
 simp
theorem rowsK_le (b:BK) (k:Nat):(rowsK b k).length≤(rowsV b).length:=by
 have:(b.copies.flatMap copyRows).length=((b.copies.take k).flatMap copyRows).length+((b.copies.drop k).flatMap copyRows).length:=by
  rw [← List.length_append,← List.flatMap_append,List.take_append_drop]
 simp only [rowsK,rowsV,List.length_cons]
 omega
theorem OkP.cs {b:BP} (h:OkP b):b.cs.length≤450:=by
 have h1:∀ cs:List (List LN),cs.length≤(cs.flatMap copyRows).length:=fun cs=>by
  induction cs with
  | nil=>simp
  | cons c cs ih=>simp only [List.flatMap_cons,List.length_append,List.length_cons,copyRows] at ih ⊢;omega
 have h2:=h1 b.bk.copies
 have h3:=h.rows
 simp only [rowsV,List.length_cons,List.length_map] at h2 h3
 omega
theorem OkP.ls {b:BP} (h:OkP b) {c:CP} (hc:c∈b.cs):c.ls.length≤450:=by
 have h1:(copyRows c.c).length≤(b.bk.copies.flatMap copyRows).length:=by
  have:∀ cs:List (List LN),c.c∈cs→(copyRows c.c).length≤(cs.flatMap copyRows).length:=fun cs=>by
   induction cs with
   | nil=>intro h;cases h
   | cons d cs ih =>
    intro h
    simp only [List.flatMap_cons,List.length_append]
    rcases List.mem_cons.1 h with rfl|h
    ·omega
    ·have:=ih h;omega
  exact this _ (List.mem_map.2 ⟨c,hc,rfl⟩)
 have h3:=h.rows
 simp only [rowsV,copyRows,List.length_cons,List.length_map] at h1 h3
 omega
theorem OkP.l {b:BP} (h:OkP b) {c:CP} (hc:c∈b.cs) {x:LP} (hx:x∈c.ls) (hl:x.lost=false):x.l.length≤700:=by
 have h1:=h.row (lnRow x.ln) (by
  rw [rowsV]
  refine List.mem_cons_of_mem _ (List.mem_flatMap.2 ⟨c.c,List.mem_map.2 ⟨c,hc,rfl⟩,?_⟩)
  exact List.mem_cons_of_mem _ (List.mem_map.2 ⟨x.ln,List.mem_map.2 ⟨x,hx,rfl⟩,rfl⟩))
 have h2:lnRow x.ln=rowL lineW x.l:=by simp [lnRow,hl]
 have:=rowL_ge lineW x.l
 rw [h2] at h1
 omega
theorem rowSum_b {i:Nat} {r:List UInt8} (hi:i≤450):∀ k,k≤700→rowSum i r k≤k*81000000
 | 0,_=>by simp [rowSum]
 | k+1,hk=>by
  have:=rowSum_b (i:=i) (r:=r) hi k (by omega)
  have hb:(r.getD k 0).toNat≤255:=by have:=(r.getD k 0).toNat_lt;omega
  have h1:(r.getD k 0).toNat*(k+1)≤255*700:=Nat.mul_le_mul hb (by omega)
  have h2:(r.getD k 0).toNat*(k+1)*(i+1)≤255*700*451:=Nat.mul_le_mul h1 (by omega)
  simp only [rowSum]
  omega
theorem allSum_b {rows:List (List UInt8)} (h:∀ r∈rows,r.length≤700):∀ i,i≤450→allSum rows i≤i*56700000000
 | 0,_=>by simp [allSum]
 | i+1,hi=>by
  have h0:=allSum_b h i (by omega)
  have hl:(rows.getD i []).length≤700:=by
   rw [List.getD_eq_getElem?_getD]
   cases hr:rows[i]? with
   | none=>simp
   | some r=>exact h r (List.mem_of_getElem? hr)
  have h1:=rowSum_b (i:=i) (r:=rows.getD i []) (by omega) _ hl
  have h2:(rows.getD i []).length*81000000≤700*81000000:=Nat.mul_le_mul_right _ hl
  simp only [allSum]
  omega
set_option maxHeartbeats 8000000 in
theorem c121 (b:BP) (hP:OkP b) (st:St):Cl EE (.func 121 [] []) [b.pv] st (.ret (.str (toB (textV b.bk)))) st:=by
 have hB:=b.h
 have hc4:=hP.cs
 have k1:=fun st=>c151h b.words hP.w st
 refine cF1 pr121 fn121 (fun tm hl h0=>?_)
 refine go2 (bw hl h0) (bw k1 fnil) ?_
 refine wp_range b.cs.length [3] (fun k vs st'=>∃ v,vs=[v]∧OwnS st.heap.length st' 1 v (rowsK b.bk k).length ((rowsK b.bk k).flatMap encS)∧hp st' st.heap.length=some (.var [iv b.words,b.v])∧st.heap.length≤st'.lo∧st'.lo≤st'.heap.length) (by omega) (sG hl) (sG hl) (sG hl) (by decide) ⟨_,(sR hl),⟨by simp [rowsK,encS],.inr ⟨st.heap.length+1,by simp [rowsK,encS],by omega,(sG fnil)⟩⟩,(sG fnil),by simp [lo_push],by simp only [lo_push,len_push];omega⟩ ?_ ?_
 ·rintro k hk tm1 st1 ⟨v,hv,hO,d0,hlo,hwf⟩ hS hka
  simp only [List.map_cons,List.map_nil,List.cons.injEq,and_true] at hv
  have hl1:tm1.length=100:=lN hS hl;have j18:tg tm1 18=b.v:=tQ hS hl;clear hS
  have hC:=b.cs[k].h
  have hcl:=hP.ls (List.getElem_mem hk)
  have hks:=rowsK_succ b hk
  have hkl:=rowsK_le b.bk (k+1)
  have hrr:=hP.rows
  have hkl2:(rowsK b.bk k).length+(b.cs[k].ls.length+1)≤450:=by rw [hks,List.length_append] at hkl;simp [copyRows] at hkl;omega
  refine go2 (bw3 hl1 j18 hka) (bw c151s fnil) ?_
  refine aP (bw hl1 hv) (hO.push) ?_
  intro v1 s2 hO2 hF2 hk2
  have y1:=hF2.lo
  have y2:=hF2.up
  have y3:=hF2.len
  simp only [lo_push,len_push] at y1 y2 y3
  have e0:hp s2 st.heap.length=some (.var [iv b.words,b.v]):=hk2 _ _ (by rw [hp_push,if_neg (by have:=hp_lt d0;omega)];exact d0) (by simp)
  refine go2 hl1 fnil ?_
  refine wp_range b.cs[k].ls.length [3] (fun q vs s'=>∃ u,vs=[u]∧OwnS st.heap.length s' 1 u (rowsK b.bk k++copyW::(b.cs[k].c.take q).map lnRow).length ((rowsK b.bk k++copyW::(b.cs[k].c.take q).map lnRow).flatMap encS)∧hp s' st.heap.length=some (.var [iv b.words,b.v])∧st.heap.length≤s'.lo∧s'.lo≤s'.heap.length) (by omega) (sG hl1) (sG hl1) (sG hl1) (by decide) ⟨v1,(sG hl1),by simpa [share_str,encS] using hO2,e0,by omega,by omega⟩ ?_ ?_
  ·clear hO d0 hlo hwf hO2 e0 y1 y2 y3
   rintro q hq tm2 s3 ⟨u,hu,hO,d0,hlo,hwf⟩ hS2 hqa
   simp only [List.map_cons,List.map_nil,List.cons.injEq,and_true] at hu
   have hl2:tm2.length=100:=lN hS2 hl1;have k30:tg tm2 30=b.cs[k].v:=tQ hS2 hl1;clear hS2
   have hqc:q<b.cs[k].c.length:=by simpa using hq
   have hqs:(b.cs[k].c.take (q+1)).map lnRow=(b.cs[k].c.take q).map lnRow++[lnRow b.cs[k].ls[q].ln]:=by rw [List.take_succ_eq_append_getElem hqc,List.map_append];simp
   have hO0:=own_new (z:=[.bool false,.nilslice]) (y:=[.bool b.cs[k].ls[q].lost,b.cs[k].ls[q].w]) hO
   have ld0:=hp_lt d0
   have hll:(rowsK b.bk k++copyW::(b.cs[k].c.take q).map lnRow).length≤450:=by simp only [List.length_append,List.length_cons,List.length_map,List.length_take];omega
   cases hlost:b.cs[k].ls[q].lost
   ·rw [hlost] at hO0
    have hn:=hP.n _ (List.getElem_mem hk) _ (List.getElem_mem hq) hlost
    have hnl:=hP.l (List.getElem_mem hk) (List.getElem_mem hq) hlost
    have kv:=fun st=>c151v b.cs[k].ls[q].w b.cs[k].ls[q].l b.cs[k].ls[q].h hn (by omega) st
    have hrow:lnRow b.cs[k].ls[q].ln=rowL lineW b.cs[k].ls[q].l:=by simp [lnRow,hlost]
    refine go2 (bw4 hl2 k30 hqa hlost) (bw kv fnil) ?_
    refine aP (bw hl2 hu) (hO0.push) ?_
    intro u' s4 hO4 hF4 hk4'
    have z1:=hF4.lo
    have z2:=hF4.up
    have z3:=hF4.len
    simp only [lo_push,len_push,lo_setVar,len_setVar] at z1 z2 z3
    refine go2 hl2 fnil ?_
    refine ⟨u',(sG hl2),?_,hk4' _ _ (sG (bw d0 (n4 ld0))) (by simp),by omega,by omega⟩
    rw [hqs,hrow]
    simpa [share_str,encS,Nat.add_assoc] using hO4
   ·rw [hlost] at hO0
    have hrow:lnRow b.cs[k].ls[q].ln=lostW:=by simp [lnRow,hlost]
    refine go2 (bw4 hl2 k30 hqa hlost) (bw c151p fnil) ?_
    refine aP (bw hl2 hu) (hO0.push) ?_
    intro u' s4 hO4 hF4 hk4'
    have z1:=hF4.lo
    have z2:=hF4.up
    have z3:=hF4.len
    simp only [lo_push,len_push,lo_setVar,len_setVar] at z1 z2 z3
    refine go2 hl2 fnil ?_
    refine ⟨u',(sG hl2),?_,hk4' _ _ (sG (bw d0 (n4 ld0))) (by simp),by omega,by omega⟩
    rw [hqs,hrow]
    simpa [share_str,encS,Nat.add_assoc] using hO4
  ·clear hO d0 hlo hwf hO2 e0 y1 y2 y3
   rintro tm2 s3 ⟨u,hu,hO,d0,hlo,hwf⟩ hS2
   simp only [List.map_cons,List.map_nil,List.cons.injEq,and_true] at hu
   have hl2:tm2.length=100:=by rw [hS2.1];simp only [↓reduceIte,go_sem,hl1]
   refine go2 hl2 fnil ?_
   refine ⟨u,(sG (bw hl2 hu)),?_,d0,hlo,hwf⟩
   rw [hks,copyRows]
   rw [List.take_of_length_le (by simp)] at hO
   exact hO
 ·rintro tm1 st1 ⟨v,hv,hO,d0,hlo,hwf⟩ hS
  simp only [List.map_cons,List.map_nil,List.cons.injEq,and_true] at hv
  have hl1:tm1.length=100:=by rw [hS.1];simp only [↓reduceIte,go_sem,hl]
  have her:rowsK b.bk b.cs.length=rowsV b.bk:=by rw [rowsK,rowsV,List.take_of_length_le (by simp)]
  rw [her] at hO
  have hrows:=hP.row
  have hrl:=hP.rows
  have hab:=allSum_b hrows
  have ht:textV b.bk=sealL (rowsV b.bk) 197:=rfl
  rw [ht]
  generalize rowsV b.bk=R at hO hrows hrl hab
  have hV:SlOf 1 encS v R:=SlOf.of_sl hO.sl rfl rfl (fun _=>rfl)
  have hVs:=hV.slen
  refine go2 (bw3 hl1 hv hVs) fnil ?_
  refine wp_range R.length [8] (fun i vs st'=>vs=[iv (allSum R i)]∧st'=st1) (by omega) (sG hl1) (sG hl1) (sG hl1) (by decide) ⟨(sR hl1),rfl⟩ ?_ ?_
  ·rintro i hi tm2 st2 ⟨hv6,rfl⟩ hS hia
   simp only [List.map_cons,List.map_nil,List.cons.injEq,and_true] at hv6
   have hl2:tm2.length=100:=lN hS hl1;have i53:tg tm2 53=v:=tQ hS (bw hl1 hv);clear hS
   have hri:=hrows _ (List.getElem_mem hi)
   have hgi:R.getD i []=R[i]:=by rw [List.getD_eq_getElem?_getD,List.getElem?_eq_getElem hi];rfl
   have habi:=hab i (by omega)
   refine go2 (bw3 hl2 i53 hia) fnil ?_
   refine wp_range R[i].length [8] (fun k vs st'=>vs=[iv ((allSum R i+rowSum i R[i] k:Nat):Int)]∧st'=st2) (by omega) (sG hl2) (sG hl2) (sG hl2) (by decide) ⟨(sR (bw hl2 hv6)),rfl⟩ ?_ ?_
   ·rintro k hk tm3 st3 ⟨hw6,rfl⟩ hS hka
    simp only [List.map_cons,List.map_nil,List.cons.injEq,and_true] at hw6
    have hl3:tm3.length=100:=lN hS hl2;have k9:tg tm3 9=iv i:=tQ hS (bw hl2 hia);have k10:tg tm3 10 = .str (toB R[i]):=tQ hS (bw hl2 hia);clear hS
    have hgk:R[i].getD k 0=R[i][k]:=by rw [List.getD_eq_getElem?_getD,List.getElem?_eq_getElem hk];rfl
    have hix:=getElem?_toB R[i] k hk
    have hrb:=rowSum_b (i:=i) (r:=R[i]) (by omega) (k+1) (by omega)
    generalize hbd:R[i][k]=b at hix hgk
    have hb255:b.toNat<256:=b.toNat_lt
    have hk0:((0:Int)≤(k:Int))=True:=by simp
    have w46:IntKind.wrap .i64 (b.toNat:Int)=(b.toNat:Int):=wrap_nat (by omega)
    have w48:IntKind.wrap .i64 ((k:Int)+1)=((k+1:Nat):Int):=wrap_nat (n:=k+1) (by omega)
    have w51:IntKind.wrap .i64 ((i:Int)+1)=((i+1:Nat):Int):=wrap_nat (n:=i+1) (by omega)
    have b1:b.toNat*(k+1)≤255*701:=Nat.mul_le_mul (by omega) (by omega)
    have b2:b.toNat*(k+1)*(i+1)≤255*701*451:=Nat.mul_le_mul b1 (by omega)
    have w49:IntKind.wrap .i64 ((b.toNat:Int)*((k+1:Nat):Int))=((b.toNat*(k+1):Nat):Int):=by rw [← Int.natCast_mul];exact wrap_nat (by omega)
    have w52:IntKind.wrap .i64 (((b.toNat*(k+1):Nat):Int)*((i+1:Nat):Int))=((b.toNat*(k+1)*(i+1):Nat):Int):=by rw [← Int.natCast_mul];exact wrap_nat (by omega)
    have e53:allSum R i+rowSum i R[i] (k+1)=allSum R i+rowSum i R[i] k+b.toNat*(k+1)*(i+1):=by simp only [rowSum,hgk];omega
    have w53:IntKind.wrap .i64 (((allSum R i+rowSum i R[i] k:Nat):Int)+((b.toNat*(k+1)*(i+1):Nat):Int))=((allSum R i+rowSum i R[i] (k+1):Nat):Int):=by
     rw [← Int.natCast_add,← e53];exact wrap_nat (by omega)
    refine go2 (bw15 hl3 k9 k10 hka hw6 @op_indexStr hk0 Int.toNat_natCast hix w46 w48 w49 w51 w52 w53) fnil ?_
    exact ⟨(sG hl3),rfl⟩
   ·rintro tm3 st3 ⟨hw6,rfl⟩ hS
    simp only [List.map_cons,List.map_nil,List.cons.injEq,and_true] at hw6
    have hl3:tm3.length=100:=lN hS hl2;clear hS
    refine go2 hl3 fnil ?_
    refine ⟨?_,rfl⟩
    simp only [↓reduceIte,go_sem,hl3,hw6]
    simp only [allSum,hgi]
  ·rintro tm2 st2 ⟨hv6,rfl⟩ hS
   simp only [List.map_cons,List.map_nil,List.cons.injEq,and_true] at hv6
   have hl2:tm2.length=100:=lN hS hl1;have i3:tg tm2 3=v:=tQ hS (bw hl1 hv);clear hS
   have habn:=hab R.length (by omega)
   have er:endRow R 197=endW++itoaL (allSum R R.length % 197 / 100)++itoaL (allSum R R.length % 197 / 10 % 10)++itoaL (allSum R R.length % 197 % 10):=rfl
   generalize hAd:allSum R R.length=A at hv6 habn er
   have w57:Int.tmod (A:Int) 197=((A % 197:Nat):Int):=by rw [Int.natCast_emod];exact Int.tmod_eq_emod_of_nonneg (by omega)
   have hC:A % 197<197:=Nat.mod_lt _ (by omega)
   generalize hCd:A % 197=C at w57 hC er
   have w60:IntKind.wrap .i64 (Int.tdiv (C:Int) 100)=((C / 100:Nat):Int):=by rw [Int.tdiv_eq_ediv_of_nonneg (by omega)];exact wrap_nat (n:=C / 100) (by omega)
   have w64:IntKind.wrap .i64 (Int.tdiv (C:Int) 10)=((C / 10:Nat):Int):=by rw [Int.tdiv_eq_ediv_of_nonneg (by omega)];exact wrap_nat (n:=C / 10) (by omega)
   have w65:Int.tmod ((C / 10:Nat):Int) 10=((C / 10 % 10:Nat):Int):=by rw [Int.natCast_emod];exact Int.tmod_eq_emod_of_nonneg (by omega)
   have w69:Int.tmod (C:Int) 10=((C % 10:Nat):Int):=by rw [Int.natCast_emod];exact Int.tmod_eq_emod_of_nonneg (by omega)
   have hz:((197:Int)=0)=False:=by simp
   have hz2:((100:Int)=0)=False:=by simp
   have hz3:((10:Int)=0)=False:=by simp
   have q1:=fun st=>c152 ((C / 100:Nat):Int) (by omega) (by omega) st
   have q2:=fun st=>c152 ((C / 10 % 10:Nat):Int) (by omega) (by omega) st
   have q3:=fun st=>c152 ((C % 10:Nat):Int) (by omega) (by omega) st
   refine go2 (bw11 hl2 i3 hv6 w57 w60 w64 w65 w69 hz hz2 hz3) (bw4 q1 q2 q3 fnil) ?_
   have i1:=itoaL_len (C / 100)
   have i2:=itoaL_len (C / 10 % 10)
   have i4:=itoaL_len (C % 10)
   have i5:endW.length=4:=rfl
   refine wops_add (s:=endW) rfl rfl (sR hl2) (by simp only [↓reduceIte,go_sem,hl2,Int.toNat_natCast];first|done|rfl) (by first|omega|(simp only [List.length_append,List.length_cons,List.length_nil];omega)) ?_
   refine go2 (bw10 hl2 hv6 w57 w60 w64 w65 w69 hz hz2 hz3) (bw4 q1 q2 q3 fnil) ?_
   refine wops_add rfl rfl (sR hl2) (by simp only [↓reduceIte,go_sem,hl2,Int.toNat_natCast];first|done|rfl) (by first|omega|(simp only [List.length_append,List.length_cons,List.length_nil];omega)) ?_
   refine go2 (bw10 hl2 hv6 w57 w60 w64 w65 w69 hz hz2 hz3) (bw4 q1 q2 q3 fnil) ?_
   refine wops_add rfl rfl (sR hl2) (by simp only [↓reduceIte,go_sem,hl2,Int.toNat_natCast];first|done|rfl) (by first|omega|(simp only [List.length_append,List.length_cons,List.length_nil];omega)) ?_
   refine go2 hl2 fnil ?_
   have erl:(endRow R 197).length≤10:=by rw [er];simp [endW];omega
   rw [← er]
   generalize hRd:endRow R 197=E at erl
   have ht:sealL R 197=List.intercalate [10] (R++[E])++[10]:=by rw [sealL,hRd]
   rw [ht]
   refine aP hl2 (hO.push) ?_
   intro v' st3 hO' hFr hk
   have f1:=hFr.lo
   have f2:=hFr.up
   have f3:=hFr.len
   simp only [lo_push,len_push] at f1 f2 f3
   have hV':SlOf 1 encS v' (R++[E]):=SlOf.of_sl hO'.sl (by simp) (by simp [share_str,encS]) (fun _=>rfl)
   have hjoin:=c153 v' (R++[E]) [10] hV' (by simp) (by simp;omega) (by simp) (fun s hs=>by
    rcases List.mem_append.1 hs with h|h
    ·have:=hrows s h;omega
    ·simp only [List.mem_singleton] at h;subst h;omega) st3
   refine go2 hl2 (bw hjoin fnil) ?_
   have hil:=inter_len 700 (R++[E]) (fun s hs=>by
    rcases List.mem_append.1 hs with h|h
    ·exact hrows s h
    ·simp only [List.mem_singleton] at h;subst h;omega)
   have hil2:(R++[E]).length≤451:=by simp;omega
   have hil3:(R++[E]).length*701≤451*701:=Nat.mul_le_mul_right _ hil2
   refine wops_add (s:=List.intercalate [10] (R++[E])) (t:=[10]) rfl rfl (sR hl2) (sR hl2) (by simp only [List.length_cons,List.length_nil];omega) ?_
   refine go2 hl2 fnil ?_
   refine fnq_flat (results_one (by rw [rdRes_tmp];simp only [↓reduceIte,go_sem,hl2];first|done|rfl)) (by omega) (by rfl)
set_option maxHeartbeats 8000000 in
theorem c121h (b:BP) (hP:OkP b) (l:Nat) (st:St) (ha:hp st l=some (.arr (b.cs.map CP.v))):Cl EE (.func 121 [] []) [.agg [.int .i64 b.words,.hslice l 1 b.cs.length]] st (.ret (.str (toB (textV b.bk)))) st:=by
 have ha0:hp { heap:=st.heap,lo:=st.heap.length } l=some (.arr (b.cs.map CP.v)):=ha
 have hll0:=hp_lt ha
 have hc4:=hP.cs
 have k1:=fun st=>c151h b.words hP.w st
 refine cF1 pr121 fn121 (fun tm hl h0=>?_)
 refine go2 (bw hl h0) (bw k1 fnil) ?_
 refine wp_range b.cs.length [3] (fun k vs st'=>∃ v,vs=[v]∧OwnS st.heap.length st' 1 v (rowsK b.bk k).length ((rowsK b.bk k).flatMap encS)∧hp st' st.heap.length=some (.var [iv b.words,.hslice l 1 b.cs.length])∧hp st' l=some (.arr (b.cs.map CP.v))∧st.heap.length≤st'.lo∧st'.lo≤st'.heap.length) (by omega) (sG hl) (sG hl) (sG hl) (by decide) ⟨_,(sR hl),⟨by simp [rowsK,encS],.inr ⟨st.heap.length+1,by simp [rowsK,encS],by omega,(sG fnil)⟩⟩,(sG fnil),(sG (bw ha0 (n4 hll0))),by simp [lo_push],by simp only [lo_push,len_push];omega⟩ ?_ ?_
 ·rintro k hk tm1 st1 ⟨v,hv,hO,d0,dA,hlo,hwf⟩ hS hka
  simp only [List.map_cons,List.map_nil,List.cons.injEq,and_true] at hv
  have hl1:tm1.length=100:=lN hS hl;have j18:tg tm1 18 = .hslice l 1 b.cs.length:=tQ hS hl;clear hS
  have hC:=b.cs[k].h
  have hcl:=hP.ls (List.getElem_mem hk)
  have hks:=rowsK_succ b hk
  have hkl:=rowsK_le b.bk (k+1)
  have hrr:=hP.rows
  have hkl2:(rowsK b.bk k).length+(b.cs[k].ls.length+1)≤450:=by rw [hks,List.length_append] at hkl;simp [copyRows] at hkl;omega
  have hI:idxR 1 (.hslice l 1 b.cs.length) (.int .i64 (k:Int)) st1=some (.val (.aptr l (k*1)) st1):=by rw [idxR_h,if_pos hk]
  have hL:ldR false 1 (.aptr l (k*1)) st1=some (.val b.cs[k].v st1):=by
   rw [ldR_aptr dA,Nat.mul_one,if_pos (by rw [List.length_map];omega),List.drop_eq_getElem_cons (by rw [List.length_map];exact hk),List.getElem_map]
   rfl
  refine go2 (bw6 hl1 j18 hka @op_indexAddrM hI hL) (bw c151s fnil) ?_
  refine aP (bw hl1 hv) (hO.push) ?_
  intro v1 s2 hO2 hF2 hk2
  have y1:=hF2.lo
  have y2:=hF2.up
  have y3:=hF2.len
  simp only [lo_push,len_push] at y1 y2 y3
  have e0:hp s2 st.heap.length=some (.var [iv b.words,.hslice l 1 b.cs.length]):=hk2 _ _ (by rw [hp_push,if_neg (by have:=hp_lt d0;omega)];exact d0) (by simp)
  have eA:hp s2 l=some (.arr (b.cs.map CP.v)):=hk2 _ _ (by rw [hp_push,if_neg (by have:=hp_lt dA;omega)];exact dA) (by simp)
  refine go2 hl1 fnil ?_
  refine wp_range b.cs[k].ls.length [3] (fun q vs s'=>∃ u,vs=[u]∧OwnS st.heap.length s' 1 u (rowsK b.bk k++copyW::(b.cs[k].c.take q).map lnRow).length ((rowsK b.bk k++copyW::(b.cs[k].c.take q).map lnRow).flatMap encS)∧hp s' st.heap.length=some (.var [iv b.words,.hslice l 1 b.cs.length])∧hp s' l=some (.arr (b.cs.map CP.v))∧st.heap.length≤s'.lo∧s'.lo≤s'.heap.length) (by omega) (sG hl1) (sG hl1) (sG hl1) (by decide) ⟨v1,(sG hl1),by simpa [share_str,encS] using hO2,e0,eA,by omega,by omega⟩ ?_ ?_
  ·clear hO d0 dA hlo hwf hO2 e0 eA y1 y2 y3 hI hL
   rintro q hq tm2 s3 ⟨u,hu,hO,d0,dA,hlo,hwf⟩ hS2 hqa
   simp only [List.map_cons,List.map_nil,List.cons.injEq,and_true] at hu
   have hl2:tm2.length=100:=lN hS2 hl1;have k30:tg tm2 30=b.cs[k].v:=tQ hS2 hl1;clear hS2
   have hqc:q<b.cs[k].c.length:=by simpa using hq
   have hqs:(b.cs[k].c.take (q+1)).map lnRow=(b.cs[k].c.take q).map lnRow++[lnRow b.cs[k].ls[q].ln]:=by rw [List.take_succ_eq_append_getElem hqc,List.map_append];simp
   have hO0:=own_new (z:=[.bool false,.nilslice]) (y:=[.bool b.cs[k].ls[q].lost,b.cs[k].ls[q].w]) hO
   have ld0:=hp_lt d0
   have ldA:=hp_lt dA
   have hll:(rowsK b.bk k++copyW::(b.cs[k].c.take q).map lnRow).length≤450:=by simp only [List.length_append,List.length_cons,List.length_map,List.length_take];omega
   cases hlost:b.cs[k].ls[q].lost
   ·rw [hlost] at hO0
    have hn:=hP.n _ (List.getElem_mem hk) _ (List.getElem_mem hq) hlost
    have hnl:=hP.l (List.getElem_mem hk) (List.getElem_mem hq) hlost
    have kv:=fun st=>c151v b.cs[k].ls[q].w b.cs[k].ls[q].l b.cs[k].ls[q].h hn (by omega) st
    have hrow:lnRow b.cs[k].ls[q].ln=rowL lineW b.cs[k].ls[q].l:=by simp [lnRow,hlost]
    refine go2 (bw4 hl2 k30 hqa hlost) (bw kv fnil) ?_
    refine aP (bw hl2 hu) (hO0.push) ?_
    intro u' s4 hO4 hF4 hk4'
    have z1:=hF4.lo
    have z2:=hF4.up
    have z3:=hF4.len
    simp only [lo_push,len_push,lo_setVar,len_setVar] at z1 z2 z3
    refine go2 hl2 fnil ?_
    refine ⟨u',(sG hl2),?_,hk4' _ _ (sG (bw d0 (n4 ld0))) (by simp),hk4' _ _ (sG (bw dA (n4 ldA))) (by simp),by omega,by omega⟩
    rw [hqs,hrow]
    simpa [share_str,encS,Nat.add_assoc] using hO4
   ·rw [hlost] at hO0
    have hrow:lnRow b.cs[k].ls[q].ln=lostW:=by simp [lnRow,hlost]
    refine go2 (bw4 hl2 k30 hqa hlost) (bw c151p fnil) ?_
    refine aP (bw hl2 hu) (hO0.push) ?_
    intro u' s4 hO4 hF4 hk4'
    have z1:=hF4.lo
    have z2:=hF4.up
    have z3:=hF4.len
    simp only [lo_push,len_push,lo_setVar,len_setVar] at z1 z2 z3
    refine go2 hl2 fnil ?_
    refine ⟨u',(sG hl2),?_,hk4' _ _ (sG (bw d0 (n4 ld0))) (by simp),hk4' _ _ (sG (bw dA (n4 ldA))) (by simp),by omega,by omega⟩
    rw [hqs,hrow]
    simpa [share_str,encS,Nat.add_assoc] using hO4
  ·clear hO d0 dA hlo hwf hO2 e0 eA y1 y2 y3 hI hL
   rintro tm2 s3 ⟨u,hu,hO,d0,dA,hlo,hwf⟩ hS2
   simp only [List.map_cons,List.map_nil,List.cons.injEq,and_true] at hu
   have hl2:tm2.length=100:=by rw [hS2.1];simp only [↓reduceIte,go_sem,hl1]
   refine go2 hl2 fnil ?_
   refine ⟨u,(sG (bw hl2 hu)),?_,d0,dA,hlo,hwf⟩
   rw [hks,copyRows]
   rw [List.take_of_length_le (by simp)] at hO
   exact hO
 ·rintro tm1 st1 ⟨v,hv,hO,d0,dA,hlo,hwf⟩ hS
  simp only [List.map_cons,List.map_nil,List.cons.injEq,and_true] at hv
  have hl1:tm1.length=100:=by rw [hS.1];simp only [↓reduceIte,go_sem,hl]
  have her:rowsK b.bk b.cs.length=rowsV b.bk:=by rw [rowsK,rowsV,List.take_of_length_le (by simp)]
  rw [her] at hO
  have hrows:=hP.row
  have hrl:=hP.rows
  have hab:=allSum_b hrows
  have ht:textV b.bk=sealL (rowsV b.bk) 197:=rfl
  rw [ht]
  generalize rowsV b.bk=R at hO hrows hrl hab
  have hV:SlOf 1 encS v R:=SlOf.of_sl hO.sl rfl rfl (fun _=>rfl)
  have hVs:=hV.slen
  refine go2 (bw3 hl1 hv hVs) fnil ?_
  refine wp_range R.length [8] (fun i vs st'=>vs=[iv (allSum R i)]∧st'=st1) (by omega) (sG hl1) (sG hl1) (sG hl1) (by decide) ⟨(sR hl1),rfl⟩ ?_ ?_
  ·rintro i hi tm2 st2 ⟨hv6,rfl⟩ hS hia
   simp only [List.map_cons,List.map_nil,List.cons.injEq,and_true] at hv6
   have hl2:tm2.length=100:=lN hS hl1;have i53:tg tm2 53=v:=tQ hS (bw hl1 hv);clear hS
   have hri:=hrows _ (List.getElem_mem hi)
   have hgi:R.getD i []=R[i]:=by rw [List.getD_eq_getElem?_getD,List.getElem?_eq_getElem hi];rfl
   have habi:=hab i (by omega)
   refine go2 (bw3 hl2 i53 hia) fnil ?_
   refine wp_range R[i].length [8] (fun k vs st'=>vs=[iv ((allSum R i+rowSum i R[i] k:Nat):Int)]∧st'=st2) (by omega) (sG hl2) (sG hl2) (sG hl2) (by decide) ⟨(sR (bw hl2 hv6)),rfl⟩ ?_ ?_
   ·rintro k hk tm3 st3 ⟨hw6,rfl⟩ hS hka
    simp only [List.map_cons,List.map_nil,List.cons.injEq,and_true] at hw6
    have hl3:tm3.length=100:=lN hS hl2;have k9:tg tm3 9=iv i:=tQ hS (bw hl2 hia);have k10:tg tm3 10 = .str (toB R[i]):=tQ hS (bw hl2 hia);clear hS
    have hgk:R[i].getD k 0=R[i][k]:=by rw [List.getD_eq_getElem?_getD,List.getElem?_eq_getElem hk];rfl
    have hix:=getElem?_toB R[i] k hk
    have hrb:=rowSum_b (i:=i) (r:=R[i]) (by omega) (k+1) (by omega)
    generalize hbd:R[i][k]=b at hix hgk
    have hb255:b.toNat<256:=b.toNat_lt
    have hk0:((0:Int)≤(k:Int))=True:=by simp
    have w46:IntKind.wrap .i64 (b.toNat:Int)=(b.toNat:Int):=wrap_nat (by omega)
    have w48:IntKind.wrap .i64 ((k:Int)+1)=((k+1:Nat):Int):=wrap_nat (n:=k+1) (by omega)
    have w51:IntKind.wrap .i64 ((i:Int)+1)=((i+1:Nat):Int):=wrap_nat (n:=i+1) (by omega)
    have b1:b.toNat*(k+1)≤255*701:=Nat.mul_le_mul (by omega) (by omega)
    have b2:b.toNat*(k+1)*(i+1)≤255*701*451:=Nat.mul_le_mul b1 (by omega)
    have w49:IntKind.wrap .i64 ((b.toNat:Int)*((k+1:Nat):Int))=((b.toNat*(k+1):Nat):Int):=by rw [← Int.natCast_mul];exact wrap_nat (by omega)
    have w52:IntKind.wrap .i64 (((b.toNat*(k+1):Nat):Int)*((i+1:Nat):Int))=((b.toNat*(k+1)*(i+1):Nat):Int):=by rw [← Int.natCast_mul];exact wrap_nat (by omega)
    have e53:allSum R i+rowSum i R[i] (k+1)=allSum R i+rowSum i R[i] k+b.toNat*(k+1)*(i+1):=by simp only [rowSum,hgk];omega
    have w53:IntKind.wrap .i64 (((allSum R i+rowSum i R[i] k:Nat):Int)+((b.toNat*(k+1)*(i+1):Nat):Int))=((allSum R i+rowSum i R[i] (k+1):Nat):Int):=by
     rw [← Int.natCast_add,← e53];exact wrap_nat (by omega)
    refine go2 (bw15 hl3 k9 k10 hka hw6 @op_indexStr hk0 Int.toNat_natCast hix w46 w48 w49 w51 w52 w53) fnil ?_
    exact ⟨(sG hl3),rfl⟩
   ·rintro tm3 st3 ⟨hw6,rfl⟩ hS
    simp only [List.map_cons,List.map_nil,List.cons.injEq,and_true] at hw6
    have hl3:tm3.length=100:=lN hS hl2;clear hS
    refine go2 hl3 fnil ?_
    refine ⟨?_,rfl⟩
    simp only [↓reduceIte,go_sem,hl3,hw6]
    simp only [allSum,hgi]
  ·rintro tm2 st2 ⟨hv6,rfl⟩ hS
   simp only [List.map_cons,List.map_nil,List.cons.injEq,and_true] at hv6
   have hl2:tm2.length=100:=lN hS hl1;have i3:tg tm2 3=v:=tQ hS (bw hl1 hv);clear hS
   have habn:=hab R.length (by omega)
   have er:endRow R 197=endW++itoaL (allSum R R.length % 197 / 100)++itoaL (allSum R R.length % 197 / 10 % 10)++itoaL (allSum R R.length % 197 % 10):=rfl
   generalize hAd:allSum R R.length=A at hv6 habn er
   have w57:Int.tmod (A:Int) 197=((A % 197:Nat):Int):=by rw [Int.natCast_emod];exact Int.tmod_eq_emod_of_nonneg (by omega)
   have hC:A % 197<197:=Nat.mod_lt _ (by omega)
   generalize hCd:A % 197=C at w57 hC er
   have w60:IntKind.wrap .i64 (Int.tdiv (C:Int) 100)=((C / 100:Nat):Int):=by rw [Int.tdiv_eq_ediv_of_nonneg (by omega)];exact wrap_nat (n:=C / 100) (by omega)
   have w64:IntKind.wrap .i64 (Int.tdiv (C:Int) 10)=((C / 10:Nat):Int):=by rw [Int.tdiv_eq_ediv_of_nonneg (by omega)];exact wrap_nat (n:=C / 10) (by omega)
   have w65:Int.tmod ((C / 10:Nat):Int) 10=((C / 10 % 10:Nat):Int):=by rw [Int.natCast_emod];exact Int.tmod_eq_emod_of_nonneg (by omega)
   have w69:Int.tmod (C:Int) 10=((C % 10:Nat):Int):=by rw [Int.natCast_emod];exact Int.tmod_eq_emod_of_nonneg (by omega)
   have hz:((197:Int)=0)=False:=by simp
   have hz2:((100:Int)=0)=False:=by simp
   have hz3:((10:Int)=0)=False:=by simp
   have q1:=fun st=>c152 ((C / 100:Nat):Int) (by omega) (by omega) st
   have q2:=fun st=>c152 ((C / 10 % 10:Nat):Int) (by omega) (by omega) st
   have q3:=fun st=>c152 ((C % 10:Nat):Int) (by omega) (by omega) st
   refine go2 (bw11 hl2 i3 hv6 w57 w60 w64 w65 w69 hz hz2 hz3) (bw4 q1 q2 q3 fnil) ?_
   have i1:=itoaL_len (C / 100)
   have i2:=itoaL_len (C / 10 % 10)
   have i4:=itoaL_len (C % 10)
   have i5:endW.length=4:=rfl
   refine wops_add (s:=endW) rfl rfl (sR hl2) (by simp only [↓reduceIte,go_sem,hl2,Int.toNat_natCast];first|done|rfl) (by first|omega|(simp only [List.length_append,List.length_cons,List.length_nil];omega)) ?_
   refine go2 (bw10 hl2 hv6 w57 w60 w64 w65 w69 hz hz2 hz3) (bw4 q1 q2 q3 fnil) ?_
   refine wops_add rfl rfl (sR hl2) (by simp only [↓reduceIte,go_sem,hl2,Int.toNat_natCast];first|done|rfl) (by first|omega|(simp only [List.length_append,List.length_cons,List.length_nil];omega)) ?_
   refine go2 (bw10 hl2 hv6 w57 w60 w64 w65 w69 hz hz2 hz3) (bw4 q1 q2 q3 fnil) ?_
   refine wops_add rfl rfl (sR hl2) (by simp only [↓reduceIte,go_sem,hl2,Int.toNat_natCast];first|done|rfl) (by first|omega|(simp only [List.length_append,List.length_cons,List.length_nil];omega)) ?_
   refine go2 hl2 fnil ?_
   have erl:(endRow R 197).length≤10:=by rw [er];simp [endW];omega
   rw [← er]
   generalize hRd:endRow R 197=E at erl
   have ht:sealL R 197=List.intercalate [10] (R++[E])++[10]:=by rw [sealL,hRd]
   rw [ht]
   refine aP hl2 (hO.push) ?_
   intro v' st3 hO' hFr hk
   have f1:=hFr.lo
   have f2:=hFr.up
   have f3:=hFr.len
   simp only [lo_push,len_push] at f1 f2 f3
   have hV':SlOf 1 encS v' (R++[E]):=SlOf.of_sl hO'.sl (by simp) (by simp [share_str,encS]) (fun _=>rfl)
   have hjoin:=c153 v' (R++[E]) [10] hV' (by simp) (by simp;omega) (by simp) (fun s hs=>by
    rcases List.mem_append.1 hs with h|h
    ·have:=hrows s h;omega
    ·simp only [List.mem_singleton] at h;subst h;omega) st3
   refine go2 hl2 (bw hjoin fnil) ?_
   have hil:=inter_len 700 (R++[E]) (fun s hs=>by
    rcases List.mem_append.1 hs with h|h
    ·exact hrows s h
    ·simp only [List.mem_singleton] at h;subst h;omega)
   have hil2:(R++[E]).length≤451:=by simp;omega
   have hil3:(R++[E]).length*701≤451*701:=Nat.mul_le_mul_right _ hil2
   refine wops_add (s:=List.intercalate [10] (R++[E])) (t:=[10]) rfl rfl (sR hl2) (sR hl2) (by simp only [List.length_cons,List.length_nil];omega) ?_
   refine go2 hl2 fnil ?_
   refine fnq_flat (results_one (by rw [rdRes_tmp];simp only [↓reduceIte,go_sem,hl2];first|done|rfl)) (by omega) (by rfl)
theorem OkP.of {b:BP} (h:OkB b.bk):OkP b:=⟨⟨by have:=h.w1;have:(1:Int)≤b.words:=this;omega,by have:=h.w3;have:b.words≤3:=this;omega⟩,fun c hc x hx hl n hn=>by
  have h1:=(h.all c.c (List.mem_map.2 ⟨c,hc,rfl⟩)).2 x.ln (List.mem_map.2 ⟨x,hx,rfl⟩)
  have:=(lineB_iff.1 h1.1).2 n hn
  have hw:b.words≤3:=h.w3
  have e:b.bk.words=b.words:=rfl
  rw [e] at this
  omega,by have:=rowsV_many h;omega,fun r hr=>by have:=rowsV_len h r hr;omega⟩
end Go.Den.Ve
end

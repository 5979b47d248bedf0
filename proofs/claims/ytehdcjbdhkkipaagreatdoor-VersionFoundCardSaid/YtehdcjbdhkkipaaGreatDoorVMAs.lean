/- Part of the proofs of laws of the package version. Texts: VnI, VnJ, VnK, VnL, VnM. -/
import Derived.Test.YtehdcjbdhkkipaaGreatDoorVMAr
import Derived.Test.YtehdcjbdhkkipaaGreatDoorVMAl
set_option linter.unusedSimpArgs false
set_option linter.unusedVariables false
section
namespace Go.Den.Ve
def Left (W:Nat→Prop) (e u:Nat) (I:Nat→List HObj→Prop) (S:List HObj→Prop) (i n:Nat) (st:St) (r:Bool) (st':St):Prop :=
 (r=true→I (i+n) st'.heap)∧(r=false→S st'.heap)∧KeepV W st.heap st'.heap∧e≤st'.lo∧st'.lo≤st'.heap.length∧((n=0∧r=true∧st'=st)∨st'.lo≤u)
theorem left_fin{W:Nat→Prop}{e u:Nat}{I:Nat→List HObj→Prop}{S:List HObj→Prop}{i n:Nat}{st st1:St}{r:Bool}(h0:I i st.heap)(he:e≤st.lo)(hwf:st.lo≤st.heap.length)(hw:u<st.heap.length)(hk:KeepV W st.heap st1.heap)(he1:e≤st1.lo)
  (h:(st.heap.length≤st1.lo∧n=0∧r=true)∨(st1.lo≤u∧(r=true→I (i+n) st1.heap)∧(r=false→S st1.heap))) :
  ∃ r',(finishCall st st1 (.bool r)).1 = .bool r'∧Left W e u I S i n st r' (finishCall st st1 (.bool r)).2:=by
 rcases h with ⟨h1,rfl,rfl⟩|⟨h1,h2,h3⟩
 ·rw[finish_flat h1 rfl]
  exact⟨true,rfl,(fun _=>h0),(fun h=>by cases h),.refl _ _,he,hwf,.inl ⟨rfl,rfl,rfl⟩⟩
 ·unfold finishCall
  rw[if_neg (by omega)]
  exact⟨r,rfl,h2,h3,hk,by show e≤min st.lo st1.lo;omega,by show min st.lo st1.lo≤st1.heap.length;have:=hk.1;omega,.inr (by show min st.lo st1.lo≤u;omega)⟩
theorem c141(F:PV)(l:List Int)(hF:SlOf 1 encI F l)(hN:l.length<1000)(st:St):ClR EE (.func 141 [] []) [F] st (RetS st 1 l.length (l.flatMap encI)):=by
 have h:=hF.sl
 refine cG1 pr141 fn141 (fun tm hl h0=>?_)
 cases F with
 | nilslice =>
  simp only[PV.sl,Option.some.injEq,Prod.mk.injEq] at h
  have:l=[]:=by simpa using h.1.symm
  subst this
  refine go2 (bw hl h0) fnil ?_
  exact fnr_ret (results_one (v := .nilslice) (by rw[rdRes_tmp];simp only[↓reduceIte,go_sem,hl])) (OwnS.nil.finish (by simp) (fun m c hc=>by cases hc))
 | slice o n cs =>
  simp only[PV.sl,Option.some.injEq,Prod.mk.injEq] at h
  obtain⟨rfl,rfl⟩:=h
  refine go2 (bw hl h0) fnil ?_
  have hO:OwnS st.heap.length ((⟨st.heap,st.heap.length⟩:St).push (.tag true)) 1 (.slice (.tag st.heap.length 1) 0 []) 0 []:=⟨by simp,.inr ⟨_,rfl,Nat.le_refl _,by rw[hp_push,if_pos rfl]⟩⟩
  refine wops_append rfl rfl (sR hl) (sR (bw hl h0)) hO rfl (by simp only[len_push];omega) (by rw[flatMap_len (sz:=1) (fun _ _=>rfl)]) (by simp[encI_map,PV.isCell]) (by simp only[maxList];omega) ?_
  intro v' st2 hO' hFr hk
  refine go2 hl fnil ?_
  refine fnr_ret (results_one (v:=v') (by rw[rdRes_tmp];simp only[↓reduceIte,go_sem,hl])) (OwnS.finish (n:=l.length) (cs:=l.flatMap encI) ?_ ?_ (fun m c hc=>encI_low l m c hc))
  ·have:List.map PV.share (List.flatMap encI l)=List.flatMap encI l:=by simp[encI_map,PV.share]
   simpa[this] using hO'
  ·have:=hFr.lo
   simp only[lo_push] at this
   omega
 | _=>simp[PV.sl] at h
theorem wopsD_appendF{E:Env}{QD:Ex→List PV→St→List Foot→Prop}{tm:List PV}{st:St}{sz:Nat}{x y:Opd}{dst:Option Nat}{g:Option (Nat×Bool)}{os:List DOper}{b:Bool}{m n k:Nat}{v w:PV}{cs ys:List PV}(hlo:st.lo≤st.heap.length)(hw:wants tm g=b)(hb:b=true)(hx:x.ev tm=v)(hy:y.ev tm=w)(ho:OwnS m st sz v n cs)(hyl:w.sl=some (k,ys))(hm:m≤st.heap.length)(hl:ys.length=k*sz)(hc:ys.all PV.isCell=true)(hn:n+k≤maxList)
  (h:∀ v' st' ft,(∀ l,l<m→clash l ft=false)→OwnS m st' sz v' (n+k) (cs++ys.map PV.share)→Fr m st st'→(∀ l o,hp st l=some o→(∀ b,o ≠ .tag b)→hp st' l=some o)→WOpsD E os (fun e tm' st'' fs=>QD e tm' st'' (ft::fs)) (put tm dst v') st'):WOpsD E (⟨.append false sz x y,dst,g⟩::os) QD tm st:=by
 have ho':OwnS m { st with lo:=st.heap.length } sz v n cs:=ho.keep fun _ _ h=>h
 obtain⟨v',st1,h1,h2,h3,h4⟩:=ho'.append hm hl hc hn
 refine wopsD_cons (v:=v') (st1:=st1) (hw.trans hb) 0 (fun n _=>?_) ?_
 ·simp only[stepOp,hx,hy]
  cases w <;> simp only[PV.sl,Option.some.injEq,Prod.mk.injEq,reduceCtorEq] at hyl
  ·obtain⟨rfl,rfl⟩:=hyl;exact h1
  ·obtain⟨rfl,rfl⟩:=hyl;exact h1
 ·refine h v' { st1 with lo:=min st.lo st1.lo } _ (fun l hl=>?_) (h2.keep fun _ _ h=>h) ⟨h3.len,?_,h3.old,Nat.min_le_left _ _⟩ h4
  ·have:=h3.lo
   simp only at this
   simp only[footOf]
   split
   ·rfl
   ·simp only[clash,decide_eq_false_iff_not];omega
  ·have:=h3.lo
   simp only at this
   show min m st.lo≤min st.lo st1.lo
   omega
def RepL (v:PV) (x:List Int):Prop:=SlOf 1 encI v x∧v.share=elL x
def subL (w:Nat) (k:Nat) (now:List Int):List (List Int):=(listsL w k).map (now++·)
theorem subL_succ(w k:Nat)(now:List Int):subL w (k+1) now=(List.range w).flatMap fun (x:Nat)=>subL w k (now++[(x:Int)]):=by
 simp only[subL,listsL,List.map_flatMap,List.map_map]
 congr 1
 funext x
 congr 1
 funext l
 simp
theorem subL_zero(w:Nat)(now:List Int):subL w 0 now=[now]:=by simp[subL,listsL]
theorem subL_nil(w k:Nat):subL w k []=listsL w k:=by simp[subL]
section
variable{y:PV}{wd bW bL mY mS e u w:Nat}{X:List (List Int)}{W:Nat→Prop}{I:Nat→List HObj→Prop}{S:List HObj→Prop}{long:Nat}
set_option maxHeartbeats 4000000 in
theorem c140(hwd:wd<1000)(hlong:long<100)(Y:YldU EE y X RepL W e u w I S)(hWL:¬ W bL)(hWW:¬ W bW)(hWy:¬ W mY)(hWs:¬ W mS) :
  ∀ (k:Nat) (now:List Int) (v:PV) (st:St) (i:Nat),RepL v now→now.length+k=long→subL wd k now <+: X.drop i→I i st.heap→e≤st.lo→st.lo≤st.heap.length→w<st.heap.length →
   hp st bL=some (.var [iv long])→hp st bW=some (.var [iv wd])→hp st mY=some (.var [y])→hp st mS=some (.var [.func 140 [] [.ptr bL 0,.ptr mY 0,.ptr bW 0,.ptr mS 0]]) →
   ClR EE (.func 140 [] [.ptr bL 0,.ptr mY 0,.ptr bW 0,.ptr mS 0]) [v] st (fun q st'=>∃ r,q = .bool r∧Left W e u I S i (subL wd k now).length st r st')
 | 0,now,v,st,i,hv,hlen,hX,hI,helo,hwf,hw,hbL,hbW,hy,hs=>by
  have hvs:=hv.1.slen
  have hbL':hp { heap:=st.heap,lo:=st.heap.length } bL=some (.var [iv long]):=hbL
  have hy':hp { heap:=st.heap,lo:=st.heap.length } mY=some (.var [y]):=hy
  have hbe:((now.length:Int)==(long:Int))=true:=by simp;omega
  rw[subL_zero] at hX ⊢
  obtain⟨t,ht⟩:=hX
  have hi:i<X.length:=by
   rcases Nat.lt_or_ge i X.length with h|h
   ·exact h
   ·rw[List.drop_eq_nil_of_le h] at ht;cases ht
  have hXi:X[i]=now:=by
   rw[List.drop_eq_getElem_cons hi] at ht
   simp only[List.singleton_append,List.cons.injEq] at ht
   exact ht.1.symm
  refine clr_fn (pr140 · _ _) fn140 5 rfl (by decide) (fun tm hl hg=>?_);have h0:tg tm 0=v:=(hg 0 (by decide));have h1:tg tm 1 = .ptr bL 0:=(hg 1 (by decide));have h2:tg tm 2 = .ptr mY 0:=(hg 2 (by decide));have h3:tg tm 3 = .ptr bW 0:=(hg 3 (by decide));have h4:tg tm 4 = .ptr mS 0:=(hg 4 (by decide));clear hg
  obtain⟨r,st',hcl,hk,he',hw',hT,hS'⟩:=Y.step i hi v { heap:=st.heap,lo:=st.heap.length } (by rw[hXi];exact hv) hI (by show e≤st.heap.length;omega) (Nat.le_refl _) hw
  refine go2 (bw9 hl h0 h1 h2 h3 hbL' hy' hvs hbe) (bw hcl fnil) ?_
  refine fX (.bool r) hl ?_
  exact left_fin hI helo hwf (by have:=Y.uw;omega) hk he' (.inr ⟨hw',hT,hS'⟩)
 | k+1,now,v,st,i,hv,hlen,hX,hI,helo,hwf,hw,hbL,hbW,hy,hs=>by
  have hvs:=hv.1.slen
  have hbL':hp { heap:=st.heap,lo:=st.heap.length } bL=some (.var [iv long]):=hbL
  have hbW':hp { heap:=st.heap,lo:=st.heap.length } bW=some (.var [iv wd]):=hbW
  have hbe:((now.length:Int)==(long:Int))=false:=by simp;omega
  have h4x:True:=trivial
  refine clr_fn (pr140 · _ _) fn140 5 rfl (by decide) (fun tm hl hg=>?_);have h0:tg tm 0=v:=(hg 0 (by decide));have h1:tg tm 1 = .ptr bL 0:=(hg 1 (by decide));have h2:tg tm 2 = .ptr mY 0:=(hg 2 (by decide));have h3:tg tm 3 = .ptr bW 0:=(hg 3 (by decide));have h4:tg tm 4 = .ptr mS 0:=(hg 4 (by decide));clear hg
  refine go2 (bw9 hl h0 h1 h2 h3 hbL' hbW' hvs hbe) fnil ?_
  have hsg:=subL_succ wd k now
  generalize hg:(fun (x:Nat)=>subL wd k (now++[(x:Int)]))=g at hsg
  have hgn:∀ n,g n=subL wd k (now++[(n:Int)]):=fun n=>by rw[← hg]
  rw[hsg] at hX ⊢
  refine wp_range wd [] (fun n vs st1=>I (i+((List.range n).flatMap g).length) st1.heap∧KeepV W st.heap st1.heap∧e≤st1.lo∧st1.lo≤st1.heap.length∧((st.heap.length≤st1.lo∧((List.range n).flatMap g).length=0)∨st1.lo≤u)) (by omega) (sG hl) (sG hl) (sG hl) (by decide) ⟨hI,.refl _ _,by show e≤st.heap.length;omega,Nat.le_refl _,.inl ⟨Nat.le_refl _,rfl⟩⟩ ?_ ?_
  ·rintro n hn tm1 st1 ⟨hI1,hk1,he1,hwf1,hlo1⟩ hS hia
   have hl1:tm1.length=28:=lN hS hl;have i0:tg tm1 0=v:=tQ hS (bw3 hl h0 h4);have i4:tg tm1 4 = .ptr mS 0:=tQ hS (bw3 hl h0 h4);clear hS
   have hs1:hp st1 mS=some (.var [.func 140 [] [.ptr bL 0,.ptr mY 0,.ptr bW 0,.ptr mS 0]]):=hk1.hp hs hWs
   have ls1:=hp_lt hs1
   have hlk:=hk1.1
   refine go2 (bw5 hl1 i0 i4 hia hs1) fnil ?_
   refine wopsD_callS (by first|omega|(simp only[lo_push,lo_setVar,len_push,len_setVar];omega)) rfl rfl (by simp only[↓reduceIte,go_sem,hl1,i0];first|done|rfl) (fun st1 he=>by simp only[↓reduceIte,go_sem,hl1,i0];exact c141 v now hv.1 (by omega) _) ?_
   intro v1 st2 hR
   have hlen2:=hR.len
   have hlo2:=hR.lo
   refine go2 (bw hl1 hia) fnil ?_
   refine wopsD_appendF (by omega) rfl rfl (sR hl1) (sR hl1) (hR.own (Nat.le_refl _)) rfl (by omega) (by rfl) (by rfl) (by simp only[maxList];omega) ?_
   intro v' st3 ft hft hO' hFr hk3
   have hv':RepL v' (now++[(n:Int)]):=⟨SlOf.of_sl hO'.sl (by simp) (by simp[encI_map,share_int]) (fun _=>rfl),share_own hO' (by simp) (by simp[encI_map,share_int]) (by simp)⟩
   have hFr3:Fr st1.heap.length st1 st3:=hR.fr.trans hFr
   have hl13:=hFr3.len
   have hlo13:=hFr3.lo
   have hup13:=hFr3.up
   have hx3:HExt st1.heap st3.heap:=hFr3.hext
   have hk4:=hk1.trans (hx3.keep W)
   have hXn:subL wd k (now++[(n:Int)]) <+: X.drop (i+((List.range n).flatMap g).length):=by
    obtain⟨r,hr⟩:=flatMap_range_split g hn
    rw[hr] at hX
    rw[← hgn,← List.drop_drop]
    exact prefix_drop hX
   have hrec:=c140 hwd hlong Y hWL hWW hWy hWs k (now++[(n:Int)]) v' { heap:=st3.heap,lo:=st3.heap.length } (i+((List.range n).flatMap g).length) hv' (by simp;omega) hXn (Y.stab _ _ _ hI1 hx3) (by show e≤st3.heap.length;omega) (Nat.le_refl _) (by show w<st3.heap.length;omega) (hk4.hp hbL hWL) (hk4.hp hbW hWW) (hk4.hp hy hWy) (hk4.hp hs hWs)
   refine wopsD_callF rfl rfl (sR hl1) (sR hl1) hrec ?_
   rintro u st5 ⟨r,rfl,hT,hS',hk5,he5,hwf5,hlo5⟩
   have hcnt:=flatMap_range_succ g n
   rw[hgn] at hcnt
   have hf0:=hft mS ls1
   have hk6:KeepV W st.heap st5.heap:=hk4.trans hk5
   cases r
   ·refine go2 (bw hl1 hf0) fnil ?_
    refine fX (.bool false) hl1 ?_
    refine left_fin hI helo hwf (by have:=Y.uw;omega) hk6 (by show e≤min st3.lo st5.lo;omega) (.inr ⟨?_,(fun h=>by cases h),hS'⟩)
    rcases hlo5 with ⟨_,h2,_⟩|h2
    ·cases h2
    ·show min st3.lo st5.lo≤u;omega
   ·refine go2 (bw hl1 hf0) fnil ?_
    refine⟨by rw[hcnt,← Nat.add_assoc];exact hT rfl,hk6,by show e≤min st3.lo st5.lo;omega,by show min st3.lo st5.lo≤st5.heap.length;omega,?_⟩
    rcases hlo5 with ⟨h1,_,rfl⟩|h2
    ·rcases hlo1 with ⟨h3,h4⟩|h3
     ·exact .inl ⟨by show st.heap.length≤min st3.lo st3.heap.length;omega,by omega⟩
     ·exact .inr (by show min st3.lo st3.heap.length≤u;omega)
    ·exact .inr (by show min st3.lo st5.lo≤u;omega)
  ·rintro tm1 st1 ⟨hI1,hk1,he1,hwf1,hlo1⟩ hS
   have hl1:tm1.length=28:=by rw[hS.1];simp only[↓reduceIte,go_sem,hl]
   refine go2 hl1 fnil ?_
   refine fX (.bool true) hl1 ?_
   refine left_fin hI helo hwf (by have:=Y.uw;omega) hk1 he1 ?_
   rcases hlo1 with ⟨h1,h2⟩|h1
   ·exact .inl ⟨h1,h2,rfl⟩
   ·exact .inr ⟨h1,fun _=>hI1,fun h=>by cases h⟩
end
theorem c92(wd long:Nat)(st:St):Cl EE (.func 92 [] []) [iv wd,iv long] st (.ret (.func 139 [] [.ptr (st.heap.length+1) 0,.ptr st.heap.length 0])) ((st.push (.var [iv wd])).push (.var [iv long])):=by
 refine cF2 pr92 fn92 (fun tm hl h0 h1=>?_)
 refine go2 (bw3 hl h0 h1) fnil ?_
 unfold FnQ
 refine⟨.func 139 [] [.ptr (st.heap.length+1) 0,.ptr st.heap.length 0],results_one (by rw[rdRes_tmp];simp only[↓reduceIte,go_sem,hl]),_,?_,rfl⟩
 rw[finish_none (by simp only[lo_push];omega) (by simp[letGo,freeze1,retag1,PV.low,lowL])]
 rfl
set_option maxHeartbeats 1000000 in
theorem iter139{wd long bL bW:Nat}{st:St}(hwd:wd<1000)(hlong:long<100)(hbL:hp st bL=some (.var [iv long]))(hbW:hp st bW=some (.var [iv wd])):IterU EE (.func 139 [] [.ptr bL 0,.ptr bW 0]) st (listsL wd long) RepL (fun l=>l=bL∨l=bW):=by
 intro y W e u w I S Y hWp hI he hwf hw
 have hyi:=Y.cell
 have hyc:=Y.cells
 have hew:=Y.eu
 have huw:=Y.uw
 have hWw:=Y.Ww
 have hWL:¬ W bL:=hWp bL (.inl rfl)
 have hWW:¬ W bW:=hWp bW (.inr rfl)
 have hWy:¬ W st.heap.length:=fun h=>by have:=hWw _ h;omega
 have hWs:¬ W (st.heap.length+1):=fun h=>by have:=hWw _ h;omega
 have hx0:HExt st.heap (setVar ((({ heap:=st.heap,lo:=st.heap.length }:St).push (.var [y])).push (.var [.nilfunc])) (st.heap.length+1) (.var [.func 140 [] [.ptr bL 0,.ptr st.heap.length 0,.ptr bW 0,.ptr (st.heap.length+1) 0]])).heap :=
  (show HExt ({ heap:=st.heap,lo:=st.heap.length }:St).heap _ from ((((Fr.refl st.heap.length { heap:=st.heap,lo:=st.heap.length }).push (Nat.le_refl _)).push (by simp only[len_push];omega)).setVar (by omega)).hext)
 have hrec:=c140 (X:=listsL wd long) (mY:=st.heap.length) (mS:=st.heap.length+1) hwd hlong Y hWL hWW hWy hWs long [] .nilslice (setVar ((({ heap:=st.heap,lo:=st.heap.length }:St).push (.var [y])).push (.var [.nilfunc])) (st.heap.length+1) (.var [.func 140 [] [.ptr bL 0,.ptr st.heap.length 0,.ptr bW 0,.ptr (st.heap.length+1) 0]])) 0 ⟨.nil,rfl⟩ (by simp) (by rw[subL_nil,List.drop_zero];exact List.prefix_refl _) (Y.stab _ _ _ hI hx0) (by simp only[lo_setVar,lo_push];omega) (by simp only[lo_setVar,lo_push,len_setVar,len_push];omega) (by simp only[len_setVar,len_push];omega)
  (hx0.hp hbL) (hx0.hp hbW) (sG fnil) (sG fnil)
 rw[subL_nil] at hrec
 have hgoal:ClR EE (.func 139 [] [.ptr bL 0,.ptr bW 0]) [y] st (fun v st'=>KeepV W st.heap st'.heap∧e≤st'.lo∧st'.lo≤st'.heap.length∧(((listsL wd long).length=0∧st'=st)∨st'.lo≤u)∧(I (listsL wd long).length st'.heap∨S st'.heap)):=by
  refine cG3 pr139 fn139 (fun tm hl h0 h1 h2=>?_)
  refine go2 (bw6 hl h0 h1 h2 hyi hyc) fnil ?_
  refine cR (bw4 hl h0 h1 h2) (hrec) ?_
  rintro u st5 ⟨r,rfl,hT,hS',hk5,he5,hwf5,hlo5⟩
  rw[Nat.zero_add] at hT
  refine go2 hl fnil ?_
  refine fnr_normal results_nil ?_
  rcases hlo5 with ⟨h1,rfl,rfl⟩|h1
  ·rw[finish_tuple (by simp only[lo_setVar,lo_push];omega) (by rfl),h1]
   exact⟨.refl _ _,he,hwf,.inl ⟨rfl,rfl⟩,.inl hI⟩
  ·unfold finishCall
   rw[if_neg (by omega)]
   refine⟨(hx0.keep W).trans hk5,?_,?_,.inr (by show min st.lo st5.lo≤u;omega),?_⟩
   ·show e≤min st.lo st5.lo;omega
   ·show min st.lo st5.lo≤st5.heap.length;omega
   ·cases r
    ·exact .inr (hS' rfl)
    ·exact .inl (hT rfl)
 obtain⟨v,st',h1,h2⟩:=hgoal
 exact⟨v,st',h1,h2⟩
end Go.Den.Ve
end
section
namespace Go.Den.Ve
theorem c87(b:BP)(st:St):Cl EE (.func 87 [] []) [b.pv] st (.ret (.func 138 [] [.ptr st.heap.length 0])) (st.push (.var [iv b.words,b.v])):=by
 refine cF1 pr87 fn87 (fun tm hl h0=>?_)
 refine go2 (bw hl h0) fnil ?_
 unfold FnQ
 refine⟨.func 138 [] [.ptr st.heap.length 0],results_one (by rw[rdRes_tmp];simp only[↓reduceIte,go_sem,hl]),_,?_,rfl⟩
 rw[finish_none (by simp only[lo_push];omega) (by simp[letGo,freeze1,retag1,PV.low,lowL])]
 rfl
theorem set_loop{h:List HObj}{l l':Nat}{cs:List PV}{o o':HObj}(g:h[l]? = some (.var cs))(hl:h[l']? = some o)(ho:isLoop o=true):(h.set l' o')[l]? = some (.var cs):=by
 rw[List.getElem?_set_ne]
 ·exact g
 ·rintro rfl;rw[g] at hl;cases hl;cases ho
def cntL (wd k:Nat):Nat:=((List.range k).flatMap fun k=>listsL wd k).length
theorem cntL_succ(wd k:Nat):cntL wd (k+1)=cntL wd k+(listsL wd k).length:=by
 unfold cntL
 rw[List.range_succ,List.flatMap_append,List.flatMap_singleton,List.length_append]
theorem cntL_at{wd k i:Nat}(hk:k<5)(hi:i<(listsL wd k).length):∃ h:cntL wd k+i<(linesL wd).length,(linesL wd)[cntL wd k+i]=(listsL wd k)[i]:=by
 obtain⟨r,hr⟩:=flatMap_range_split (fun k=>listsL wd k) hk
 have e:linesL wd=(List.range k).flatMap (fun k=>listsL wd k)++(listsL wd k++r):=hr
 have h:cntL wd k+i<(linesL wd).length:=by rw[e];simp only[List.length_append,cntL];omega
 refine⟨h,?_⟩
 simp only[e]
 rw[List.getElem_append_right (by simp only[cntL];omega),List.getElem_append_left (by simp only[cntL];omega)]
 congr 1
 simp[cntL]
set_option maxHeartbeats 4000000 in
theorem iter138{wd a:Nat}{V:PV}{st:St}(hwd:wd<1000)(ha:hp st a=some (.var [iv wd,V])):IterU EE (.func 138 [] [.ptr a 0]) st (linesL wd) RepL (fun l=>l=a):=by
 intro y W e u w I S Y hWp hI he hwf hw
 have hyi:=Y.cell
 have hyc:=Y.cells
 have hew:=Y.eu
 have huw:=Y.uw
 have hWw:=Y.Ww
 have hWa:¬ W a:=hWp a rfl
 have hWm:¬ W st.heap.length:=fun h=>by have:=hWw _ h;omega
 have hgoal:ClR EE (.func 138 [] [.ptr a 0]) [y] st (fun v st'=>KeepV W st.heap st'.heap∧e≤st'.lo∧st'.lo≤st'.heap.length∧(((linesL wd).length=0∧st'=st)∨st'.lo≤u)∧(I (linesL wd).length st'.heap∨S st'.heap)):=by
  have fin:∀ (st1:St),KeepV W st.heap st1.heap→e≤st1.lo→st1.lo≤u→(I (linesL wd).length st1.heap∨S st1.heap)→KeepV W st.heap (finishCall st st1 (.tuple [])).2.heap∧e≤(finishCall st st1 (.tuple [])).2.lo∧(finishCall st st1 (.tuple [])).2.lo≤(finishCall st st1 (.tuple [])).2.heap.length∧(((linesL wd).length=0∧(finishCall st st1 (.tuple [])).2=st)∨(finishCall st st1 (.tuple [])).2.lo≤u)∧(I (linesL wd).length (finishCall st st1 (.tuple [])).2.heap∨S (finishCall st st1 (.tuple [])).2.heap):=by
   intro st1 hk h1 h2 h3
   rw[finish_low (by omega)]
   refine⟨hk,by show e≤min st.lo st1.lo;omega,?_,.inr (by show min st.lo st1.lo≤u;omega),h3⟩
   have:=hk.1
   show min st.lo st1.lo≤st1.heap.length;omega
  refine cG2 pr138 fn138 (fun tm hl h0 h1=>?_)
  refine go2 (bw5 hl h0 h1 hyi hyc) fnil ?_
  have hx0:HExt ({ heap:=st.heap,lo:=st.heap.length }:St).heap (({ heap:=st.heap,lo:=st.heap.length }:St).push (.var [y])).heap := .push _ _
  refine wp_range 5 [] (fun k vs st1=>I (cntL wd k) st1.heap∧KeepV W st.heap st1.heap∧e≤st1.lo∧st1.lo≤st1.heap.length∧hp st1 st.heap.length=some (.var [y])∧((st.heap.length≤st1.lo∧cntL wd k=0)∨st1.lo≤u)) (by omega) (sG hl) (sR hl) (sG hl) (by decide) ⟨Y.stab _ _ _ hI hx0,hx0.keep W,by simp only[lo_push];omega,by simp only[lo_push,len_push];omega,(sG fnil),.inl ⟨by simp only[lo_push];omega,rfl⟩⟩ ?_ ?_
  ·rintro k hk tm1 st1 ⟨hI1,hk1,he1,hwf1,hm1,hlo1⟩ hS hka
   have hl1:tm1.length=18:=lN hS hl;have i1:tg tm1 1 = .ptr a 0:=tQ hS (bw hl h1);have i2:tg tm1 2 = .ptr st.heap.length 0:=tQ hS (bw hl h1);clear hS
   have ha1:hp st1 a=some (.var [iv wd,V]):=hk1.hp ha hWa
   have lm1:=hp_lt hm1
   have hlk:=hk1.1
   refine go2 (bw5 hl1 i1 i2 hka ha1) (bw (c92 wd k) fnil) ?_
   apply wp_block
   have hx2:HExt st1.heap ((st1.push (.var [iv wd])).push (.var [iv k])).heap:=(HExt.push _ _).trans (.push _ _)
   refine wp_rangeU (X:=listsL wd k) (Rep:=RepL) (priv:=fun l=>l=st1.heap.length+1∨l=st1.heap.length) W e u (fun i h=>I (cntL wd k+i) h∧h[st.heap.length]? = some (.var [y])) (fun j h=>j = .ret∧S h∧0<(listsL wd k).length) (sG hl1)
    (iter139 (st:=((st1.push (.var [iv wd])).push (.var [iv k])).push _) hwd (by omega) (sG fnil) (sG fnil))
    (fun l hl=>⟨fun h=>by have:=hWw _ h;omega,by simp only[len_push];omega⟩) (fun l hl=>by have:=hWw _ hl;simp only[len_push];omega) (by simp only[lo_push];omega) (by simp only[lo_push,len_push];omega) hew (by simp only[len_push];omega)
    (fun i h h' ⟨g1,g2⟩ hx=>⟨Y.stab _ _ _ g1 hx,hx.var g2⟩) (fun j h h' ⟨g1,g2,g3⟩ hx=>⟨g1,Y.stabS _ _ g2 hx,g3⟩)
    (fun i h l o o' hle ⟨g1,g2⟩ hl ho ho'=>⟨Y.loopI _ _ _ _ _ (by simp only[len_push] at hle;omega) g1 hl ho ho',set_loop g2 hl ho⟩) (fun j h l o o' hle ⟨g1,g2,g3⟩ hl ho ho'=>⟨g1,Y.loopS _ _ _ _ (by simp only[len_push] at hle;omega) g2 hl ho ho',g3⟩)
    ⟨Y.stab _ _ _ hI1 hx2,hx2.hp hm1⟩ ?_ ?_ ?_
   ·rintro i hi v s1 hv ⟨hI2,hm2⟩ he2 hwf2 hlt2 ⟨ol,hol,hol2⟩
    simp only[len_push] at hlt2 hol
    apply wp_region_ops
    refine wops_one rfl (fun rec=>by rw[op_val,ev_t,tg_same (sG hl1)]) ?_
    apply wops_nil
    refine⟨rfl,.refl _,he2,hwf2,fun o ho=>?_⟩
    simp only[len_push]
    obtain⟨hci,hXi⟩:=cntL_at hk hi
    have hs3:hp (setVar s1 (st1.heap.length+1+1) o) st.heap.length=some (.var [y]):=by rw[hp_setVar,if_neg (by omega)];exact hm2
    have hI3:I (cntL wd k+i) (setVar s1 (st1.heap.length+1+1) o).heap:=Y.loopI _ _ _ _ _ (by omega) hI2 hol hol2 ho
    have hl3:(setVar s1 (st1.heap.length+1+1) o).lo≤(setVar s1 (st1.heap.length+1+1) o).heap.length:=by rw[lo_setVar,len_setVar];omega
    have he3:e≤(setVar s1 (st1.heap.length+1+1) o).lo:=by rw[lo_setVar];omega
    have hlen3:w<(setVar s1 (st1.heap.length+1+1) o).heap.length:=by rw[len_setVar];omega
    generalize setVar s1 (st1.heap.length+1+1) o=s3 at hs3 hI3 hl3 he3 hlen3 ⊢
    have lm3:=hp_lt hs3
    obtain⟨r,s4,hcl,hk4,he4,hu4,hT,hS'⟩:=Y.step _ hci v s3 (by rw[hXi];exact hv) hI3 he3 hl3 hlen3
    have hw4:s4.lo≤s4.heap.length:=by have:=hk4.1;omega
    cases r
    ·refine go2 (bw3 hl1 i2 hs3) (bw hcl fnil) ?_
     exact⟨hk4,he4,hw4,.inl hu4,rfl,hS' rfl,by omega⟩
    ·refine go2 (bw3 hl1 i2 hs3) (bw hcl fnil) ?_
     exact⟨hk4,he4,hw4,.inl hu4,hT rfl,hk4.hp hs3 hWm⟩
   ·rintro s4 ⟨hI4,hm4⟩ hk4 he4 hw4 hu4
    refine go2 hl1 fnil ?_
    rw[cntL_succ]
    refine⟨hI4,(hk1.trans (hx2.keep W)).trans hk4,he4,hw4,hm4,?_⟩
    rcases hu4 with ⟨g1,g2⟩|g1
    ·rw[g1,g2]
     simp only[lo_push]
     exact hlo1
    ·exact .inr g1
   ·rintro j s4 ⟨rfl,hS4,hX0⟩ hk4 he4 hw4 hu4
    simp only[jumpEx]
    have hu5:s4.lo≤u:=by
     rcases hu4 with ⟨g1,g2⟩|g1
     ·omega
     ·exact g1
    refine go2 hl1 fnil ?_
    exact fnr_ret results_nil (fin s4 ((hk1.trans (hx2.keep W)).trans hk4) he4 hu5 (.inr hS4))
  ·rintro tm1 st1 ⟨hI1,hk1,he1,hwf1,hm1,hlo1⟩ hS
   have hl1:tm1.length=18:=by rw[hS.1];simp only[↓reduceIte,go_sem,hl]
   refine go2 hl1 fnil ?_
   rcases hlo1 with ⟨g1,g2⟩|g1
   ·exfalso
    exact lines_ne wd (List.eq_nil_of_length_eq_zero g2)
   ·exact fnr_normal results_nil (fin st1 hk1 he1 g1 (.inl hI1))
 obtain⟨v,st',h1,h2⟩:=hgoal
 exact⟨v,st',h1,h2⟩
end Go.Den.Ve
end
section
namespace Go.Den.Ve
def betB (l1 l2 x:List Int):Bool:=decide (lev l1 x+lev x l2=lev l1 l2)
def betweenL (wd:Nat) (l1 l2:List Int):List (List Int):=(linesL wd).filter (betB l1 l2)
theorem lines_len(wd:Nat)(h:wd≤3):(linesL wd).length≤121:=by
 have:wd=0∨wd=1∨wd=2∨wd=3:=by omega
 rcases this with rfl|rfl|rfl|rfl <;> decide +kernel
theorem filter_take{α:Type}{P:α→Bool}{X:List α}{i:Nat}(hi:i<X.length):(X.take (i+1)).filter P=(X.take i).filter P++if P X[i] then [X[i]] else []:=by
 rw[List.take_succ_eq_append_getElem hi,List.filter_append]
 congr 1
 cases h:P X[i] <;> simp[h]
theorem filter_take_len{α:Type}{P:α→Bool}{X:List α}{i:Nat}:((X.take i).filter P).length≤X.length:=Nat.le_trans (List.length_filter_le _ _) (by simp;omega)
section
variable(b:BP)(hN:SmB b)(L1 L2:PV)(l1 l2:List Int)(hL1:SlOf 1 encI L1 l1)(hL2:SlOf 1 encI L2 l2)(st:St)
include hN hL1 hL2
set_option maxHeartbeats 4000000 in
theorem c37_yes(h:argB b l1 l2=true):ClR EE (.func 37 [] []) [b.pv,L1,L2] st (fun v st'=>∃ u,v = .tuple [u,iv 0]∧RetW st (betweenL b.words.toNat l1 l2).length ((betweenL b.words.toNat l1 l2).flatMap encL) u st'):=by
 simp only[argB,Bool.and_eq_true] at h
 obtain⟨hA,hC,hD⟩:=h
 have hB:=bookB_iff.1 hA
 have h81:=c81 b hN
 have k1:=fun st=>c82 b.words b.v b.cells hB.okW L1 l1 hL1 st
 have k2:=fun st=>c82 b.words b.v b.cells hB.okW L2 l2 hL2 st
 have hx1:=(lineB_iff.1 hC).1
 have hx2:=(lineB_iff.1 hD).1
 have p1:=hL1.cells
 have p2:=hL2.cells
 have k87:=fun st=>c87 b st
 have hw:OkW b.words:=hB.okW
 obtain⟨wd,hwd⟩:∃ wd:Nat,b.words=wd:=⟨b.words.toNat,by have:=hw.lo;omega⟩
 have hw3:wd≤3:=by have:=hw.hi;omega
 have hlen:=lines_len wd hw3
 refine cG3 pr37 fn37 (fun tm hl h0 h1 h2=>?_)
 refine go2 (bw9 hl h0 h1 h2 hA hC hD p1 p2) (bw5 h81 k1 k2 k87 fnil) ?_
 rw[hwd,Int.toNat_natCast]
 apply wp_block
 refine wp_rangeV (X:=linesL wd) (Rep:=RepL) (priv:=fun l=>l=st.heap.length+4) [st.heap.length+3] st.heap.length (fun i L=>∃ v,OwnP st.heap.length 1 v (((linesL wd).take i).filter (betB l1 l2)).length ((((linesL wd).take i).filter (betB l1 l2)).flatMap encL)∧L=[(st.heap.length+1,.var [L1]),(st.heap.length+2,.var [L2]),(st.heap.length+3,.var [v])]++tagL v) (fun _ _=>False) (sG hl) (fun o=>iter138 (V:=b.v) (by omega) (sG hwd)) (sG hl) (fun l hl=>by simp only[List.mem_singleton,len_push];omega) (fun l hl=>by simp only[List.mem_singleton] at hl;simp only[len_push];omega) (by simp only[lo_push];omega) (by simp only[lo_push,len_push];omega) ⟨_,?_,.nilslice,.nil,rfl⟩ ?_ ?_ ?_
 ·exact .cons (sG fnil) rfl (.cons (sG fnil) rfl (.cons (sG fnil) rfl (.nil _)))
 ·rintro i hi x s0 L hx hH' ⟨v,hv,rfl⟩ he hwf hlt
  have hH:Has s0.heap ([(st.heap.length+1,.var [L1]),(st.heap.length+2,.var [L2]),(st.heap.length+3,.var [v])]++tagL v):=hH'
  simp only[len_push] at hlt
  have d1:=hH.left.hp (l:=st.heap.length+1) (o := .var [L1]) (by simp)
  have d2:=hH.left.hp (l:=st.heap.length+2) (o := .var [L2]) (by simp)
  have d3:=hH.left.hp (l:=st.heap.length+3) (o := .var [v]) (by simp)
  have ld3:=hp_lt d3
  have hO:=hv.own hH.right
  have hxm:=mem_lines.1 (List.getElem_mem hi)
  have q1:=fun st=>c83 L1 x l1 _ hL1 hx.1 hx1 hxm.1 st
  have q2:=fun st=>c83 x L2 _ l2 hx.1 hL2 hxm.1 hx2 st
  have q3:=fun st=>c83 L1 L2 l1 l2 hL1 hL2 hx1 hx2 st
  have b1:=lev_max l1 (linesL wd)[i]
  have b2:=lev_max (linesL wd)[i] l2
  have q4:=fun (t:Nat) st=>c88 (.slice (.tag t 1) 2 [iv (lev l1 (linesL wd)[i]:Nat),iv (lev (linesL wd)[i] l2:Nat)]) [(lev l1 (linesL wd)[i]:Nat),(lev (linesL wd)[i] l2:Nat)] ⟨rfl,fun _ _=>rfl⟩ (by simp) (by simp;omega) st
  have ld1:=hp_lt d1
  have ld2:=hp_lt d2
  have hli:(((linesL wd).take i).filter (betB l1 l2)).length≤121:=Nat.le_trans filter_take_len hlen
  have hft:=filter_take (P:=betB l1 l2) hi
  have k0:KeepV (fun l=>l∈[st.heap.length+3]) s0.heap (s0.push (.tag true)).heap:=(KeepV.refl _ _).kpush
  have hbe:∀ a b c:Nat,(([(a:Int),(b:Int)].sum)==(c:Int))=decide (a+b=c):=fun a b c=>by
   rw[Bool.eq_iff_iff];simp;omega
  have hs0:∀ o,Has (s0.push o).heap ([(st.heap.length+1,.var [L1]),(st.heap.length+2,.var [L2]),(st.heap.length+3,.var [v])]++tagL v):=fun o=>hH.ext (.push _ _)
  cases hP:betB l1 l2 (linesL wd)[i]
  ·have hP':=hP
   simp only[betB] at hP'
   refine go2 (bw7 hl d1 d2 hbe hP' (n4 ld1) (n4 ld2)) (bw5 q1 q2 q4 q3 fnil) ?_
   refine⟨k0,he,by simp only[lo_push,len_push];omega,trivial,_,hs0 _,v,?_,rfl⟩
   rw[hft,hP]
   simp only[Bool.false_eq_true,if_false,List.append_nil]
   exact hv
  ·have hP':=hP
   simp only[betB] at hP'
   have hsh:=hx.2
   have hxc:=hx.1.cells
   refine go2 (bw11 hl d1 d2 d3 hbe hP' hsh hxc (n4 ld1) (n4 ld2) (n4 ld3)) (bw5 q1 q2 q4 q3 fnil) ?_
   refine wops_append rfl rfl (sR (bw3 hl d3 (n4 ld3))) (sR (bw hl hsh)) (hO.push.push) rfl (by simp only[len_push];omega) (by rfl) (by simp only[List.all_cons,List.all_nil,el_isCell,Bool.and_true]) (by simp only[maxList];omega) ?_
   intro v' s3 hO3 hF3 hk3
   have e1:hp s3 (st.heap.length+1)=some (.var [L1]):=hk3 _ _ (sG (bw d1 (n4 ld1))) (by simp)
   have e2:hp s3 (st.heap.length+2)=some (.var [L2]):=hk3 _ _ (sG (bw d2 (n4 ld2))) (by simp)
   have e3:hp s3 (st.heap.length+3)=some (.var [v]):=hk3 _ _ (sG (bw d3 (n4 ld3))) (by simp)
   have le3:=hp_lt e3
   have v1:=sl_cells hO3.sl
   have v2:=sl_isCell hO3.sl
   have kA:=k0.kpush.trans (keep_app hk3 hF3.len)
   have z1:=hF3.lo
   have z2:=hF3.up
   have z3:=hF3.len
   simp only[lo_push,len_push] at z1 z2 z3
   refine go2 (bw5 hl e3 v1 v2 (n4 le3)) fnil ?_
   obtain⟨r1,r2⟩:=(own_var (o := .var [v']) hO3 e3).p
   refine⟨kA.kset (.inl (by simp)),by rw[lo_setVar];omega,by rw[lo_setVar,len_setVar];omega,trivial,_,.app (.cons (by rw[hp_setVar,if_neg (by omega)];exact e1) rfl (.cons (by rw[hp_setVar,if_neg (by omega)];exact e2) rfl (.cons (by rw[hp_setVar,if_pos rfl,if_pos le3]) rfl (.nil _)))) r2,v',?_,rfl⟩
   rw[hft,hP,if_pos rfl,List.flatMap_append,List.length_append,List.flatMap_singleton]
   have:[elL (linesL wd)[i]].map PV.share=encL (linesL wd)[i]:=by simp[el_share]
   rw[← this]
   exact r1
 ·rintro s4 L hH' ⟨v,hv,rfl⟩ k4 he hwf
  have hH:Has s4.heap ([(st.heap.length+1,.var [L1]),(st.heap.length+2,.var [L2]),(st.heap.length+3,.var [v])]++tagL v):=hH'
  have d3:=hH.left.hp (l:=st.heap.length+3) (o := .var [v]) (by simp)
  have hO:=hv.own hH.right
  rw[List.take_length] at hO
  apply inBlock_normal
  refine go2 (bw hl d3) fnil ?_
  refine fX (.tuple [v,iv 0]) hl ?_
  exact finish_slT hO.sl (by rfl) he (fun m=>lowL_of fun c hc=>encL_low _ _ _ hc)
 ·intro j st' L _ h
  exact h.elim
end
end Go.Den.Ve
end
section
namespace Go.Den.Ve
abbrev pgPV (b:BP) (i:Nat):PV := .agg [.int .i64 b.words,b.v,.int .i64 (i:Int)]
attribute [go_sem] pgPV
def keep1 (i:Nat) (c:CP):List SI:=match c.ls[i]? with
 | some x=>if x.lost then [] else [⟨x.w.share,x.l,x.h.share⟩]
 | none=>[]
def keptS (b:BP) (i:Nat):List SI:=b.cs.flatMap (keep1 i)
theorem keep1_len(i:Nat)(c:CP):(keep1 i c).length≤1:=by unfold keep1;split <;> (try split) <;> simp
theorem keptT_len(b:BP)(i k:Nat):((b.cs.take k).flatMap (keep1 i)).length≤k:=by
 have:=flat_len (f:=keep1 i) (d:=1) (b.cs.take k) (fun q _=>keep1_len i q)
 rw[List.length_take] at this
 omega
theorem kept_sum(b:BP)(i:Nat)(h:∀ c∈b.cs,i<c.ls.length)(l:List Int):((keptS b i).map fun k=>((lev l k.l:Nat):Int)).sum=cost1 b.bk i l:=by
 unfold keptS cost1
 show _=(((b.cs.map CP.c).map fun c=>takenI l (c.getD i ⟨true,[]⟩))).sum
 generalize b.cs=cs at h ⊢
 induction cs with
 | nil=>rfl
 | cons c cs ih =>
  have hc:=h c (by simp)
  have ih:=ih (fun c hc=>h c (by simp[hc]))
  simp only[List.map_map] at ih
  simp only[List.flatMap_cons,List.map_append,List.sum_append_int,List.map_cons,List.map_map,List.sum_cons]
  rw[ih]
  congr 1
  have e:c.c.getD i ⟨true,[]⟩=c.ls[i].ln:=by rw[List.getD_eq_getElem?_getD,List.getElem?_map,List.getElem?_eq_getElem hc];rfl
  rw[e]
  unfold keep1 takenI
  rw[List.getElem?_eq_getElem hc]
  cases hl:c.ls[i].lost <;> simp[hl]
theorem si_low(X:List SI)(h:∀ x∈X,∀ m,x.v.low m=true)(m:Nat):lowL m (X.flatMap encSI)=true:=lowL_of fun c hc=>by
 obtain⟨x,hx,h1⟩:=List.mem_flatMap.1 hc
 simp only[encSI,List.mem_singleton] at h1
 subst h1
 exact h x hx m
theorem share_low{v:PV}{l:List Int}(h:SlOf 1 encI v l)(m:Nat):v.share.low m=true:=by
 have h1:=h.sl
 cases v with
 | nilslice=>rfl
 | slice o n cs =>
  simp only[PV.sl,Option.some.injEq,Prod.mk.injEq] at h1
  simp only[PV.share,PV.low,h1.2]
  exact ints_low l m
 | _=>cases h1
theorem kept_low(b:BP)(i:Nat)(X:List CP):∀ x∈X.flatMap (keep1 i),∀ m,x.v.low m=true:=fun x hx m=>by
 obtain⟨c,_,h⟩:=List.mem_flatMap.1 hx
 unfold keep1 at h
 split at h
 ·split at h
  ·cases h
  ·rename_i y _ _;rw[List.mem_singleton.1 h];exact share_low y.h m
 ·cases h
set_option maxHeartbeats 4000000 in
theorem c169(b:BP)(i:Nat)(hc:∀ c∈b.cs,i<c.ls.length)(hN:b.cs.length≤1000)(st:St):ClR EE (.func 169 [] []) [pgPV b i] st (RetW st (keptS b i).length ((keptS b i).flatMap encSI)):=by
 have hB:=b.h
 refine cG1 pr169 fn169 (fun tm hl h0=>?_)
 refine go2 (bw hl h0) fnil ?_
 refine wp_range b.cs.length [3] (fun k vs st'=>∃ v,vs=[v]∧OwnS st.heap.length st' 1 v ((b.cs.take k).flatMap (keep1 i)).length (((b.cs.take k).flatMap (keep1 i)).flatMap encSI)∧hp st' st.heap.length=some (.var [iv b.words,b.v,iv i])∧st.heap.length≤st'.lo∧st'.lo≤st'.heap.length) (by omega) (sG hl) (sG hl) (sG hl) (by decide) ⟨_,(sG hl),.nil,(sG fnil),by simp only[lo_push];omega,by simp only[lo_push,len_push];omega⟩ ?_ ?_
 ·rintro k hk tm1 st1 ⟨v,hv,hO,d0,hlo,hwf⟩ hS hka
  replace hv:=mv1 hv
  have hl1:tm1.length=32:=lN hS hl;have j1:tg tm1 1 = .ptr st.heap.length 0:=tQ hS hl;have j8:tg tm1 8=b.v:=tQ hS hl;clear hS
  have ld:=hp_lt d0
  have hi:=hc b.cs[k] (List.getElem_mem hk)
  have hC:=b.cs[k].h
  have hle:=keptT_len b i k
  have hsc:(b.cs.take (k+1)).flatMap (keep1 i)=(b.cs.take k).flatMap (keep1 i)++keep1 i b.cs[k]:=by rw[List.take_succ_eq_append_getElem hk,List.flatMap_append,List.flatMap_singleton]
  have hk1:keep1 i b.cs[k]=if b.cs[k].ls[i].lost then [] else [⟨b.cs[k].ls[i].w.share,b.cs[k].ls[i].l,b.cs[k].ls[i].h.share⟩]:=by unfold keep1;rw[List.getElem?_eq_getElem hi]
  cases hlost:b.cs[k].ls[i].lost
  ·rw[hlost,if_neg (by simp)] at hk1
   refine go2 (bw7 hl1 j1 j8 hka d0 hlost (n4 ld)) fnil ?_
   refine wops_append rfl rfl (sR (bw hl1 hv)) (sR hl1) hO.push rfl (by simp only[len_push];omega) (by rfl) (by simp only[List.all_cons,List.all_nil,share_isCell,LP.isCell,Bool.and_true]) (by simp only[maxList];omega) ?_
   intro v' s3 hO3 hF3 hk3
   have e0:hp s3 st.heap.length=some (.var [iv b.words,b.v,iv i]):=hk3 _ _ (sG (bw d0 (n4 ld))) (by simp)
   have z1:=hF3.lo
   have z2:=hF3.up
   have z3:=hF3.len
   simp only[lo_push,len_push] at z1 z2 z3
   refine go2 hl1 fnil ?_
   refine⟨v',(sG hl1),?_,e0,by omega,by omega⟩
   rw[hsc,hk1,List.flatMap_append,List.length_append]
   simpa[share_share] using hO3
  ·rw[hlost,if_pos rfl] at hk1
   refine go2 (bw7 hl1 j1 j8 hka d0 hlost (n4 ld)) fnil ?_
   refine⟨v,(sG (bw hl1 hv)),?_,d0,hlo,hwf⟩
   rw[hsc,hk1,List.append_nil]
   exact hO
 ·rintro tm1 st1 ⟨v,hv,hO,d0,hlo,hwf⟩ hS
  replace hv:=mv1 hv
  have hl1:tm1.length=32:=by rw[hS.1];simp only[↓reduceIte,go_sem,hl]
  refine go2 (bw hl1 hv) fnil ?_
  refine fX (v) (bw hl1 hv) ?_
  rw[List.take_length] at hO
  exact finish_sl hO.sl hlo (si_low _ (kept_low b i _))
theorem kept4(b:BP)(h:OkB b.bk)(i:Nat):∀ x∈keptS b i,x.l.length≤4:=fun x hx=>by
 obtain⟨c,hc,hx⟩:=List.mem_flatMap.1 hx
 unfold keep1 at hx
 split at hx
 ·rename_i y hy
  split at hx
  ·cases hx
  ·rw[List.mem_singleton.1 hx]
   have h1:=(h.all c.c (List.mem_map.2 ⟨c,hc,rfl⟩)).2 y.ln (List.mem_map.2 ⟨y,List.mem_of_getElem? hy,rfl⟩)
   exact (lineB_iff.1 h1.1).1
 ·cases hx
theorem kept_many(b:BP)(h:OkB b.bk)(i:Nat):(keptS b i).length≤5:=by
 have h1:=keptT_len b i b.cs.length
 rw[List.take_length] at h1
 have h2:=h.c5
 simp at h2
 unfold keptS
 omega
theorem OkB.len{b:BP}(h:OkB b.bk){i:Nat}(hi:i<lines1 b.bk):∀ c∈b.cs,i<c.ls.length:=fun c hc=>by
 have:=(h.all c.c (List.mem_map.2 ⟨c,hc,rfl⟩)).1
 simp at this
 omega
set_option maxHeartbeats 4000000 in
theorem c144(b:BP)(h:OkB b.bk)(i:Nat)(hi:i<lines1 b.bk)(L:PV)(l:List Int)(hL:SlOf 1 encI L l)(hl4:l.length≤4)(st:St):Cl EE (.func 144 [] []) [pgPV b i,L] st (.ret (iv (cost1 b.bk i l))) st:=by
 have hc:=h.len hi
 have h5:=kept_many b h i
 have hcl:=b.cells
 refine cF2 pr144 fn144 (fun tm hl h0 h1=>?_)
 refine go2 (bw hl h0) fnil ?_
 refine cR (bw hl h0) (c169 b i hc (by have:=h.c5;simp at this;omega) _) ?_
 intro V s1 hR
 have hV:SlOf 1 encSI V (keptS b i):=hR.own_sl (fun _=>rfl)
 have hVs:=hV.slen
 have z1:=hR.lo
 have z2:=hR.len
 simp only[lo_push,len_push] at z1 z2
 refine go2 (bw hl hVs) fnil ?_
 refine wp_range (keptS b i).length [5] (fun k vs st'=>∃ v,vs=[v]∧OwnS st.heap.length st' 1 v k ((((keptS b i).take k).map fun x=>((lev l x.l:Nat):Int)).flatMap encI)∧st.heap.length≤st'.lo∧st'.lo≤st'.heap.length) (by omega) (sG hl) (sG hl) (sG hl) (by decide) ⟨_,(sG hl),.nil,by omega,by omega⟩ ?_ ?_
 ·rintro k hk tm1 st1 ⟨v,hv,hO,hlo,hwf⟩ hS hka
  replace hv:=mv1 hv
  have hl1:tm1.length=24:=lN hS hl;have j1:tg tm1 1=L:=tQ hS (bw hl h1);have j9:tg tm1 9=V:=tQ hS (bw hl h1);clear hS
  have k4:=kept4 b h i _ (List.getElem_mem hk)
  have kc:=fun st=>c83 L (keptS b i)[k].v l (keptS b i)[k].l hL (keptS b i)[k].h hl4 k4 st
  refine go2 (bw4 hl1 j1 j9 hka) (bw kc fnil) ?_
  refine aP (bw hl1 hv) (hO.push) ?_
  intro v' s3 hO3 hF3 hk3
  have y1:=hF3.lo
  have y2:=hF3.up
  have y3:=hF3.len
  simp only[lo_push,len_push] at y1 y2 y3
  refine go2 hl1 fnil ?_
  refine⟨v',(sG hl1),?_,by omega,by omega⟩
  rw[List.take_succ_eq_append_getElem hk,List.map_append,List.flatMap_append]
  simpa[share_int] using hO3
 ·rintro tm1 st1 ⟨v,hv,hO,hlo,hwf⟩ hS
  replace hv:=mv1 hv
  have hl1:tm1.length=24:=by rw[hS.1];simp only[↓reduceIte,go_sem,hl]
  rw[List.take_length] at hO
  have ks:=fun st=>c88 v ((keptS b i).map fun x=>((lev l x.l:Nat):Int)) (SlOf.of_sl hO.sl (by simp) rfl (fun _=>rfl)) (by simp;omega) (fun x hx=>by
   obtain⟨y,hy,rfl⟩:=List.mem_map.1 hx
   have:=lev_max l y.l
   have:=kept4 b h i y hy
   omega) st
  rw[kept_sum b i hc l] at ks
  refine go2 (bw hl1 hv) (bw ks fnil) ?_
  exact fQ hl1
end Go.Den.Ve
end
section
namespace Go.Den.Ve
abbrev encC (x:List Int×Int):List PV:=[elL x.1,.int .i64 x.2]
attribute [go_sem] encC
def allL (b:BP) (i wd:Nat):List (List Int×Int):=(linesL wd).map fun l=>(l,cost1 b.bk i l)
theorem encC_low{l:List (List Int×Int)}{m:Nat}{c:PV}(hc:c∈l.flatMap encC):c.low m=true:=by
 obtain⟨x,_,h⟩:=List.mem_flatMap.1 hc
 simp only[encC,List.mem_cons,List.not_mem_nil,or_false] at h
 rcases h with rfl|rfl
 ·exact el_low _ _
 ·rfl
set_option maxHeartbeats 4000000 in
theorem c102(b:BP)(h:OkB b.bk)(i wd:Nat)(hwd:b.words=wd)(hi:i<lines1 b.bk)(st:St):ClR EE (.func 102 [] []) [pgPV b i] st (RetW st (allL b i wd).length ((allL b i wd).flatMap encC)):=by
 have k87:=fun st=>c87 b st
 have hw:OkW b.words:=h.okW
 have hw3:wd≤3:=by have:=hw.hi;omega
 have hlen:=lines_len wd hw3
 have hall:(allL b i wd).length=(linesL wd).length:=by simp[allL]
 refine cG1 pr102 fn102 (fun tm hl h0=>?_)
 refine go2 (bw hl h0) (bw k87 fnil) ?_
 apply wp_block
 refine wp_rangeV (X:=linesL wd) (Rep:=RepL) (priv:=fun l=>l=st.heap.length+2) [st.heap.length+1] st.heap.length (fun k L=>∃ v,OwnP st.heap.length 2 v k (((allL b i wd).take k).flatMap encC)∧L=[(st.heap.length,.var [iv b.words,b.v,iv i]),(st.heap.length+1,.var [v])]++tagL v) (fun _ _=>False) (sG hl) (fun o=>iter138 (V:=b.v) (by omega) (sG hwd)) (sG hl) (fun l hl=>by simp only[List.mem_singleton,len_push];omega) (fun l hl=>by simp only[List.mem_singleton] at hl;simp only[len_push];omega) (by simp only[lo_push];omega) (by simp only[lo_push,len_push];omega) ⟨_,?_,.nilslice,.nil,rfl⟩ ?_ ?_ ?_
 ·exact .cons (sG fnil) rfl (.cons (sG fnil) rfl (.nil _))
 ·rintro k hk x s0 L hx hH' ⟨v,hv,rfl⟩ he hwf hlt
  have hH:Has s0.heap ([(st.heap.length,.var [iv b.words,b.v,iv i]),(st.heap.length+1,.var [v])]++tagL v):=hH'
  simp only[len_push] at hlt
  have d0:=hH.left.hp (l:=st.heap.length) (o := .var [iv b.words,b.v,iv i]) (by simp)
  have d1:=hH.left.hp (l:=st.heap.length+1) (o := .var [v]) (by simp)
  have ld0:=hp_lt d0
  have ld1:=hp_lt d1
  have hO:=hv.own hH.right
  have hxm:=mem_lines.1 (List.getElem_mem hk)
  have hxc:=hx.1.cells
  have hsh:=hx.2
  have k144:=fun st=>c144 b h i hi x _ hx.1 hxm.1 st
  have hak:(allL b i wd)[k]'(by omega)=((linesL wd)[k],cost1 b.bk i (linesL wd)[k]):=by simp[allL]
  refine go2 (bw6 hl d0 d1 hxc hsh (n4 ld1)) (bw k144 fnil) ?_
  refine wops_append rfl rfl (sR (bw3 hl d1 (n4 ld1))) (sR (bw hl hsh)) hO.push rfl (by simp only[len_push];omega) (by rfl) (by simp only[List.all_cons,List.all_nil,el_isCell,isCell_int,Bool.and_true]) (by simp only[maxList];omega) ?_
  intro v' s3 hO3 hF3 hk3
  have e0:hp s3 st.heap.length=some (.var [iv b.words,b.v,iv i]):=hk3 _ _ (sG (bw d0 (n4 ld0))) (by simp)
  have e1:hp s3 (st.heap.length+1)=some (.var [v]):=hk3 _ _ (sG (bw d1 (n4 ld1))) (by simp)
  have le1:=hp_lt e1
  have v1:=sl_cells hO3.sl
  have v2:=sl_isCell hO3.sl
  have kA:KeepV (fun l=>l∈[st.heap.length+1]) s0.heap s3.heap:=(KeepV.refl _ _).kpush.trans (keep_app hk3 hF3.len)
  have z1:=hF3.lo
  have z2:=hF3.up
  have z3:=hF3.len
  simp only[lo_push,len_push] at z1 z2 z3
  refine go2 (bw5 hl e1 v1 v2 (n4 le1)) fnil ?_
  obtain⟨r1,r2⟩:=(own_var (o := .var [v']) hO3 e1).p
  refine⟨kA.kset (.inl (by simp)),by rw[lo_setVar];omega,by rw[lo_setVar,len_setVar];omega,trivial,_,.app (.cons (by rw[hp_setVar,if_neg (by omega)];exact e0) rfl (.cons (by rw[hp_setVar,if_pos rfl,if_pos le1]) rfl (.nil _))) r2,v',?_,rfl⟩
  rw[List.take_succ_eq_append_getElem (by omega),hak,List.flatMap_append,List.flatMap_singleton]
  simpa[el_share,share_int] using r1
 ·rintro s4 L hH' ⟨v,hv,rfl⟩ k4 he hwf
  have hH:Has s4.heap ([(st.heap.length,.var [iv b.words,b.v,iv i]),(st.heap.length+1,.var [v])]++tagL v):=hH'
  have d1:=hH.left.hp (l:=st.heap.length+1) (o := .var [v]) (by simp)
  have hO:=hv.own hH.right
  rw[← hall,List.take_length] at hO
  apply inBlock_normal
  refine go2 (bw hl d1) fnil ?_
  refine fX (v) hl ?_
  exact finish_sl hO.sl he (fun m=>lowL_of fun c hc=>encC_low hc)
 ·intro j st' L _ h
  exact h.elim
def mF (A:List SI) (x:List Int×Int):Int:=x.2+(A.map fun a=>((lev x.1 a.l:Nat):Int)).sum
def outF (A:List SI) (X:List (List Int×Int)):List (List Int):=(leastL (mF A) X).map Prod.fst
structure OkX (X:List (List Int×Int)):Prop where
 len:X.length≤1000
 l4:∀ x∈X,x.1.length≤4
 n:∀ x∈X,0≤x.2∧x.2≤1000
structure OkA (A:List SI):Prop where
 len:A.length≤10
 l4:∀ a∈A,a.l.length≤4
theorem mF_take{A:List SI}(hA:OkA A){x:List Int×Int}(hx:x.1.length≤4)(hn:0≤x.2∧x.2≤1000)(k:Nat):0≤mF (A.take k) x∧mF (A.take k) x≤1040:=by
 unfold mF
 have h:=sum_bound (l:=(A.take k).map fun a=>((lev x.1 a.l:Nat):Int)) (b:=4) (by omega) (fun y hy=>by
  obtain⟨a,ha,rfl⟩:=List.mem_map.1 hy
  have:=lev_max x.1 a.l
  have:=hA.l4 a (List.mem_of_mem_take ha)
  omega)
 have h2:=hA.len
 simp only[List.length_map,List.length_take] at h
 omega
theorem mF_succ{A:List SI}{k:Nat}(hk:k<A.length)(x:List Int×Int):mF (A.take (k+1)) x=mF (A.take k) x+(lev x.1 A[k].l:Nat):=by
 unfold mF
 rw[List.take_succ_eq_append_getElem hk,List.map_append,List.sum_append_int]
 simp;omega
theorem outF_next{A:List SI}{X:List (List Int×Int)}{i:Nat}(hi:i<X.length)(h0:0<i):outF A (X.take (i+1))=(if mF A X[i]<minL (mF A) (X.take i) then [X[i].1] else if mF A X[i]=minL (mF A) (X.take i) then outF A (X.take i)++[X[i].1] else outF A (X.take i))∧minL (mF A) (X.take (i+1))=min (minL (mF A) (X.take i)) (mF A X[i]):=by
 have hn:X.take i≠[]:=by
  intro e
  have:=congrArg List.length e
  rw[List.length_take,List.length_nil] at this
  omega
 unfold outF
 rw[List.take_succ_eq_append_getElem hi,least_snoc _ _ hn,minL_snoc _ _ hn]
 refine⟨?_,rfl⟩
 split
 ·rfl
 ·split
  ·simp
  ·rfl
theorem outF_first{A:List SI}{X:List (List Int×Int)}(h:0<X.length):outF A (X.take 1)=[X[0].1]∧minL (mF A) (X.take 1)=mF A X[0]:=by
 cases X with
 | nil=>simp at h
 | cons x X=>exact⟨by simp[outF,leastL,minL],rfl⟩
theorem outF_len(A:List SI)(X:List (List Int×Int)):(outF A X).length≤X.length:=by
 unfold outF leastL
 rw[List.length_map]
 exact List.length_filter_le _ _
set_option maxHeartbeats 4000000 in
theorem c103(F Ad:PV)(X:List (List Int×Int))(A:List SI)(hF:SlOf 2 encC F X)(hAd:SlOf 1 encSI Ad A)(hX:OkX X)(hA:OkA A)(h0X:0<X.length)(st:St):ClR EE (.func 103 [] []) [F,Ad] st (fun v st'=>∃ u,v = .tuple [u,iv (minL (mF A) X)]∧RetW st (outF A X).length ((outF A X).flatMap encL) u st'):=by
 have hs:=hF.slen
 have has:=hAd.slen
 have hXl:=hX.len
 refine cG2 pr103 fn103 (fun tm hl h0 h1=>?_)
 refine go2 (bw4 hl h0 h1 hs) fnil ?_
 refine wp_range X.length [6,7] (fun i vs st'=>∃ v n,vs=[v,iv n]∧OwnS st.heap.length st' 1 v (outF A (X.take i)).length ((outF A (X.take i)).flatMap encL)∧(i=0→v = .nilslice∧n=0)∧(0<i→n=minL (mF A) (X.take i)∧0<(outF A (X.take i)).length)∧st.heap.length≤st'.lo∧st'.lo≤st'.heap.length) (by omega) (sG hl) (sG hl) (sG hl) (by decide) ⟨_,_,(sG hl),.nil,fun _=>⟨rfl,rfl⟩,fun h=>by omega,Nat.le_refl _,Nat.le_refl _⟩ ?_ ?_
 ·rintro i hi tm1 st1 ⟨v,n,hv,hO,hi0,hip,hlo,hwf⟩ hS hia
  obtain⟨hv6,hv7⟩:=mv2 hv
  have hl1:tm1.length=53:=lN hS hl;have j1:tg tm1 1=Ad:=tQ hS (bw hl h1);have j13:tg tm1 13=F:=tQ hS (bw hl h1);clear hS
  have x4:=hX.l4 _ (List.getElem_mem hi)
  have xn:=hX.n _ (List.getElem_mem hi)
  have xe:∀ (c:List Int×Int),(elL c.1).cells=[elL c.1]:=fun c=>el_cells _
  have xi:∀ (c:List Int×Int),(elL c.1).isCell=true:=fun c=>el_isCell _
  refine go2 (bw6 hl1 j1 j13 hia xi has) fnil ?_
  refine wp_range A.length [10] (fun k vs s'=>vs=[iv (mF (A.take k) X[i])]∧s'=setVar (st1.push (.var [.nilslice,iv 0])) st1.heap.length (.var [elL X[i].1,iv X[i].2])) (by have:=hA.len;omega) (sG hl1) (sG hl1) (sG hl1) (by decide) ⟨by simp only[↓reduceIte,go_sem,hl1];simp[mF],rfl⟩ ?_ ?_
  ·rintro k hk tm2 st2 ⟨hv2,rfl⟩ hS2 hka
   replace hv2:=mv1 hv2
   have hl2:tm2.length=53:=lN hS2 hl1;have k9:tg tm2 9 = .ptr st1.heap.length 0:=tQ hS2 (bw hl1 j1);have k21:tg tm2 21=Ad:=tQ hS2 (bw hl1 j1);clear hS2
   have a4:=hA.l4 _ (List.getElem_mem hk)
   have kc:=fun st=>c83 (elL X[i].1) A[k].v X[i].1 A[k].l (el_sl _) A[k].h x4 a4 st
   have hb:=mF_take hA x4 xn (k+1)
   have hsucc:=mF_succ hk X[i]
   rw[hsucc] at hb
   have hw:=wrap_in (n:=mF (A.take k) X[i]+(lev X[i].1 A[k].l:Nat)) (by unfold inI;omega)
   refine go2 (bw6 hl2 k9 k21 hka hv2 hw) (bw kc fnil) ?_
   exact⟨by simp only[↓reduceIte,go_sem,hl2];rw[hsucc],rfl⟩
  ·rintro tm2 st2 ⟨hv2,rfl⟩ hS2
   replace hv2:=mv1 hv2
   rw[List.take_length] at hv2
   have hl2:tm2.length=53:=lN hS2 hl1;have k6:tg tm2 6=v:=tQ hS2 (bw3 hl1 hv6 hv7);have k7:tg tm2 7=iv n:=tQ hS2 (bw3 hl1 hv6 hv7);have k9:tg tm2 9 = .ptr st1.heap.length 0:=tQ hS2 (bw3 hl1 hv6 hv7);clear hS2
   have hol:(outF A (X.take i)).length≤1000:=by
    have:=outF_len A (X.take i)
    rw[List.length_take] at this
    omega
   have hp9:hp (setVar (st1.push (.var [.nilslice,iv 0])) st1.heap.length (.var [elL X[i].1,iv X[i].2])) st1.heap.length=some (.var [elL X[i].1,iv X[i].2]):=by simp only[↓reduceIte,go_sem]
   have hO2:=own_new (z:=[.nilslice,iv 0]) (y:=[elL X[i].1,iv X[i].2]) hO
   have hlo2:st.heap.length≤(setVar (st1.push (.var [.nilslice,iv 0])) st1.heap.length (.var [elL X[i].1,iv X[i].2])).lo:=by simp only[lo_setVar,lo_push];omega
   have hwf2:(setVar (st1.push (.var [.nilslice,iv 0])) st1.heap.length (.var [elL X[i].1,iv X[i].2])).lo≤(setVar (st1.push (.var [.nilslice,iv 0])) st1.heap.length (.var [elL X[i].1,iv X[i].2])).heap.length:=by simp only[lo_setVar,lo_push,len_setVar,len_push];omega
   generalize setVar (st1.push (.var [.nilslice,iv 0])) st1.heap.length (.var [elL X[i].1,iv X[i].2])=S at hp9 hO2 hlo2 hwf2 ⊢
   apply andThen_normal
   apply wp_seq
   refine wp_join (fun tm' s'=>s'=S∧tm'.length=53∧tg tm' 9 = .ptr st1.heap.length 0∧tg tm' 10=iv (mF A X[i])∧∃ v2 n2 out2,tg tm' 6=v2∧tg tm' 7=iv n2∧OwnS st.heap.length S 1 v2 out2.length (out2.flatMap encL)∧out2.length≤1000∧(mF A X[i]=n2→outF A (X.take (i+1))=out2++[X[i].1])∧(mF A X[i]≠n2→outF A (X.take (i+1))=out2∧0<out2.length)∧minL (mF A) (X.take (i+1))=n2) ?_ ?_
   ·rcases Nat.eq_zero_or_pos i with h0|h0
    ·obtain⟨rfl,rfl⟩:=hi0 h0
     subst h0
     obtain⟨o1,o2⟩:=outF_first (A:=A) hi
     refine go2 (bw4 hl2 k6 k7 hv2) fnil ?_
     exact⟨rfl,(sG hl2),(sG (bw hl2 k9)),(sG (bw hl2 hv2)),.nilslice,mF A X[0],[],(sG hl2),(sG hl2),.nil,by simp,fun _=>o1,fun h=>absurd rfl h,o2⟩
    ·obtain⟨hn,hop⟩:=hip h0
     obtain⟨o1,o2⟩:=outF_next (A:=A) hi h0
     obtain⟨hc0,⟨hz,_⟩|⟨t,rfl,ht1,ht2⟩⟩:=hO2
     ·omega
     ·by_cases hlt:mF A X[i]<n
      ·have hd:=decide_eq_true hlt
       rw[← hn] at o1 o2
       rw[if_pos hlt] at o1
       refine go2 (bw5 hl2 k6 k7 hv2 hd) fnil ?_
       exact⟨rfl,(sG hl2),(sG (bw hl2 k9)),(sG (bw hl2 hv2)),.nilslice,mF A X[i],[],(sG hl2),(sG hl2),.nil,by simp,fun _=>o1,fun h=>absurd rfl h,by rw[o2];omega⟩
      ·have hd:=decide_eq_false hlt
       rw[← hn] at o1 o2
       rw[if_neg hlt] at o1
       refine go2 (bw5 hl2 k6 k7 hv2 hd) fnil ?_
       exact⟨rfl,(sG hl2),(sG (bw hl2 k9)),(sG (bw hl2 hv2)),_,n,outF A (X.take i),(sG (bw hl2 k6)),(sG (bw hl2 k7)),⟨hc0,.inr ⟨t,rfl,ht1,ht2⟩⟩,hol,fun h=>by rw[o1,if_pos h],fun h=>⟨by rw[o1,if_neg h],hop⟩,by rw[o2];omega⟩
   ·rintro tm3 s3 ⟨rfl,hl3,q9,q10,v2,n2,out2,q6,q7,hO3,hol2,r1,r2,r3⟩
    by_cases he:mF A X[i]=n2
    ·have hbe:(mF A X[i]==n2)=true:=by simp[he]
     have lp9:=hp_lt hp9
     refine go2 (bw8 hl3 q9 q10 q7 hbe hp9 xe (n4 lp9)) fnil ?_
     refine wops_append rfl rfl (sR (bw hl3 q6)) (sR hl3) hO3.push rfl (by simp only[len_push];omega) (by rfl) (by simp only[List.all_cons,List.all_nil,el_share,el_isCell,Bool.and_true]) (by simp only[maxList];omega) ?_
     intro v' s4 hO4 hF4 hk4
     have z1:=hF4.lo
     have z2:=hF4.up
     have z3:=hF4.len
     simp only[lo_push,len_push] at z1 z2 z3
     refine go2 (bw hl3 q7) fnil ?_
     refine⟨v',n2,(sG (bw hl3 q7)),?_,fun h=>by omega,fun _=>⟨r3.symm,by rw[r1 he];simp⟩,by omega,by omega⟩
     rw[r1 he,List.flatMap_append,List.length_append]
     simpa[el_share] using hO4
    ·have hbe:(mF A X[i]==n2)=false:=by simp[he]
     obtain⟨g1,g2⟩:=r2 he
     refine go2 (bw5 hl3 q9 q10 q7 hbe) fnil ?_
     exact⟨v2,n2,(sG (bw3 hl3 q6 q7)),by rw[g1];exact hO3,fun h=>by omega,fun _=>⟨r3.symm,by rw[g1];exact g2⟩,hlo2,hwf2⟩
 ·rintro tm1 st1 ⟨v,n,hv,hO,hi0,hip,hlo,hwf⟩ hS
  obtain⟨hv6,hv7⟩:=mv2 hv
  have hl1:tm1.length=53:=by rw[hS.1];simp only[↓reduceIte,go_sem,hl]
  rw[List.take_length] at hO hip
  rw[← (hip h0X).1]
  refine go2 (bw3 hl1 hv6 hv7) fnil ?_
  refine fX (.tuple [v,iv n]) (bw3 hl1 hv6 hv7) ?_
  exact finish_slT hO.sl (by rfl) hlo (fun m=>lowL_of fun c hc=>encL_low _ _ _ hc)
end Go.Den.Ve
end

/- Part of the proofs of laws of the package version. Texts: TsG, TsH, TsI, TsJ, TsK. -/
import Derived.Test.YthnfeimjhibcaaaTBAz
import Derived.Test.YthnfeimjhibcaaaTBAy
import Derived.Test.YthnfeimjhibcaaaTBAu
set_option linter.unusedSimpArgs false
set_option linter.unusedVariables false
section
namespace Go.Den.Tp
open Go.Den.Ch (Fig CL Flt inB figB listB packB layerL layersL key brk disB disA disorder fullL gapL fault)
def arrS (n:Nat) (rk:List Int):Nat→List Int→List (List Int)
 | 0,now=>[now]
 | k+1,now=>(List.range n).flatMap fun (x:Nat)=>if okB n rk (now++[(x:Int)]) now.length then arrS n rk k (now++[(x:Int)]) else []
def arrL (n:Nat) (rk:List Int):List (List Int):=arrS n rk n []
def RepI (v:PV) (x:List Int):Prop:=SlOf 1 encI v x
theorem okB_app {n:Nat} {rk now:List Int} {x:Int} {j:Nat} (h:j<now.length):okB n rk (now++[x]) j=okB n rk now j:=by
 have e1:(now++[x]).take j=now.take j:=by rw [List.take_append_of_le_length (by omega)]
 have e2:∀ i,i<now.length→(now++[x]).getD i 0=now.getD i 0:=fun i hi=>by
  rw [List.getD_eq_getElem?_getD,List.getD_eq_getElem?_getD,List.getElem?_append_left hi]
 have e3:rankB n rk (now++[x]) j=rankB n rk now j:=by
  unfold rankB
  rw [Bool.eq_iff_iff,List.all_eq_true,List.all_eq_true]
  have key:∀ i,i<j→badR n rk (now++[x]) j i=badR n rk now j i:=fun i hi=>by
   unfold badR
   rw [e2 i (by omega),e2 j h]
  exact ⟨fun h i hi=>by rw [← key i (List.mem_range.1 hi)];exact h i hi,fun h i hi=>by rw [key i (List.mem_range.1 hi)];exact h i hi⟩
 unfold okB
 rw [e1,e2 j h,e3]
def PutJ (W:Nat→Prop) (mN e w b0:Nat) (I:Nat→List HObj→Prop) (now:List Int) (h0:List HObj) (i c:Nat) (st1:St):Prop :=
 I (i+c) st1.heap∧(∃ v,hp st1 mN=some (.var [v])∧SlOf 1 encI v now)∧KeepV (fun l=>W l∨l=mN) h0 st1.heap∧e≤st1.lo∧st1.lo≤st1.heap.length∧((c=0∧b0≤st1.lo)∨st1.lo≤w)
def LeftN (W:Nat→Prop) (mN e w b0:Nat) (I:Nat→List HObj→Prop) (S:List HObj→Prop) (now:List Int) (i n:Nat) (st:St) (r:Bool) (st':St):Prop :=
 (r=true→I (i+n) st'.heap∧∃ v,hp st' mN=some (.var [v])∧SlOf 1 encI v now)∧(r=false→S st'.heap)∧KeepV (fun l=>W l∨l=mN) st.heap st'.heap∧e≤st'.lo∧st'.lo≤st'.heap.length∧st'.lo≤st.lo∧((n=0∧r=true∧(b0≤st.lo→b0≤st'.lo))∨st'.lo≤w)
theorem left_finN {W:Nat→Prop} {mN e w b0:Nat} {I:Nat→List HObj→Prop} {S:List HObj→Prop} {now:List Int} {i n:Nat} {st st1:St} {r:Bool} (h0:I i st.heap) (hv:∃ v,hp st mN=some (.var [v])∧SlOf 1 encI v now) (he:e≤st.lo) (hwf:st.lo≤st.heap.length) (hw:w<b0) (hb:b0≤st.heap.length) (hk:KeepV (fun l=>W l∨l=mN) st.heap st1.heap) (he1:e≤st1.lo)
  (hT:r=true→I (i+n) st1.heap∧∃ v,hp st1 mN=some (.var [v])∧SlOf 1 encI v now) (hF:r=false→S st1.heap) (h:(n=0∧r=true∧b0≤st1.lo)∨st1.lo≤w) :
  ∃ r',(finishCall st st1 (.bool r)).1 = .bool r'∧LeftN W mN e w b0 I S now i n st r' (finishCall st st1 (.bool r)).2:=by
 by_cases h1:st.heap.length≤st1.lo
 ·rw [finish_flat h1 rfl]
  rcases h with ⟨rfl,rfl,_⟩|h2
  ·exact ⟨true,rfl,(fun _=>⟨h0,hv⟩),(fun h=>by cases h),.refl _ _,he,hwf,Nat.le_refl _,.inl ⟨rfl,rfl,id⟩⟩
  ·omega
 ·unfold finishCall
  rw [if_neg h1]
  refine ⟨r,rfl,hT,hF,hk,by show e≤min st.lo st1.lo;omega,by show min st.lo st1.lo≤st1.heap.length;have:=hk.1;omega,by show min st.lo st1.lo≤st.lo;omega,?_⟩
  rcases h with ⟨h2,h3,h4⟩|h2
  ·exact .inl ⟨h2,h3,fun h5=>by show b0≤min st.lo st1.lo;omega⟩
  ·exact .inr (by show min st.lo st1.lo≤w;omega)
theorem wopsD_callF {E:Env} {QD:Ex→List PV→St→List Foot→Prop} {tm:List PV} {st:St} {f:Opd} {args:List Opd} {dst:Option Nat} {g:Option (Nat×Bool)} {os:List DOper} {b:Bool} {fv:PV} {P:PV→St→Prop} (hw:wants tm g=b) (hb:b=true) {as:List PV} (hf:f.ev tm=fv) (ha:evs tm args=as) (hc:ClR E fv as { st with lo:=st.heap.length } P)
  (h:∀ v st1,P v st1→WOpsD E os (fun e tm' st' fs=>QD e tm' st' (.ch st1.lo st.heap st1.heap::fs)) (put tm dst v) { st1 with lo:=min st.lo st1.lo }):WOpsD E (⟨.call f args,dst,g⟩::os) QD tm st:=by
 subst ha
 obtain ⟨v,st1,⟨N,hN⟩,hP⟩:=hc
 exact wopsD_fine (v:=v) (st1:=st1) (hw.trans hb) N (fun n hn=>by simp only [stepOp,hf,hN n hn]) (h v st1 hP)
section
variable {n:Nat} {rk:List Int} {H G Sc R y:PV} {mN mG mY mA mM mP e w b0:Nat} {X:List (List Int)} {W:Nat→Prop} {I:Nat→List HObj→Prop} {S:List HObj→Prop}
abbrev putF (mN mG mY mA mM mP:Nat):PV := .func 128 [] [.ptr mN 0,.ptr mG 0,.ptr mY 0,.ptr mA 0,.ptr mM 0,.ptr mP 0]
abbrev rulesL:List PV:=[.func 129 [] [],.func 130 [] [],.func 131 [] []]
set_option maxHeartbeats 4000000 in
theorem c128_0 (hk:OkS n rk) (hs:SgOk n rk H G R) (Y:YldN EE y X RepI W e w I S) (hyc:y.cells=[y]) (hWG:¬ W mG) (hWN:¬ W mN) (hWY:¬ W mY) (hb0:w<b0) (hNb:b0≤mN)
  (now:List Int) (v:PV) (st:St) (i:Nat) (hv:SlOf 1 encI v now) (hlen:now.length=n) (hX:[now] <+: X.drop i) (hI:I i st.heap) (helo:e≤st.lo) (hwf:st.lo≤st.heap.length)
  (hN:hp st mN=some (.var [v])) (hG:hp st mG=some (.var (sgL n H G Sc R))) (hY:hp st mY=some (.var [y])) :
  ClR EE (putF mN mG mY mA mM mP) [] st (fun u st'=>∃ r,u = .bool r∧LeftN W mN e w b0 I S now i 1 st r st'):=by
 have l4:=hk.n4
 have hvs:=hv.slen
 have hRs:=hs.r.slen
 have hRc:=hs.r.cells
 rw [restL_len] at hRs
 rw [hlen] at hvs
 have ltN:=hp_lt hN
 have lG:=hp_lt hG
 have lY:=hp_lt hY
 have hN':hp { heap:=st.heap,lo:=st.heap.length } mN=some (.var [v]):=hN
 have hG':hp { heap:=st.heap,lo:=st.heap.length } mG=some (.var (sgL n H G Sc R)):=hG
 have hY':hp { heap:=st.heap,lo:=st.heap.length } mY=some (.var [y]):=hY
 have hbe:((n:Int)==(n:Int))=true:=by simp
 obtain ⟨t,ht⟩:=hX
 have hi:i<X.length:=by
  rcases Nat.lt_or_ge i X.length with h|h
  ·exact h
  ·rw [List.drop_eq_nil_of_le h] at ht;cases ht
 have hXi:X[i]=now:=by
  rw [List.drop_eq_getElem_cons hi] at ht
  simp only [List.singleton_append,List.cons.injEq] at ht
  exact ht.1.symm
 refine clr_fn (pr128 · _ _) fn128 6 rfl (by decide) (fun tm hl hg=>?_);have h0:tg tm 0 = .ptr mN 0:=(hg 0 (by decide));have h1:tg tm 1 = .ptr mG 0:=(hg 1 (by decide));have h2:tg tm 2 = .ptr mY 0:=(hg 2 (by decide));have h3:tg tm 3 = .ptr mA 0:=(hg 3 (by decide));have h4:tg tm 4 = .ptr mM 0:=(hg 4 (by decide));have h5:tg tm 5 = .ptr mP 0:=(hg 5 (by decide));clear hg
 refine go2 (bw14 hl h0 h1 h2 hN' hG' hY' hvs hRs hRc hbe (n4 ltN) (n4 lG) (n4 lY)) fnil ?_
 refine wopsD_callS (by first|omega|(simp only [lo_push,lo_setVar,len_push,len_setVar];omega)) rfl rfl (by simp only [↓reduceIte,go_sem,hl];first|done|rfl) (fun st1 he=>by simp only [↓reduceIte,go_sem,hl];exact c104 v now hv (by omega) _) ?_
 intro v2 st2 hR
 have hx:HExt st.heap st2.heap:=hR.fr.hext
 have hlo2:=hR.lo
 have hln2:=hR.len
 have hv2:SlOf 1 encI v2 now:=SlOf.of_sl hR.sl rfl rfl (fun _=>rfl)
 obtain ⟨r,st3,hcl,hk3,he3,hw3,hT,hF⟩:=Y.step i hi v2 { heap:=st2.heap,lo:=st2.heap.length } (by rw [hXi];exact hv2) (Y.stab _ _ _ hI hx) (by show e≤st2.heap.length;simp only at hln2;omega) (Nat.le_refl _) (by show w<st2.heap.length;simp only at hln2;omega)
 refine wopsD_callF (fv:=y) (as:=[v2]) rfl rfl ?_ ?_ (P:=fun u st'=>u = .bool r∧st'=st3) ⟨_,_,hcl,rfl,rfl⟩ ?_
 ·simp only [↓reduceIte,go_sem,hl]
 ·simp only [↓reduceIte,go_sem,hl]
 rintro u st4 ⟨rfl,rfl⟩
 have hkk:KeepV (fun l=>W l∨l=mN) st.heap st4.heap:=(hx.keep _).trans (hk3.mono fun l h => .inl h)
 have hN3:hp st4 mN=some (.var [v]):=hk3.2 _ _ (hx.hp hN) rfl hWN
 simp only at hlo2 hln2
 have hl4:=hk3.1
 simp only at hl4
 obtain ⟨s4,hs4⟩:∃ s4:St,s4={ heap:=st4.heap,lo:=min st2.lo st4.lo }:=⟨_,rfl⟩
 have hh4:s4.heap=st4.heap:=by rw [hs4]
 have hlo4:s4.lo=min st2.lo st4.lo:=by rw [hs4]
 rw [← hs4]
 have hwf4:s4.lo≤s4.heap.length:=by rw [hh4,hlo4];omega
 refine go2 hl fnil ?_
 refine fnr_ret (v := .bool r) (results_one (by rw [rdRes_tmp];simp only [↓reduceIte,go_sem,hl])) ?_
 exact left_finN (st1:=s4) hI ⟨v,hN,hv⟩ helo hwf hb0 (by omega) (by rw [hh4];exact hkk) (by omega) (fun hr=>⟨by rw [hh4];exact hT hr,v,by show s4.heap[mN]? = _;rw [hh4];exact hN3,hv⟩) (fun hr=>by rw [hh4];exact hF hr) (.inr (by omega))
theorem keep_at {W:Nat→Prop} {mN l:Nat} {a b:St} {cs:List PV} (h:KeepV (fun l=>W l∨l=mN) a.heap b.heap) (ho:hp a l=some (.var cs)) (hw:¬ W l) (hn:l≠mN):hp b l=some (.var cs):=h.2 _ _ ho rfl (by rintro (h|h);exact hw h;exact hn h)
set_option maxHeartbeats 8000000 in
theorem c128 (hk:OkS n rk) (hs:SgOk n rk H G R) (Y:YldN EE y X RepI W e w I S) (hyc:y.cells=[y]) (hWG:¬ W mG) (hWN:¬ W mN) (hWY:¬ W mY) (hWA:¬ W mA) (hWM:¬ W mM) (hWP:¬ W mP) (hnG:mG≠mN) (hnY:mY≠mN) (hnA:mA≠mN) (hnM:mM≠mN) (hnP:mP≠mN) (hb0:w<b0) (heb:e≤b0) (hNb:b0≤mN) :
  ∀ (k:Nat) (now:List Int) (v:PV) (st:St) (i:Nat),SlOf 1 encI v now→now.length+k=n→(∀ x∈now,0≤x∧x<n)→(∀ j,j<now.length→okB n rk now j=true)→arrS n rk k now <+: X.drop i→I i st.heap→e≤st.lo→st.lo≤st.heap.length →
   hp st mN=some (.var [v])→hp st mG=some (.var (sgL n H G Sc R))→hp st mY=some (.var [y])→hp st mA=some (.var rulesL)→hp st mM=some (.var [iv 3])→hp st mP=some (.var [putF mN mG mY mA mM mP]) →
   ClR EE (putF mN mG mY mA mM mP) [] st (fun u st'=>∃ r,u = .bool r∧LeftN W mN e w b0 I S now i (arrS n rk k now).length st r st')
 | 0,now,v,st,i,hv,hlen,hrng,hok,hX,hI,helo,hwf,hN,hG,hY,hA,hM,hP=>by
  exact c128_0 hk hs Y hyc hWG hWN hWY hb0 hNb now v st i hv (by omega) hX hI helo hwf hN hG hY
 | k+1,now,v,st,i,hv,hlen,hrng,hok,hX,hI,helo,hwf,hN,hG,hY,hA,hM,hP=>by
  have l4:=hk.n4
  have hvs:=hv.slen
  have hHs:=hs.h.slen
  have hRs:=hs.r.slen
  have hHc:=hs.h.cells
  have hRc:=hs.r.cells
  rw [restL_len] at hRs
  rw [hsL_len] at hHs
  have ltN:=hp_lt hN
  have lG:=hp_lt hG
  have hN':hp { heap:=st.heap,lo:=st.heap.length } mN=some (.var [v]):=hN
  have hG':hp { heap:=st.heap,lo:=st.heap.length } mG=some (.var (sgL n H G Sc R)):=hG
  have hbe:((now.length:Int)==(n:Int))=false:=by simp;omega
  let g:Nat→List (List Int):=fun x=>if okB n rk (now++[(x:Int)]) now.length then arrS n rk k (now++[(x:Int)]) else []
  have hsg:arrS n rk (k+1) now=(List.range n).flatMap g:=rfl
  refine clr_fn (pr128 · _ _) fn128 6 rfl (by decide) (fun tm hl hg=>?_);have h0:tg tm 0 = .ptr mN 0:=(hg 0 (by decide));have h1:tg tm 1 = .ptr mG 0:=(hg 1 (by decide));have h2:tg tm 2 = .ptr mY 0:=(hg 2 (by decide));have h3:tg tm 3 = .ptr mA 0:=(hg 3 (by decide));have h4:tg tm 4 = .ptr mM 0:=(hg 4 (by decide));have h5:tg tm 5 = .ptr mP 0:=(hg 5 (by decide));clear hg
  refine go2 (bw13 hl h0 h1 hN' hG' hvs hHs hHc hRs hRc hbe (n4 ltN) (n4 lG)) fnil ?_
  refine wp_range n [] (fun x vs st1=>PutJ W mN e w b0 I now st.heap i ((List.range x).flatMap g).length st1) (by omega) (sG hl) (sG hl) (sG hl) (by decide) ⟨hI,⟨v,hN,hv⟩,.refl _ _,by show e≤st.heap.length;omega,Nat.le_refl _,.inl ⟨rfl,by show b0≤st.heap.length;omega⟩⟩ ?_ ?_
  ·rintro x hx tm1 st1 ⟨hI1,⟨v1,hN1,hv1⟩,hk1,he1,hwf1,hlo1⟩ hS hia
   have hl1:tm1.length=57:=lN hS hl;have i0:tg tm1 0 = .ptr mN 0:=tQ hS (bw6 hl h0 h1 h3 h4 h5);have i1:tg tm1 1 = .ptr mG 0:=tQ hS (bw6 hl h0 h1 h3 h4 h5);have i3:tg tm1 3 = .ptr mA 0:=tQ hS (bw6 hl h0 h1 h3 h4 h5);have i4:tg tm1 4 = .ptr mM 0:=tQ hS (bw6 hl h0 h1 h3 h4 h5);have i5:tg tm1 5 = .ptr mP 0:=tQ hS (bw6 hl h0 h1 h3 h4 h5);clear hS
   have hG1:=keep_at hk1 hG hWG hnG
   have hY1:=keep_at hk1 hY hWY hnY
   have hA1:=keep_at hk1 hA hWA hnA
   have hM1:=keep_at hk1 hM hWM hnM
   have hP1:=keep_at hk1 hP hWP hnP
   have lN1:=hp_lt hN1
   refine go2 (bw5 hl1 i0 hia hN1 (n4 lN1)) fnil ?_
   refine cR hl1 (c104 v1 now hv1 (by omega) _) ?_
   intro v2 st2 hR
   have hlen2:=hR.len
   have hlo2:=hR.lo
   refine go2 (bw hl1 hia) fnil ?_
   refine aP hl1 ((hR.own (Nat.le_refl _)).push) ?_
   intro v' st3 hO' hFr hk3
   have hv':SlOf 1 encI v' (now++[(x:Int)]):=SlOf.of_sl hO'.sl (by simp) (by simp [encI_map,share_int]) (fun _=>rfl)
   have hv'c:=hv'.cells
   have hv'i:=hv'.isCell
   have hFr3:Fr st1.heap.length st1 st3:=(hR.fr.push (by omega)).trans (hFr.mono (Nat.le_refl _))
   have hx3:=hFr3.hext
   have hl13:=hFr3.len
   have hlo13:=hFr3.lo
   have hup13:=hFr3.up
   have hwf3:st3.lo≤st3.heap.length:=by omega
   have hN3:=hx3.hp hN1
   have hG3:=hx3.hp hG1
   have hY3:=hx3.hp hY1
   have hA3:=hx3.hp hA1
   have hM3:=hx3.hp hM1
   have hP3:=hx3.hp hP1
   have lN3:=hp_lt hN3
   have lG3:=hp_lt hG3
   have lA3:=hp_lt hA3
   have lM3:=hp_lt hM3
   have hcnt:=flatMap_range_succ g x
   refine go2 (bw5 hl1 i3 i4 hM3 (n4 lM3)) fnil ?_
   refine wops_one (v := .vslice mA 1 3) (st1:=st3) rfl (fun rec=>?_) ?_
   ·simp only [stepOp,ev_t,↓reduceIte,go_sem,hl1,i3];rfl
   refine go2 hl1 fnil ?_
   have hxr:∀ z∈now++[(x:Int)],0≤z∧z<n:=fun z hz=>by
    rcases List.mem_append.1 hz with h|h
    ·exact hrng z h
    ·simp only [List.mem_singleton] at h;subst h;omega
   have hnl:(now++[(x:Int)]).length=now.length+1:=by simp
   have hok':∀ j,j<now.length→okB n rk (now++[(x:Int)]) j=true:=fun j hj=>by rw [okB_app hj];exact hok j hj
   have htk:(now++[(x:Int)]).take (now.length+1)=now++[(x:Int)]:=by rw [← hnl,List.take_length]
   obtain ⟨k129,k130,k131⟩:=rules_of (S:=Sc) hk hs v' (now++[(x:Int)]) now.length (by omega) (by rw [htk];exact hv') (by omega) hxr hok'
   have hcont:okB n rk (now++[(x:Int)]) now.length=false→PutJ W mN e w b0 I now st.heap i ((List.range (x+1)).flatMap g).length st3:=fun hb=>by
    have hgn:g x=[]:=by simp only [g,hb,Bool.false_eq_true,if_false]
    rw [hgn,List.length_nil,Nat.add_zero] at hcnt
    rw [hcnt]
    refine ⟨Y.stab _ _ _ hI1 hx3,⟨v1,hN3,hv1⟩,hk1.trans (hx3.keep _),by omega,hwf3,?_⟩
    rcases hlo1 with ⟨h1,h2⟩|h1
    ·exact .inl ⟨h1,by omega⟩
    ·exact .inr (by omega)
   refine wp_range 3 [] (fun j vs st'=>(0<j→hasI ((now++[(x:Int)]).take now.length) ((now++[(x:Int)]).getD now.length 0)=false)∧(2<j→rankB n rk (now++[(x:Int)]) now.length=true)∧st'=st3) (by omega) (sG hl1) (sR hl1) (sG hl1) (by decide) ⟨fun h=>absurd h (by omega),fun h=>absurd h (by omega),rfl⟩ ?_ ?_
   ·rintro j hj tm2 st2' ⟨hj1,hj2,rfl⟩ hS2 hja
    have hl2:tm2.length=57:=lN hS2 hl1;have j1:tg tm2 1 = .ptr mG 0:=tQ hS2 (bw hl1 i1);have j8:tg tm2 8=v':=tQ hS2 (bw hl1 i1);have j35:tg tm2 35 = .vslice mA 1 3:=tQ hS2 (bw hl1 i1);clear hS2
    obtain rfl|rfl|rfl:j=0∨j=1∨j=2:=by omega
    ·refine go2 hl2 fnil ?_
     refine wops_one (v := .ptr mA 0) (st1:=st2') rfl (fun rec=>?_) ?_
     ·simp only [stepOp,ev_t,j35,hja];rfl
     cases hb:hasI ((now++[(x:Int)]).take now.length) ((now++[(x:Int)]).getD now.length 0)
     ·rw [hb] at k129
      refine go2 (bw7 hl2 j1 j8 hA3 hG3 (n4 lA3) (n4 lG3)) (bw k129 fnil) ?_
      exact ⟨fun _=>rfl,fun h=>absurd h (by omega),rfl⟩
     ·rw [hb] at k129
      refine go2 (bw7 hl2 j1 j8 hA3 hG3 (n4 lA3) (n4 lG3)) (bw k129 fnil) ?_
      exact hcont (by simp only [okB,hb,Bool.not_true,Bool.false_and])
    ·refine go2 hl2 fnil ?_
     refine wops_one (v := .ptr mA 1) (st1:=st2') rfl (fun rec=>?_) ?_
     ·simp only [stepOp,ev_t,j35,hja];rfl
     refine go2 (bw7 hl2 j1 j8 hA3 hG3 (n4 lA3) (n4 lG3)) (bw k130 fnil) ?_
     exact ⟨fun _=>hj1 (by omega),fun h=>absurd h (by omega),rfl⟩
    ·refine go2 hl2 fnil ?_
     refine wops_one (v := .ptr mA 2) (st1:=st2') rfl (fun rec=>?_) ?_
     ·simp only [stepOp,ev_t,j35,hja];rfl
     cases hb:rankB n rk (now++[(x:Int)]) now.length
     ·rw [hb] at k131
      refine go2 (bw7 hl2 j1 j8 hA3 hG3 (n4 lA3) (n4 lG3)) (bw k131 fnil) ?_
      exact hcont (by simp only [okB,hb,Bool.and_false])
     ·rw [hb] at k131
      refine go2 (bw7 hl2 j1 j8 hA3 hG3 (n4 lA3) (n4 lG3)) (bw k131 fnil) ?_
      exact ⟨fun _=>hj1 (by omega),fun _=>rfl,rfl⟩
   ·rintro tm2 st2' ⟨hj1,hj2,rfl⟩ hS2
    have hl2:tm2.length=57:=lN hS2 hl1;have j0:tg tm2 0 = .ptr mN 0:=tQ hS2 (bw3 hl1 i0 i5);have j5:tg tm2 5 = .ptr mP 0:=tQ hS2 (bw3 hl1 i0 i5);have j8:tg tm2 8=v':=tQ hS2 (bw3 hl1 i0 i5);clear hS2
    have hokx:okB n rk (now++[(x:Int)]) now.length=true:=by simp only [okB,hj1 (by omega),hj2 (by omega),Bool.not_false,Bool.and_self]
    have hgn:g x=arrS n rk k (now++[(x:Int)]):=by simp only [g,hokx,if_true]
    have hPN:(mP=mN)=False:=by simp [hnP]
    rw [hgn] at hcnt
    have hXn:arrS n rk k (now++[(x:Int)]) <+: X.drop (i+((List.range x).flatMap g).length):=by
     obtain ⟨r,hr⟩:=flatMap_range_split g hx
     rw [hsg,hr] at hX
     rw [← hgn,← List.drop_drop]
     exact prefix_drop hX
    refine go2 (bw10 hl2 j0 j5 j8 hv'c hv'i hN3 hP3 hPN (n4 lN3)) fnil ?_
    have hI4:I (i+((List.range x).flatMap g).length) (setVar st2' mN (.var [v'])).heap:=Y.setI _ _ _ _ _ (by omega) (Y.stab _ _ _ hI1 hx3) hN3
    have hk4:KeepV (fun l=>W l∨l=mN) st.heap (setVar st2' mN (.var [v'])).heap:=⟨by rw [len_setVar];exact (hk1.trans (hx3.keep _)).1,fun l o ho hko hn=>hp_set_other ((hk1.trans (hx3.keep _)).2 l o ho hko hn) (fun e=>hn (.inr e))⟩
    have hN4:hp (setVar st2' mN (.var [v'])) mN=some (.var [v']):=by rw [hp_setVar,if_pos rfl,if_pos lN3]
    have hrec:=c128 hk hs Y hyc hWG hWN hWY hWA hWM hWP hnG hnY hnA hnM hnP hb0 heb hNb k (now++[(x:Int)]) v' (setVar st2' mN (.var [v'])) (i+((List.range x).flatMap g).length) hv' (by omega) hxr (fun j hj=>by
     rcases Nat.lt_or_ge j now.length with h|h
     ·exact hok' j h
     ·obtain rfl:j=now.length:=by omega
      exact hokx) hXn hI4 (by rw [lo_setVar];omega) (by rw [lo_setVar,len_setVar];omega) hN4 (hp_set_other hG3 hnG) (hp_set_other hY3 hnY) (hp_set_other hA3 hnA) (hp_set_other hM3 hnM) (hp_set_other hP3 hnP)
    refine cR hl2 (hrec) ?_
    rintro u st5 ⟨r,rfl,hT,hF,hk5,he5,hwf5,hup5,hlo5⟩
    simp only [lo_setVar] at hup5 hlo5
    cases r
    ·refine go2 hl2 fnil ?_
     refine fnr_ret (v := .bool false) (results_one (by rw [rdRes_tmp];simp only [↓reduceIte,go_sem,hl2])) ?_
     refine left_finN hI ⟨v,hN,hv⟩ helo hwf hb0 (by omega) (hk4.trans hk5) he5 (fun h=>by cases h) hF (.inr ?_)
     rcases hlo5 with ⟨_,h2,_⟩|h2
     ·cases h2
     ·exact h2
    ·obtain ⟨hI5,v5,hN5,hv5⟩:=hT rfl
     have l5:=hp_lt hN5
     have hv5s:=hv5.slen
     rw [hnl] at hv5s
     have hw5:=wrap_pred now.length (by omega)
     refine go2 (bw6 hl2 j0 hN5 (n4 l5) hv5s hw5) fnil ?_
     refine wops_slice rfl rfl (sR hl2) hv5 (m:=now.length) (n:=0) (by simp only [bound];simp only [↓reduceIte,go_sem,hl2];simp) (by rfl) (by omega) (by omega) ?_
     intro F6 hF6
     have eF6:List.take (now.length - 0) (List.drop 0 (now++[(x:Int)]))=now:=by simp
     rw [eF6] at hF6
     have hF6c:=hF6.cells
     have hF6i:=hF6.isCell
     refine go2 (bw6 hl2 j0 hN5 (n4 l5) hF6c hF6i) fnil ?_
     rw [hcnt]
     have hk6:KeepV (fun l=>W l∨l=mN) st.heap (setVar st5 mN (.var [F6])).heap:=⟨by rw [len_setVar];exact (hk4.trans hk5).1,fun l o ho hko hn=>hp_set_other ((hk4.trans hk5).2 l o ho hko hn) (fun e=>hn (.inr e))⟩
     refine ⟨?_,⟨F6,by rw [hp_setVar,if_pos rfl,if_pos l5],hF6⟩,hk6,by simp only [lo_setVar];omega,by simp only [lo_setVar,len_setVar];omega,?_⟩
     ·rw [← Nat.add_assoc]
      exact Y.setI _ _ _ _ _ (by omega) hI5 hN5
     ·simp only [lo_setVar]
      rcases hlo5 with ⟨h1,_,h3⟩|h1
      ·rcases hlo1 with ⟨h4,h5⟩|h4
       ·exact .inl ⟨by omega,by have:=h3 (by omega);omega⟩
       ·exact .inr (by omega)
      ·exact .inr (by omega)
  ·rintro tm1 st1 ⟨hI1,hv1,hk1,he1,hwf1,hlo1⟩ hS
   have hl1:tm1.length=57:=lN hS hl;clear hS
   refine go2 hl1 fnil ?_
   rw [hsg]
   refine fnr_ret (v := .bool true) (results_one (by rw [rdRes_tmp];simp only [↓reduceIte,go_sem,hl1])) ?_
   refine left_finN hI ⟨v,hN,hv⟩ helo hwf hb0 (by omega) hk1 he1 (fun _=>⟨hI1,hv1⟩) (fun h=>by cases h) ?_
   rcases hlo1 with ⟨h1,h2⟩|h1
   ·exact .inl ⟨h1,rfl,h2⟩
   ·exact .inr h1
end
end Go.Den.Tp
end
section
namespace Go.Den.Tp
open Go.Den.Ch (Fig CL Flt inB figB listB packB layerL layersL key brk disB disA disorder fullL gapL fault)
section
variable {n:Nat} {rk:List Int} {H G Sc R:PV} {mG mM:Nat}
abbrev putS (st:St) (y:PV) (mG mM:Nat):St:=setVar ((setVar (((({ heap:=st.heap,lo:=st.heap.length }:St).push (.var [y])).push (.var [.nilslice])).push (.var [.nilfunc,.nilfunc,.nilfunc])) (st.heap.length+2) (.var rulesL)).push (.var [.nilfunc])) (st.heap.length+3) (.var [putF (st.heap.length+1) mG st.heap.length (st.heap.length+2) mM (st.heap.length+3)])
set_option maxHeartbeats 1000000 in
theorem iter127 {st:St} (hk:OkS n rk) (hs:SgOk n rk H G R) (hG:hp st mG=some (.var (sgL n H G Sc R))) (hM:hp st mM=some (.var [iv 3])):IterN EE (.func 127 [] [.ptr mG 0,.ptr mM 0]) st (arrL n rk) RepI (fun l=>l=mG∨l=mM):=by
 intro y W e w I S Y hWp hWw hI he hwf hw hew hyi hyc
 have hWb:∀ k,¬ W (st.heap.length+k):=fun k h=>by have:=hWw _ h;omega
 have lG:=hp_lt hG
 have lM:=hp_lt hM
 have hx0:HExt st.heap (putS st y mG mM).heap:=(show HExt ({ heap:=st.heap,lo:=st.heap.length }:St).heap _ from (((((((Fr.refl st.heap.length { heap:=st.heap,lo:=st.heap.length }).push (Nat.le_refl _)).push (by simp only [len_push];omega)).push (by simp only [len_push];omega)).setVar (by omega)).push (by simp only [len_push,len_setVar];omega)).setVar (by omega)).hext)
 have hlo0:(putS st y mG mM).lo=st.heap.length:=by simp only [lo_setVar,lo_push];omega
 have hln0:(putS st y mG mM).heap.length=st.heap.length+4:=by simp only [len_setVar,len_push]
 have hrec:=c128 (Sc:=Sc) (mG:=mG) (mM:=mM) (mN:=st.heap.length+1) (mY:=st.heap.length) (mA:=st.heap.length+2) (mP:=st.heap.length+3) (b0:=st.heap.length) hk hs Y hyc (hWp _ (.inl rfl)) (hWb 1) (hWb 0) (hWb 2) (hWp _ (.inr rfl)) (hWb 3) (by omega) (by omega) (by omega) (by omega) (by omega) hw (by omega) (by omega) n [] .nilslice (putS st y mG mM) 0 .nil (by simp) (by simp) (fun j hj=>absurd hj (by simp)) (by rw [List.drop_zero];exact List.prefix_refl _) (Y.stab _ _ _ hI hx0) (by omega) (by omega)
  (sG fnil) (hx0.hp hG) (sG fnil) (sG fnil) (hx0.hp hM) (sG fnil)
 have hgoal:ClR EE (.func 127 [] [.ptr mG 0,.ptr mM 0]) [y] st (fun v st'=>KeepV W st.heap st'.heap∧e≤st'.lo∧st'.lo≤st'.heap.length∧(I (arrL n rk).length st'.heap∨S st'.heap)):=by
  refine cG3 pr127 fn127 (fun tm hl h0 h1 h2=>?_)
  refine go2 (bw6 hl h0 h1 h2 hyi hyc) (bw c96 fnil) ?_
  refine cR (bw4 hl h0 h1 h2) (hrec) ?_
  rintro u st5 ⟨r,rfl,hT,hF,hk5,he5,hwf5,hup5,hlo5⟩
  rw [Nat.zero_add] at hT
  refine go2 hl fnil ?_
  refine fnr_normal results_nil ?_
  rcases hlo5 with ⟨h1,rfl,h3⟩|h1
  ·rw [finish_tuple (h3 (by omega)) (by rfl)]
   have:(arrL n rk).length=0:=h1
   rw [this]
   exact ⟨.refl _ _,he,hwf,.inl hI⟩
  ·unfold finishCall
   rw [if_neg (by omega)]
   refine ⟨⟨Nat.le_trans hx0.1 hk5.1,fun l o ho hko hn=>hk5.2 l o ((hx0.keep W).2 l o ho hko hn) hko (by rintro (h|h);exact hn h;have:=hp_lt (st:=st) ho;omega)⟩,?_,?_,?_⟩
   ·show e≤min st.lo st5.lo;omega
   ·show min st.lo st5.lo≤st5.heap.length;omega
   ·cases r
    ·exact .inr (hF rfl)
    ·exact .inl (hT rfl).1
 obtain ⟨v,st',h1,h2⟩:=hgoal
 exact ⟨v,st',h1,h2⟩
end
theorem lowL_all {m:Nat}:∀ {cs:List PV},lowL m cs=true→∀ c∈cs,c.low m=true
 | [],_,c,hc=>by cases hc
 | d::cs,h,c,hc=>by
  simp only [lowL,Bool.and_eq_true] at h
  rcases List.mem_cons.1 hc with rfl|hc
  ·exact h.1
  ·exact lowL_all h.2 c hc
def ColJ (b0:Nat) (i:Nat) (h:List HObj):Prop:=∃ u cs,h[b0]? = some (.var [u])∧OwnS b0 ⟨h,0⟩ 1 u i cs∧∀ m,lowL m cs=true
theorem share_low1 {v:PV} {l:List Int} (h:SlOf 1 encI v l) (m:Nat):v.share.low m=true:=by
 have hs:=h.sl
 cases v with
 | nilslice=>rfl
 | slice o k cs =>
  simp only [PV.sl,Option.some.injEq,Prod.mk.injEq] at hs
  obtain ⟨rfl,rfl⟩:=hs
  simp only [PV.share,PV.low]
  exact ints_low l m
 | _=>cases hs
set_option maxHeartbeats 1000000 in
theorem c93 (g:Nat) (fa fc:List PV) (X:List (List Int)) (hX:X.length<1000000) (priv:Nat→Prop) (st:St) (hpriv:∀ l,priv l→l<st.heap.length) (hIt:∀ st',HExt st.heap st'.heap→IterN EE (.func g fa fc) st' X RepI priv) :
  ClR EE (.func 93 [] []) [.nilslice,.func g fa fc] st (fun v st'=>∃ cs,RetW st X.length cs v st'∧∀ m,lowL m cs=true):=by
 refine cG2 pr93 fn93 (fun tm hl h0 h1=>?_)
 refine go2 (bw3 hl h0 h1) fnil ?_
 apply wp_block
 refine wp_gen (fun tm1 s1=>tm1.length=13∧tg tm1 2 = .ptr st.heap.length 0∧tg tm1 6 = .func g fa fc∧HExt st.heap s1.heap∧s1.heap.length=st.heap.length+1∧st.heap.length≤s1.lo∧s1.lo≤s1.heap.length∧hp s1 st.heap.length=some (.var [.nilslice]))
  ⟨(sG hl),(sG hl),(sG hl),(show HExt ({ heap:=st.heap,lo:=st.heap.length }:St).heap _ from ((Fr.refl st.heap.length { heap:=st.heap,lo:=st.heap.length }).push (Nat.le_refl _)).hext),(sG fnil),by simp only [lo_push];omega,by simp only [lo_push,len_push];omega,(sG fnil)⟩ ?_
 rintro tm1 s1 ⟨hl1,q2,q6,hx,hsl,hlo,hwf,z0⟩
 refine wp_rangeN (X:=X) (Rep:=RepI) (priv:=priv) (fun l=>l=st.heap.length) st.heap.length (ColJ st.heap.length) (fun _ _=>False) (sG q6) (hIt _ (hx.trans (HExt.push _ _))) (fun l hl=>by have:=hpriv l hl;omega) (fun l hl=>by omega) hlo hwf
  (fun i h h' ⟨u,cs,a0,hO,hc⟩ hx=>⟨u,cs,hx.var a0,hO.keep (fun t _ ht=>hx.var ht),hc⟩) (fun _ _ _ h _=>h)
  (fun i h s p s' p' ⟨u,cs,a0,hO,hc⟩ hL=>⟨u,cs,set_var a0 hL,hO.keep (fun t _ ht=>by
   show (h.set _ _)[t]? = _
   rw [List.getElem?_set_ne (by rintro rfl;have ht':h[s1.heap.length]? = some (.tag true):=ht;rw [hL] at ht';cases ht')]
   exact ht),hc⟩) (fun _ _ _ _ _ _ h _=>h)
  (fun i h l cs' cs'' hl ⟨u,cs,a0,hO,hc⟩ hv=>⟨u,cs,by rw [List.getElem?_set_ne (by omega)];exact a0,hO.keep (fun t _ ht=>by
   show (h.set _ _)[t]? = _
   rw [List.getElem?_set_ne (by rintro rfl;have ht':h[l]? = some (.tag true):=ht;rw [hv] at ht';cases ht')]
   exact ht),hc⟩)
  ⟨.nilslice,[],z0,.nil,fun _=>rfl⟩ ?_ ?_ (fun _ _ h=>h.elim)
 ·rintro i hi v st1 hv ⟨u,cs,a0,hO,hc⟩ he1 hwf1 hL
  refine ⟨_,setParams_one,?_⟩
  have hvc:=hv.cells
  have hvi:=hv.isCell
  have lL:=hp_lt hL
  have a0':hp st1 st.heap.length=some (.var [u]):=a0
  have hO1:OwnS st.heap.length st1 1 u i cs:=hO.keep (fun t _ ht=>ht)
  refine go2 hl1 fnil ?_
  refine ⟨rfl,.refl _,he1,hwf1,?_⟩
  have a1:∀ o,hp (setVar st1 s1.heap.length o) st.heap.length=some (.var [u]):=fun o=>hp_set_other a0' (by omega)
  have m0:=hp_lt a0'
  have hOs:∀ o,OwnS st.heap.length (setVar st1 s1.heap.length o) 1 u i cs:=fun o=>hO1.setVar (fun b h=>by rw [hL] at h;cases h)
  have hLb:∀ o,hp (setVar st1 s1.heap.length o) s1.heap.length=some o:=fun o=>by rw [hp_setVar,if_pos rfl,if_pos lL]
  refine go2 (bw5 hl1 q2 a1 (n4 m0) hvc) fnil ?_
  have hsi:[v.share].all PV.isCell=true:=by simp only [List.all_cons,List.all_nil,share_isCell,hvi,Bool.and_self]
  refine wops_append rfl rfl (sR hl1) (sR hl1) ((hOs _).push) rfl (by simp only [len_push,len_setVar];omega) (by rfl) hsi (by simp only [maxList];omega) ?_
  intro u2 s3 hO3 hFr3 hk3
  have hu2:=hO3.sl
  have hu2c:=sl_cells hu2
  have hu2i:=sl_isCell hu2
  have b0:hp s3 st.heap.length=some (.var [u]):=hk3 _ _ (by rw [hp_push,if_neg (by rw [len_setVar];omega)];exact a1 _) (by rintro b h;cases h)
  have bL:=hk3 s1.heap.length _ (by rw [hp_push,if_neg (by rw [len_setVar];omega)];exact hLb _) (by rintro b h;cases h)
  have n0:=hp_lt b0
  have f1:=hFr3.len
  have f2:=hFr3.lo
  have f3:=hFr3.up
  simp only [len_push,len_setVar,lo_push,lo_setVar] at f1 f2 f3
  refine go2 (bw6 hl1 q2 b0 (n4 n0) hu2c hu2i) fnil ?_
  have hkk:KeepV (fun l=>l=st.heap.length∨l=s1.heap.length) st1.heap (setVar s3 st.heap.length (.var [u2])).heap:=⟨by rw [len_setVar];omega,fun l o ho hko hn=>hp_set_other (hk3 l o (by
   rw [hp_push,if_neg (by have:=hp_lt (st:=st1) ho;rw [len_setVar];omega)]
   exact hp_set_other ho (fun e=>hn (.inr e))) (by rintro b rfl;cases hko)) (fun e=>hn (.inl e))⟩
  refine ⟨hp_set_other bL (by omega),hkk,by simp only [lo_setVar];omega,by simp only [lo_setVar,len_setVar];omega,?_⟩
  refine ⟨u2,cs++[v.share.share],?_,(hO3.setVar (fun b h=>by rw [b0] at h;cases h)).keep (fun t _ ht=>ht),fun m=>?_⟩
  ·have:hp (setVar s3 st.heap.length (.var [u2])) st.heap.length=some (.var [u2]):=by rw [hp_setVar,if_pos rfl,if_pos n0]
   exact this
  ·refine lowL_of fun q hq=>?_
   rcases List.mem_append.1 hq with h|h
   ·exact lowL_all (hc m) q h
   ·simp only [List.mem_singleton] at h
    subst h
    rw [share_share]
    exact share_low1 hv m
 ·rintro s2 ⟨u,cs,a0,hO,hc⟩ hk2 he2 hwf2
  have a0':hp s2 st.heap.length=some (.var [u]):=a0
  apply inBlock_normal
  refine go2 (bw3 hl1 q2 a0') fnil ?_
  refine fnr_ret (v:=u) (results_one (by rw [rdRes_tmp];simp only [↓reduceIte,go_sem,hl1])) ?_
  exact ⟨cs,finish_sl hO.sl he2 hc,hc⟩
theorem c42 (g:Nat) (fa fc:List PV) (X:List (List Int)) (hX:X.length<1000000) (priv:Nat→Prop) (st:St) (hpriv:∀ l,priv l→l<st.heap.length) (hIt:∀ st',HExt st.heap st'.heap→IterN EE (.func g fa fc) st' X RepI priv) :
  ClR EE (.func 42 [] []) [.func g fa fc] st (fun v st'=>∃ cs,RetW st X.length cs v st'):=by
 refine cG1 pr42 fn42 (fun tm hl h0=>?_)
 refine go2 (bw hl h0) fnil ?_
 refine cR hl (c93 g fa fc X hX priv _ hpriv hIt) ?_
 rintro v s2 ⟨cs,hW,hc⟩
 have hlo:=hW.lo
 simp only at hlo
 refine go2 hl fnil ?_
 refine fnr_ret (v:=v) (results_one (by rw [rdRes_tmp];simp only [↓reduceIte,go_sem,hl])) ?_
 exact ⟨cs,finish_sl hW.1 (by omega) hc⟩
section
variable {n:Nat} {rk:List Int} {H G R:PV} {L:Nat}
theorem sl_low {v:PV} {k m m':Nat} {cs:List PV} (h:v.sl=some (k,cs)) (hc:∀ m,lowL m cs=true) (hv:v.low m=true) (hm:m≤m'):v.low m'=true:=by
 cases v with
 | nilslice=>rfl
 | slice o k cs =>
  simp only [PV.sl,Option.some.injEq,Prod.mk.injEq] at h
  obtain ⟨rfl,rfl⟩:=h
  cases o with
  | shared=>simp only [PV.low];exact hc _
  | tag t z =>
   simp only [PV.low,Bool.and_eq_true,decide_eq_true_eq] at hv ⊢
   exact ⟨by omega,hc _⟩
 | _=>cases h
theorem figs_low (l:List Fig) (m:Nat):lowL m (l.flatMap encF)=true:=lowL_of fun c hc=>by
 simp only [List.mem_flatMap,List.mem_cons,List.not_mem_nil,or_false] at hc
 obtain ⟨a,_,rfl|rfl|rfl⟩:=hc <;> rfl
structure SgLow (H G R:PV) (m:Nat):Prop where
 h:H.low m=true
 g:G.low m=true
 r:R.low m=true
theorem SgLow.up {m m':Nat} (hs:SgOk n rk H G R) (l:SgLow H G R m) (hm:m≤m'):SgLow H G R m':=⟨sl_low hs.h.sl (ints_low _) l.h hm,sl_low hs.g.sl (figs_low _) l.g hm,sl_low hs.r.sl (ints_low _) l.r hm⟩
abbrev S1 (st:St) (n:Nat) (H G:PV) (L:Nat):St:=({ heap:=st.heap,lo:=st.heap.length }:St).push (.var [iv n,H,G,.hslice L 4 1])
theorem sL {st:St} {o:HObj} (hL:hp st L=some o):hp (S1 st n H G L) L=some o:=by
 have:=hp_lt hL
 rw [hp_push,if_neg (by simp only;omega)]
 exact hL
theorem c14 (hk:OkS n rk) (hs:SgOk n rk H G R) (hX:(arrL n rk).length<1000000) (st:St) (hl0:SgLow H G R st.heap.length) (hL:hp st L=some (.arr [.nilslice,R,iv 0,.nilslice])) :
  Cl EE (.func 14 [] []) [spPV n H G (.hslice L 4 1),iv 0] st (.ret (.tuple [iv (arrL n rk).length,iv 0])) st:=by
 have hHc:=hs.h.cells
 have hGc:=hs.g.cells
 have hRc:=hs.r.cells
 have hHi:=hs.h.isCell
 have hGi:=hs.g.isCell
 have hRi:=hs.r.isCell
 have hl1:SgLow H G R (S1 st n H G L).heap.length:=hl0.up hs (by rw [len_push];exact Nat.le_succ _)
 have hL1:=sL (n:=n) (H:=H) (G:=G) hL
 refine cF2 pr14 fn14 (fun tm hl h0 h1=>?_)
 refine go2 (bw5 hl h0 h1 hHc hGc) (bw5 (c40 hk hs (S1 st n H G L) hL1) (c41 (n:=n) (L:=L) hHc hGc) (c43 (n:=n) hHc hGc hRc hHi hGi hRi (S1 st n H G L) hl1.h hl1.g hl1.r hL1) (c44 (n:=n) (G:=G) (S := .hslice L 4 1) (R:=R) hHc) fnil) ?_
 refine cR hl (c42 127 [] [.ptr (st.heap.length+2) 0,.ptr (st.heap.length+3) 0] (arrL n rk) hX (fun l=>l=st.heap.length+2∨l=st.heap.length+3) _ (fun l hl=>by simp only [len_push];omega) (fun st' hx=>iter127 (Sc := .hslice L 4 1) hk hs (hx.hp (sG fnil)) (hx.hp (sG fnil)))) ?_
 rintro v s2 ⟨cs,hW⟩
 have hlo:=hW.lo
 have hvs:=sl_slen hW.1
 simp only [lo_push] at hlo
 refine go2 (bw hl hvs) fnil ?_
 exact fnq_tuple (by simp only [results,rdResL,rdRes_tmp];simp only [↓reduceIte,go_sem,hl]) (by omega) (by rfl)
end
end Go.Den.Tp
end
section
namespace Go.Den.Tp
open Go.Den.Ch (Fig CL Flt inB figB listB packB layerL layersL key brk disB disA disorder fullL gapL fault)
section
variable {n:Nat} {rk:List Int} {H G R:PV} {L:Nat}
def FstJ (b0:Nat) (i:Nat) (h:List HObj):Prop:=i=0∧h[b0+1]? = some (.var [.nilslice])∧h[b0+2]? = some (.var [iv 0])
def FstD (b0:Nat) (x:List Int) (j:Jump) (h:List HObj):Prop:=j = .ret∧(∃ v,h[b0+1]? = some (.var [v])∧SlOf 1 encI v x)∧h[b0+2]? = some (.var [iv 0])
abbrev S3 (st:St) (n:Nat) (H G:PV) (L:Nat):St:=((({ heap:=st.heap,lo:=st.heap.length }:St).push (.var [iv n,H,G,.hslice L 4 1])).push (.var [.nilslice])).push (.var [iv 0])
theorem sL3 {st:St} {o:HObj} (hL:hp st L=some o):hp (S3 st n H G L) L=some o:=by
 have:=hp_lt hL
 rw [hp_push,len_push,len_push,if_neg (by simp only;omega),hp_push,len_push,if_neg (by simp only;omega),hp_push,if_neg (by simp only;omega)]
 exact hL
set_option maxHeartbeats 2000000 in
theorem c15 (hk:OkS n rk) (hs:SgOk n rk H G R) (x:List Int) (xs:List (List Int)) (hX:arrL n rk=x::xs) (st:St) (hl0:SgLow H G R st.heap.length) (hL:hp st L=some (.arr [.nilslice,R,iv 0,.nilslice])) :
  ClR EE (.func 15 [] []) [spPV n H G (.hslice L 4 1),iv 0] st (fun v st'=>∃ P,v = .tuple [P,iv 0]∧RetW st x.length (x.flatMap encI) P st'):=by
 have hHc:=hs.h.cells
 have hGc:=hs.g.cells
 have hRc:=hs.r.cells
 have hHi:=hs.h.isCell
 have hGi:=hs.g.isCell
 have hRi:=hs.r.isCell
 have hl1:SgLow H G R (S3 st n H G L).heap.length:=hl0.up hs (by simp only [len_push];omega)
 have hL1:=sL3 (n:=n) (H:=H) (G:=G) hL
 refine cG2 pr15 fn15 (fun tm hl h0 h1=>?_)
 refine go2 (bw5 hl h0 h1 hHc hGc) (bw5 (c40 hk hs (S3 st n H G L) hL1) (c41 (n:=n) (L:=L) hHc hGc) (c43 (n:=n) hHc hGc hRc hHi hGi hRi (S3 st n H G L) hl1.h hl1.g hl1.r hL1) (c44 (n:=n) (G:=G) (S := .hslice L 4 1) (R:=R) hHc) fnil) ?_
 apply wp_block
 refine wp_gen (fun tm1 s1=>tm1.length=22∧tg tm1 4 = .ptr (st.heap.length+1) 0∧tg tm1 5 = .ptr (st.heap.length+2) 0∧tg tm1 19 = .func 127 [] [.ptr (st.heap.length+4) 0,.ptr (st.heap.length+5) 0]∧s1.heap.length=st.heap.length+6∧st.heap.length≤s1.lo∧s1.lo≤s1.heap.length∧hp s1 (st.heap.length+1)=some (.var [.nilslice])∧hp s1 (st.heap.length+2)=some (.var [iv 0])∧hp s1 (st.heap.length+4)=some (.var (sgL n H G (.hslice L 4 1) R))∧hp s1 (st.heap.length+5)=some (.var [iv 3]))
  ⟨(sG hl),(sG hl),(sG hl),(sG hl),(sG fnil),by simp only [lo_push];omega,by simp only [lo_push,len_push];omega,(sG fnil),(sG fnil),(sG fnil),(sG fnil)⟩ ?_
 rintro tm1 s1 ⟨hl1',q4,q5,q19,hsl,hlo,hwf,z1,z2,z4,z5⟩
 refine wp_rangeN (X:=arrL n rk) (Rep:=RepI) (priv:=fun l=>l=st.heap.length+4∨l=st.heap.length+5) (fun l=>l=st.heap.length+1∨l=st.heap.length+2) st.heap.length (FstJ st.heap.length) (FstD st.heap.length x) (sG q19) (iter127 (Sc := .hslice L 4 1) hk hs ((HExt.push _ _).hp z4) ((HExt.push _ _).hp z5)) (fun l hl=>by omega) (fun l hl=>by omega) hlo hwf
  (fun i h h' ⟨a0,a1,a2⟩ hx=>⟨a0,hx.var a1,hx.var a2⟩) (fun j h h' ⟨a0,⟨v,a1,a3⟩,a2⟩ hx=>⟨a0,⟨v,hx.var a1,a3⟩,hx.var a2⟩)
  (fun i h s p s' p' ⟨a0,a1,a2⟩ hL=>⟨a0,set_var a1 hL,set_var a2 hL⟩) (fun j h s p s' p' ⟨a0,⟨v,a1,a3⟩,a2⟩ hL=>⟨a0,⟨v,set_var a1 hL,a3⟩,set_var a2 hL⟩)
  (fun i h l cs cs' hl ⟨a0,a1,a2⟩ hv=>⟨a0,by rw [List.getElem?_set_ne (by omega)];exact a1,by rw [List.getElem?_set_ne (by omega)];exact a2⟩)
  ⟨rfl,z1,z2⟩ ?_ ?_ ?_
 ·rintro i hi v st1 hv ⟨rfl,a1,a2⟩ he1 hwf1 hL1
  refine ⟨_,setParams_one,?_⟩
  have hxi:(arrL n rk)[0]=x:=by simp only [hX,List.getElem_cons_zero]
  rw [hxi] at hv
  have hvc:=hv.cells
  have hvi:=hv.isCell
  have lL:=hp_lt hL1
  have a1':hp st1 (st.heap.length+1)=some (.var [.nilslice]):=a1
  have a2':hp st1 (st.heap.length+2)=some (.var [iv 0]):=a2
  have m1:=hp_lt a1'
  have m2:=hp_lt a2'
  refine go2 hl1' fnil ?_
  refine ⟨rfl,.refl _,he1,hwf1,?_⟩
  have b1:∀ o,hp (setVar st1 s1.heap.length o) (st.heap.length+1)=some (.var [.nilslice]):=fun o=>hp_set_other a1' (by omega)
  have b2:∀ o,hp (setVar st1 s1.heap.length o) (st.heap.length+2)=some (.var [iv 0]):=fun o=>hp_set_other a2' (by omega)
  have ne1:(s1.heap.length=st.heap.length+1)=False:=by simp;omega
  have ne2:(s1.heap.length=st.heap.length+2)=False:=by simp;omega
  refine go2 (bw9 hl1' q4 q5 b1 b2 (n4 m1) (n4 m2) hvc hvi) fnil ?_
  refine ⟨hp_set_other (hp_set_other (by rw [hp_setVar,if_pos rfl,if_pos lL]) (by omega)) (by omega),⟨by simp only [len_setVar];exact Nat.le_refl _,fun l o ho hko hn=>hp_set_other (hp_set_other (hp_set_other ho (fun e=>hn (.inr e))) (fun e=>hn (.inl (.inl e)))) (fun e=>hn (.inl (.inr e)))⟩,by simp only [lo_setVar];omega,by simp only [lo_setVar,len_setVar];omega,rfl,⟨v,?_,hv⟩,?_⟩
  ·exact hp_set_other (st:=setVar (setVar st1 s1.heap.length _) (st.heap.length+1) (.var [v])) (by rw [hp_setVar,if_pos rfl,if_pos (by rw [len_setVar];omega)]) (by omega)
  ·have:∀ s:St,st.heap.length+2<s.heap.length→hp (setVar s (st.heap.length+2) (.var [iv 0])) (st.heap.length+2)=some (.var [iv 0]):=fun s h=>by rw [hp_setVar,if_pos rfl,if_pos h]
   exact this _ (by simp only [len_setVar];omega)
 ·rintro s2 ⟨a0,_,_⟩
  rw [hX] at a0
  cases a0
 ·rintro j s2 ⟨rfl,⟨v,a1,a3⟩,a2⟩ hk2 he2 hwf2
  have a1':hp s2 (st.heap.length+1)=some (.var [v]):=a1
  have a2':hp s2 (st.heap.length+2)=some (.var [iv 0]):=a2
  apply inBlock_ret
  apply andThen_ret
  refine fnr_ret (v := .tuple [v,iv 0]) (results_two (by rw [rdRes_hp (l:=st.heap.length+1) (off:=0) (sG q4)];simp only [↓reduceIte,go_sem,a1']) (by rw [rdRes_hp (l:=st.heap.length+2) (off:=0) (sG q5)];simp only [↓reduceIte,go_sem,a2'])) ?_
  exact finish_slT a3.sl (by rfl) he2 (fun m=>ints_low x m)
theorem c16 (hk:OkS n rk) (hs:SgOk n rk H G R) (F:PV) (p:List Int) (hF:SlOf 1 encI F p) (hp0:p.length=n) (hp1:∀ x∈p,0≤x∧x<n) (st:St) (hl0:SgLow H G R st.heap.length) (hL:hp st L=some (.arr [.nilslice,R,iv 0,.nilslice])) :
  Cl EE (.func 16 [] []) [spPV n H G (.hslice L 4 1),iv 0,F] st (.ret (.tuple [.bool (restsB n rk p),iv 0])) st:=by
 have hHc:=hs.h.cells
 have hGc:=hs.g.cells
 have hRc:=hs.r.cells
 have hHi:=hs.h.isCell
 have hGi:=hs.g.isCell
 have hRi:=hs.r.isCell
 have hHs:=hs.h.slen
 have hRs:=hs.r.slen
 rw [hsL_len] at hHs
 rw [restL_len] at hRs
 have l4:=hk.n4
 have hl1:SgLow H G R (S1 st n H G L).heap.length:=hl0.up hs (by rw [len_push];exact Nat.le_succ _)
 have hL1:=sL (n:=n) (H:=H) (G:=G) hL
 have k45:∀ st,Cl EE (.func 45 [] []) [sgPV n H G (.hslice L 4 1) R,F] st (.ret (.bool true)) st:=c45 (by omega) hHc hHs hRc hRs F p hF hp0 hp1
 have k46:∀ st,Cl EE (.func 46 [] []) [sgPV n H G (.hslice L 4 1) R,F] st (.ret (.bool (restsB n rk p))) st:=c46 hk hs F p hF hp0 hp1
 refine cF3 pr16 fn16 (fun tm hl h0 h1 h2=>?_)
 refine go2 (bw6 hl h0 h1 h2 hHc hGc) (bw6 (c40 hk hs (S1 st n H G L) hL1) (c41 (n:=n) (L:=L) hHc hGc) (c43 (n:=n) hHc hGc hRc hHi hGi hRi (S1 st n H G L) hl1.h hl1.g hl1.r hL1) k45 k46 fnil) ?_
 exact fnq_tuple (by simp only [results,rdResL,rdRes_tmp];simp only [↓reduceIte,go_sem,hl]) (by simp only [lo_push];omega) (by rfl)
end
end Go.Den.Tp
end
section
namespace Go.Den.Tp
open Go.Den.Ch (Fig CL Flt inB figB listB packB layerL layersL key brk disB disA disorder fullL gapL fault)
theorem c53 {dg:Nat} {da dc:List PV} {st st':St} {r:CR} {v:PV} (h:Cl EE (.func dg da dc) [] st r st') (hr:∀ rec:Rec,rec.call (.func dg da dc) [] st=some (r,st')→tryR rec (.func dg da dc) st=some (some (.ret v,st'))):Cl EE (.func 53 [] []) [.func dg da dc] st (.ret v) st':=by
 obtain ⟨N,hN⟩:=h
 refine ⟨N+1,fun n hn=>?_⟩
 obtain ⟨m,rfl⟩:∃ m,n=m+1:=⟨n - 1,by omega⟩
 have h1:=hr (run EE m) (hN m (by omega))
 show stepCall EE (run EE m) (.func 53 [] []) [.func dg da dc] st=_
 have h2:EE.prim 53 (run EE m) ([]++[.func dg da dc]++[]) st=tryR (run EE m) (.func dg da dc) st:=rfl
 simp only [stepCall,enter,h2,h1]
theorem c53_ret {dg:Nat} {da dc:List PV} {st st':St} {v:PV} (h:Cl EE (.func dg da dc) [] st (.ret v) st'):Cl EE (.func 53 [] []) [.func dg da dc] st (.ret (.tuple [zeroF,iv 0])) st' :=
 c53 h (fun rec hr=>by simp only [tryR,hr];rfl)
theorem c53_found {dg:Nat} {da dc:List PV} {st st':St} {f:Flt} (h:Cl EE (.func dg da dc) [] st (.panic (.iface 153 (fltPV f))) st'):Cl EE (.func 53 [] []) [.func dg da dc] st (.ret (.tuple [fltPV f,iv 7])) st' :=
 c53 h (fun rec hr=>by simp only [tryR,hr])
set_option maxHeartbeats 1000000 in
theorem c19 (c:CL) (F P:PV) (p:List Int) (hF:SlOf 3 encF F c.figs) (hP:SlOf 1 encI P p) (st:St):Cl EE (.func 19 [] []) [clPV c F,P] st (.ret (.tuple [fltO (wrongR c p).1,iv (wrongR c p).2])) st:=by
 have hFc:=hF.cells
 have hPc:=hP.cells
 refine cF2 pr19 fn19 (fun tm hl h0 h1=>?_)
 cases hA:listB c
 ·have e:wrongR c p=(none,2):=by simp [wrongR,hA]
  rw [e]
  refine go2 (bw4 hl h0 h1 hA) (bw (c47 c F hF) fnil) ?_
  refine fnq_tuple (results_two (v:=zeroF) (u:=iv 2) ?_ ?_) (by simp only [lo_push,lo_setVar];omega) (by rfl)
  ·rw [rdRes_hp (l:=st.heap.length+1) (off:=0) (sG hl)]
   simp only [↓reduceIte,go_sem,hl];rfl
  ·rw [rdRes_tmp];simp only [↓reduceIte,go_sem,hl]
 ·cases hB:packB c p
  ·have e:wrongR c p=(none,2):=by simp [wrongR,hA,hB]
   rw [e]
   refine go2 (bw5 hl h0 h1 hA hB) (bw3 (c47 c F hF) (c52 c F P p hF hP hA) fnil) ?_
   refine fnq_tuple (results_two (v:=zeroF) (u:=iv 2) ?_ ?_) (by simp only [lo_push,lo_setVar];omega) (by rfl)
   ·rw [rdRes_hp (l:=st.heap.length+1) (off:=0) (sG hl)]
    simp only [↓reduceIte,go_sem,hl];rfl
   ·rw [rdRes_tmp];simp only [↓reduceIte,go_sem,hl]
  ·have hc:=OkL.of hA
   have hp0:=OkP.of hB
   cases hf:fault c p with
   | none =>
    have e:wrongR c p=(none,5):=by simp [wrongR,hA,hB,hf]
    rw [e]
    refine go2 (bw7 hl h0 h1 hA hB hPc zeroF_e) (bw4 (c47 c F hF) (c52 c F P p hF hP hA) (fun st=>c53_ret (c54_ok c F P p hF hP hc hp0 hf st)) fnil) ?_
    refine fnq_tuple (results_two (v:=zeroF) (u:=iv 5) ?_ ?_) (by simp only [lo_push,lo_setVar];omega) (by rfl)
    ·rw [rdRes_hp (l:=st.heap.length+1) (off:=0) (sG hl)]
     simp only [↓reduceIte,go_sem,hl];rfl
    ·rw [rdRes_tmp];simp only [↓reduceIte,go_sem,hl]
   | some f =>
    have e:wrongR c p=(some f,0):=by simp [wrongR,hA,hB,hf]
    rw [e]
    refine go2 (bw6 hl h0 h1 hA hB hPc) (bw3 (c47 c F hF) (c52 c F P p hF hP hA) fnil) ?_
    obtain ⟨st2,hx,hFr⟩:=c54_no c F P p hF hP hc hp0 f hf ((({ heap:=st.heap,lo:=st.heap.length }:St).push (.var [iv c.room,iv c.depth,F])).push (.var [iv 0,iv 0,iv 0]))
    have f1:=hFr.len
    have f2:=hFr.lo
    simp only [len_push,lo_push] at f1 f2
    have h4:hp st2 (st.heap.length+1)=some (.var [iv 0,iv 0,iv 0]):=by
     rw [hFr.old _ (by simp only [len_push];omega)];simp only [↓reduceIte,go_sem]
    have l4:=hp_lt h4
    refine go2 (bw3 hl h4 (n4 l4)) (bw (c53_found hx) fnil) ?_
    refine fnq_tuple (results_two (v:=fltPV f) (u:=iv 0) ?_ ?_) (by simp only [lo_push,lo_setVar];omega) (by rfl)
    ·rw [rdRes_hp (l:=st.heap.length+1) (off:=0) (sG hl)]
     simp only [↓reduceIte,go_sem,hl,h4,n4 l4]
    ·rw [rdRes_tmp];simp only [↓reduceIte,go_sem,hl]
end Go.Den.Tp
end
section
namespace Go.Den.Tp
open Go.Den.Ch (Fig CL Flt inB figB listB packB layerL layersL key brk disB disA disorder fullL gapL fault)
def shC (n:Nat) (rk:List Int):CL:=⟨1,n,rk.map fun r=>⟨1,r,0⟩⟩
theorem sh_room (n:Nat) (rk:List Int):(shC n rk).room=1:=rfl
theorem sh_depth (n:Nat) (rk:List Int):(shC n rk).depth=n:=rfl
theorem sh_figs (n:Nat) (rk:List Int):(shC n rk).figs=rk.map fun r=>⟨1,r,0⟩:=rfl
theorem shC_list {n:Nat} {rk:List Int} (hk:OkS n rk):listB (shC n rk)=true:=by
 have h1:=hk.n1
 have h4:=hk.n4
 have hl:=hk.len
 show (inB 1 1 20&&(inB (n:Int) 1 5&&(decide ((rk.map fun r=>(⟨1,r,0⟩:Fig)).length≤6)&&(rk.map fun r=>(⟨1,r,0⟩:Fig)).all figB)))=true
 simp only [inB,List.length_map,List.all_map,Bool.and_eq_true,decide_eq_true_eq,List.all_eq_true]
 refine ⟨⟨by omega,by omega⟩,⟨by omega,by omega⟩,by omega,fun r hr=>?_⟩
 have:=hk.rng r hr
 simp [figB,inB];omega
theorem shC_pack {n:Nat} {rk p:List Int} (hk:OkS n rk) (hl:p.length=n) (hr:∀ x∈p,0≤x∧x<n):packB (shC n rk) p=true:=by
 have:=hk.len
 show (decide (p.length=(rk.map fun r=>(⟨1,r,0⟩:Fig)).length)&&p.all (fun x=>inB x 0 ((n:Int) - 1)))=true
 simp only [inB,List.length_map,Bool.and_eq_true,decide_eq_true_eq,List.all_eq_true]
 exact ⟨by omega,fun x hx=>by have:=hr x hx;exact ⟨by omega,by omega⟩⟩
def bef:List Int→List Int→Bool
 | [],[]=>false
 | [],_::_=>true
 | _::_,[]=>false
 | a::l,b::m=>if a=b then bef l m else decide (a<b)
theorem bef_irr:∀ l,bef l l=false
 | []=>rfl
 | a::l=>by simp only [bef,if_true];exact bef_irr l
theorem bef_asym:∀ l m,bef l m=true→bef m l=false
 | [],[],h=>by cases h
 | [],_::_,_=>rfl
 | _::_,[],h=>by cases h
 | a::l,b::m,h=>by
  simp only [bef] at h ⊢
  by_cases e:a=b
  ·subst e;simp only [if_true] at h ⊢;exact bef_asym l m h
  ·rw [if_neg e] at h;rw [if_neg (Ne.symm e)]
   simp only [decide_eq_true_eq,decide_eq_false_iff_not] at *;omega
theorem bef_app (l m n:List Int):bef (l++m) (l++n)=bef m n:=by
 induction l with
 | nil=>rfl
 | cons a l ih=>simp only [List.cons_append,bef,if_true,ih]
theorem bef_lt {l m n:List Int} {a b:Int} (h:a<b):bef (l++a::m) (l++b::n)=true:=by
 rw [bef_app,bef,if_neg (by omega)];simp [h]
theorem sorted_ext:∀ {A B:List (List Int)},A.Pairwise (fun a b=>bef a b=true)→B.Pairwise (fun a b=>bef a b=true)→(∀ x,x∈A↔x∈B)→A=B
 | [],[],_,_,_=>rfl
 | [],b::B,_,_,h=>by have:=(h b).2 (by simp);cases this
 | a::A,[],_,_,h=>by have:=(h a).1 (by simp);cases this
 | a::A,b::B,hA,hB,h=>by
  obtain ⟨a1,a2⟩:=List.pairwise_cons.1 hA
  obtain ⟨b1,b2⟩:=List.pairwise_cons.1 hB
  have e:a=b:=by
   rcases List.mem_cons.1 ((h a).1 (by simp)) with e|h1
   ·exact e
   ·rcases List.mem_cons.1 ((h b).2 (by simp)) with e|h2
    ·exact e.symm
    ·have h3:=b1 a h1
     have h4:=a1 b h2
     rw [bef_asym _ _ h3] at h4
     cases h4
  subst e
  congr 1
  refine sorted_ext a2 b2 fun x=>⟨fun hx=>?_,fun hx=>?_⟩
  ·rcases List.mem_cons.1 ((h x).1 (by simp [hx])) with e|h1
   ·subst e
    have:=a1 x hx
    rw [bef_irr] at this;cases this
   ·exact h1
  ·rcases List.mem_cons.1 ((h x).2 (by simp [hx])) with e|h1
   ·subst e
    have:=b1 x hx
    rw [bef_irr] at this;cases this
   ·exact h1
def NoDis (c:CL) (p:List Int) (i:Nat):Prop:=∀ (a b:Nat) (x y:Int) (f g:Fig),p[a]? = some x→p[b]? = some y→c.figs[a]? = some f→c.figs[b]? = some g→x<y→¬ key i f>key i g
theorem disA_none {c:CL} {p:List Int} {i:Nat} (h:disA c p i=none):NoDis c p i:=by
 intro a b x y f g ha hb hfa hfb hxy hk
 have hla:a<c.figs.length:=(List.getElem?_eq_some_iff.1 hfa).1
 have hlb:b<c.figs.length:=(List.getElem?_eq_some_iff.1 hfb).1
 have h1:=List.findSome?_eq_none_iff.1 h a (List.mem_range.2 hla)
 have h2:=List.findSome?_eq_none_iff.1 h1 b (List.mem_range.2 hlb)
 have h3:brk c p i a b=true:=by
  unfold brk
  rw [ha,hb,hfa,hfb]
  simp [hxy,hk]
 rw [h3,if_pos rfl] at h2
 cases h2
theorem dis_none {c:CL} {p:List Int} (h:disorder c p=none):NoDis c p 0∧NoDis c p 1 :=
 ⟨disA_none (List.findSome?_eq_none_iff.1 h 0 (by simp)),disA_none (List.findSome?_eq_none_iff.1 h 1 (by simp))⟩
theorem dis_of {c:CL} {p:List Int} (h0:NoDis c p 0) (h1:NoDis c p 1):disorder c p=none:=by
 refine List.findSome?_eq_none_iff.2 fun i hi=>List.findSome?_eq_none_iff.2 fun a _=>List.findSome?_eq_none_iff.2 fun b _=>?_
 rw [List.mem_range] at hi
 have hn:NoDis c p i:=by
  have:i=0∨i=1:=by omega
  rcases this with rfl|rfl
  ·exact h0
  ·exact h1
 rw [if_neg]
 intro h
 unfold brk at h
 split at h
 ·rename_i x y f g e1 e2 e3 e4
  simp only [Bool.and_eq_true,decide_eq_true_eq] at h
  exact hn a b x y f g e1 e2 e3 e4 h.1 h.2
 ·cases h
theorem NoDis.take {c:CL} {now t:List Int} {i:Nat} (h:NoDis c (now++t) i):NoDis { c with figs:=c.figs.take now.length } now i:=by
 intro a b x y f g ha hb hf hg
 have la:a<now.length:=(List.getElem?_eq_some_iff.1 ha).1
 have lb:b<now.length:=(List.getElem?_eq_some_iff.1 hb).1
 simp only [List.getElem?_take,la,lb,if_true] at hf hg
 exact h a b x y f g (by rw [List.getElem?_append_left la];exact ha) (by rw [List.getElem?_append_left lb];exact hb) hf hg
theorem fault_dis {c:CL} {p:List Int} (h:fault c p=none):disorder c p=none:=by
 unfold fault at h
 rw [Option.or_eq_none_iff,Option.or_eq_none_iff] at h
 exact h.2.2
theorem searchL_all {c:CL}:∀ (k:Nat) (now t:List Int),t.length=k→now.length+k=c.figs.length→(∀ x∈t,0≤x∧x<c.depth)→fault c (now++t)=none→now++t∈searchL c k now
 | 0,now,t,ht,_,_,h=>by
  obtain rfl:=List.eq_nil_of_length_eq_zero ht
  simp only [List.append_nil] at h ⊢
  simp [searchL,h]
 | k+1,now,x::t,ht,hk,hx,h=>by
  have h1:now++x::t=(now++[x])++t:=by simp
  have hx0:=hx x (by simp)
  rw [h1] at h ⊢
  refine List.mem_flatMap.2 ⟨x.toNat,by rw [List.mem_range];omega,?_⟩
  rw [Int.toNat_of_nonneg hx0.1]
  have hd:=dis_none (fault_dis h)
  have e:(now++[x]).length=now.length+1:=by simp
  have hn:=dis_of (NoDis.take hd.1) (NoDis.take hd.2)
  rw [e] at hn
  rw [hn]
  exact searchL_all k (now++[x]) t (by simpa using ht) (by simp at e ⊢;omega) (fun y hy=>hx y (by simp [hy])) h
theorem searchL_mem' {c:CL}:∀ {k:Nat} {now p:List Int},p∈searchL c k now→now.length+k=c.figs.length→(∀ x∈now,0≤x∧x<c.depth)→OkP c p∧fault c p=none
 | 0,now,p,h,hl,hr=>by
  simp only [searchL] at h
  split at h
  ·rename_i hf
   simp only [List.mem_singleton] at h
   subst h
   exact ⟨⟨by omega,hr⟩,by simpa using hf⟩
  ·cases h
 | k+1,now,p,h,hl,hr=>by
  simp only [searchL,List.mem_flatMap,List.mem_range] at h
  obtain ⟨n,hn,h⟩:=h
  split at h
  ·cases h
  ·refine searchL_mem' h (by simp;omega) (fun x hx=>?_)
   rcases List.mem_append.1 hx with h1|h1
   ·exact hr x h1
   ·simp only [List.mem_singleton] at h1;subst h1;omega
theorem mem_rights {c:CL} {p:List Int}:p∈rightsL c↔OkP c p∧fault c p=none :=
 ⟨fun h=>searchL_mem' h (by simp) (by simp),fun h=>searchL_all c.figs.length [] p h.1.len (by simp) h.1.rng h.2⟩
theorem searchL_pre {c:CL}:∀ {k:Nat} {now p:List Int},p∈searchL c k now→∃ t,p=now++t
 | 0,now,p,h=>by
  unfold searchL at h
  split at h
  ·exact ⟨[],by simpa using h⟩
  ·cases h
 | k+1,now,p,h=>by
  obtain ⟨n,_,h1⟩:=List.mem_flatMap.1 h
  split at h1
  ·cases h1
  ·obtain ⟨t,rfl⟩:=searchL_pre h1
   exact ⟨(n:Int)::t,by simp⟩
theorem searchL_sorted {c:CL}:∀ (k:Nat) (now:List Int),(searchL c k now).Pairwise (fun a b=>bef a b=true)
 | 0,now=>by
  unfold searchL
  split
  ·exact List.pairwise_singleton _ _
  ·exact List.Pairwise.nil
 | k+1,now=>by
  refine List.pairwise_flatMap.2 ⟨fun n _=>?_,List.Pairwise.imp ?_ (List.pairwise_lt_range (n:=c.depth.toNat))⟩
  ·split
   ·exact List.Pairwise.nil
   ·exact searchL_sorted k _
  ·intro a b hab x hx y hy
   split at hx
   ·cases hx
   split at hy
   ·cases hy
   obtain ⟨t,rfl⟩:=searchL_pre hx
   obtain ⟨u,rfl⟩:=searchL_pre hy
   simp only [List.append_assoc,List.singleton_append]
   exact bef_lt (by omega)
theorem arrS_pre {n:Nat} {rk:List Int}:∀ {k:Nat} {now p:List Int},p∈arrS n rk k now→∃ t,p=now++t
 | 0,now,p,h=>⟨[],by simpa [arrS] using h⟩
 | k+1,now,p,h=>by
  obtain ⟨x,_,h1⟩:=List.mem_flatMap.1 h
  split at h1
  ·obtain ⟨t,rfl⟩:=arrS_pre h1
   exact ⟨(x:Int)::t,by simp⟩
  ·cases h1
theorem arrS_sorted {n:Nat} {rk:List Int}:∀ (k:Nat) (now:List Int),(arrS n rk k now).Pairwise (fun a b=>bef a b=true)
 | 0,now=>List.pairwise_singleton _ _
 | k+1,now=>by
  refine List.pairwise_flatMap.2 ⟨fun x _=>?_,List.Pairwise.imp ?_ (List.pairwise_lt_range (n:=n))⟩
  ·split
   ·exact arrS_sorted k _
   ·exact List.Pairwise.nil
  ·intro a b hab x hx y hy
   split at hx
   ·split at hy
    ·obtain ⟨t,rfl⟩:=arrS_pre hx
     obtain ⟨u,rfl⟩:=arrS_pre hy
     simp only [List.append_assoc,List.singleton_append]
     exact bef_lt (by omega)
    ·cases hy
   ·cases hx
theorem okB_apps {n:Nat} {rk:List Int} {j:Nat}:∀ (t now:List Int),j<now.length→okB n rk (now++t) j=okB n rk now j
 | [],now,h=>by simp
 | x::t,now,h=>by
  have e:now++x::t=(now++[x])++t:=by simp
  rw [e,okB_apps t (now++[x]) (by simp;omega),okB_app h]
theorem arrS_mem {n:Nat} {rk:List Int}:∀ (k:Nat) (now p:List Int),p∈arrS n rk k now↔∃ t,p=now++t∧t.length=k∧(∀ x∈t,0≤x∧x<n)∧∀ j,now.length≤j→j<p.length→okB n rk p j=true
 | 0,now,p=>by
  simp only [arrS,List.mem_singleton]
  constructor
  ·rintro rfl
   exact ⟨[],by simp,rfl,by simp,fun j h1 h2=>by omega⟩
  ·rintro ⟨t,rfl,ht,_⟩
   obtain rfl:=List.eq_nil_of_length_eq_zero ht
   simp
 | k+1,now,p=>by
  constructor
  ·intro h
   obtain ⟨x,hx,h1⟩:=List.mem_flatMap.1 h
   rw [List.mem_range] at hx
   split at h1
   ·rename_i hok
    obtain ⟨t,rfl,ht,hr,ho⟩:=(arrS_mem k _ p).1 h1
    refine ⟨(x:Int)::t,by simp,by simp [ht],fun y hy=>?_,fun j h2 h3=>?_⟩
    ·rcases List.mem_cons.1 hy with rfl|hy
     ·omega
     ·exact hr y hy
    ·rcases Nat.lt_or_ge now.length j with h4|h4
     ·exact ho j (by simp;omega) h3
     ·obtain rfl:j=now.length:=by omega
      rw [okB_apps t _ (by simp)]
      exact hok
   ·cases h1
  ·rintro ⟨t,rfl,ht,hr,ho⟩
   match t,ht with
   | x::t,ht =>
    have hx:=hr x (by simp)
    obtain ⟨m,rfl⟩:∃ m:Nat,x=m:=⟨x.toNat,by omega⟩
    have e:now++(m:Int)::t=(now++[(m:Int)])++t:=by simp
    refine List.mem_flatMap.2 ⟨m,by rw [List.mem_range];omega,?_⟩
    have hok:=ho now.length (Nat.le_refl _) (by simp)
    rw [e,okB_apps t _ (by simp)] at hok
    rw [if_pos hok]
    exact (arrS_mem k _ _).2 ⟨t,e,by simpa using ht,fun y hy=>hr y (by simp [hy]),fun j h1 h2=>ho j (by simp at h1;omega) h2⟩
theorem mem_arr {n:Nat} {rk p:List Int}:p∈arrL n rk↔p.length=n∧(∀ x∈p,0≤x∧x<n)∧restsB n rk p=true:=by
 rw [arrL,arrS_mem]
 simp only [List.nil_append,List.length_nil,Nat.zero_le,true_implies,exists_eq_left',restsB,List.all_eq_true,List.mem_range]
theorem arrS_len {n:Nat} {rk:List Int} (hn:n≤4):∀ (k:Nat) (now:List Int),(arrS n rk k now).length≤4 ^ k
 | 0,now=>by simp [arrS]
 | k+1,now=>by
  have h:∀ (g:Nat→List (List Int)) (m:Nat),(∀ i,(g i).length≤4 ^ k)→((List.range m).flatMap g).length≤m*4 ^ k:=by
   intro g m hg
   induction m with
   | zero=>simp
   | succ m ih =>
    rw [flatMap_range_succ]
    have:=hg m
    rw [Nat.succ_mul]
    omega
  refine Nat.le_trans (h _ n (fun i=>?_)) ?_
  ·split
   ·exact arrS_len hn k _
   ·simp
  ·rw [Nat.pow_succ,Nat.mul_comm];exact Nat.mul_le_mul_left _ hn
theorem arrL_len {n:Nat} {rk:List Int} (hn:n≤4):(arrL n rk).length<1000000:=by
 have h:=arrS_len (rk:=rk) hn n []
 have h2:4 ^ n≤4 ^ 4:=Nat.pow_le_pow_right (by omega) hn
 have:arrL n rk=arrS n rk n []:=rfl
 rw [this]
 have:(4:Nat) ^ 4=256:=by decide
 omega
end Go.Den.Tp
end

/- Part of the proofs of laws of the package version. Texts: VnE, VnF, VnG, VnH. -/
import Derived.Test.YtehdcjbdhkkipaaGreatDoorVMAq
set_option linter.unusedSimpArgs false
set_option linter.unusedVariables false
section
namespace Go.Den.Ve
def bestD (sz:Nat) (z:List PV):DFunc:=⟨24,[.cell 4 true sz],(.seq (.region [⟨.alloc z,some 4,none⟩]) (.seq (.region [⟨.val (.t 0),some 8,none⟩,⟨.indexAddr sz (.t 8) (.c (.int .i64 0)),some 9,none⟩,⟨.load true sz (.t 9),some 10,none⟩,⟨.alloc z,some 5,none⟩,⟨.store sz (.t 5) (.t 10),none,none⟩]) (.seq (.seq (.region [⟨.val (.t 0),some 11,none⟩,⟨.len (.t 11),some 12,none⟩,⟨.val (.c (.int .i64 0)),some 13,none⟩]) (.block 0 (.loop (.seq (.region [⟨.binI .lss (.t 13) (.t 12),some 14,none⟩]) (.seq (.cond (.t 14) .skip (.exit 0)) (.seq (.block 1 (.seq (.region [⟨.indexAddr sz (.t 11) (.t 13),some 15,none⟩,⟨.load true sz (.t 15),some 16,none⟩,⟨.alloc z,some 7,none⟩,⟨.store sz (.t 7) (.t 16),none,none⟩]) (.seq (.region [⟨.val (.t 1),some 17,none⟩,⟨.load true sz (.t 7),some 18,none⟩,⟨.load true sz (.t 5),some 19,none⟩,⟨.call (.t 17) [.t 18,.t 19],some 20,none⟩]) (.cond (.t 20) (.region [⟨.load true sz (.t 7),some 21,none⟩,⟨.store sz (.t 5) (.t 21),none,none⟩]) .skip)))) (.region [⟨.binI .add (.t 13) (.c (.int .i64 1)),some 22,none⟩,⟨.val (.t 22),some 13,none⟩]))))))) (.seq (.region [⟨.load true sz (.t 5),some 23,none⟩,⟨.store sz (.t 4) (.t 23),none,none⟩]) .ret))))⟩
theorem bestF_first{α:Type}{bt:α→α→Bool}{X:List α}(h:0<X.length):bestF bt (X.take (max 0 1))=some X[0]:=by
 cases X with
 | nil=>simp at h
 | cons x X=>rfl
theorem bestF_next{α:Type}{bt:α→α→Bool}{X:List α}{i:Nat}{o:α}(hi:i<X.length)(h:bestF bt (X.take (max i 1))=some o):bestF bt (X.take (max (i+1) 1))=some (if bt X[i] o then X[i] else o):=by
 cases i with
 | zero =>
  have h1:X.take (max 0 1)=X.take (max (0+1) 1):=rfl
  have h2:=bestF_first (bt:=bt) hi
  rw[h] at h2
  cases h2
  rw[← h1,h]
  simp
 | succ i =>
  have e1:max (i+1) 1=i+1:=by omega
  have e2:max (i+1+1) 1=i+1+1:=by omega
  rw[e1] at h
  rw[e2,bestF_take bt X hi,h]
  show (if bt X[i+1] o then some X[i+1] else some o)=_
  split <;> rfl
theorem bestF_last{α:Type}{bt:α→α→Bool}{X:List α}{o:α}(h0:0<X.length)(h:bestF bt (X.take (max X.length 1))=some o):bestF bt X=some o:=by
 rwa [show max X.length 1=X.length by omega,List.take_length] at h
theorem bestF_mem'{α:Type}{bt:α→α→Bool}{X:List α}{i:Nat}{o:α}(h0:0<X.length)(hi:i≤X.length)(h:bestF bt (X.take (max i 1))=some o):o∈X:=bestF_mem bt X (by omega) h
set_option maxHeartbeats 4000000 in
theorem bestG{α:Type}{f sz:Nat}{z:List PV}(hpr:∀ r a s,EE.prim f r a s=none)(hf:EE.fn f=some (bestD sz z)){enc:α→List PV}(hz:z.length=sz)(he:∀ a,(enc a).length=sz)(hc:∀ a,(enc a).all PV.isCell=true)(F:PV)(X:List α)(hF:SlOf sz enc F X)(h0:0<X.length)(hN:X.length<1000000)(g:Nat)(ga gc:List PV)(bt:α→α→Bool)(st:St)
  (hb:∀ st',HExt st.heap st'.heap→∀ x∈X,∀ o∈X,Cl EE (.func g ga gc) [.agg (enc x),.agg (enc o)] st' (.ret (.bool (bt x o))) st')
  (hfin:∀ o st1,st.heap.length≤st1.lo→finishCall st st1 (.agg (enc o))=(.agg (enc o),st)) :
  ClR EE (.func f [] []) [F,.func g ga gc] st (fun v st'=>∃ o,bestF bt X=some o∧v = .agg (enc o)∧st'=st):=by
 refine clr_fn (hpr · _ _) hf 2 rfl (by decide) (fun tm hl hg=>?_);have i0:tg tm 0=F:=(hg 0 (by decide));have i1:tg tm 1 = .func g ga gc:=(hg 1 (by decide));clear hg
 have hs:=hF.slen
 have ht:∀ a,(enc a).take sz=enc a:=fun a=>List.take_of_length_le (by rw[he a];exact Nat.le_refl _)
 have hd:z.drop sz=[]:=List.drop_eq_nil_of_le (by omega)
 have hzl:(sz≤z.length)=True:=by simp[hz]
 have hd2:∀ a,(enc a).drop sz=[]:=fun a=>List.drop_eq_nil_of_le (by rw[he a];exact Nat.le_refl _)
 refine go2 (bw9 hl i0 i1 hs he ht hd hc hzl) fnil ?_
 refine wp_range X.length [] (fun i vs st'=>HExt st.heap st'.heap∧st.heap.length≤st'.lo∧st'.lo≤st'.heap.length∧hp st' st.heap.length=some (.var z)∧∃ o,hp st' (st.heap.length+1)=some (.var (enc o))∧bestF bt (X.take (max i 1))=some o) (by omega) (sG hl) (sG hl) (sG hl) (by rfl)
  ⟨(show HExt ({ heap:=st.heap,lo:=st.heap.length }:St).heap _ from ((((Fr.refl st.heap.length { heap:=st.heap,lo:=st.heap.length }).push (Nat.le_refl _)).push (by simp only[len_push];omega)).setVar (by omega)).hext),by simp only[lo_setVar,lo_push];omega,by simp only[lo_setVar,lo_push,len_setVar,len_push];omega,(sG fnil),X[0],(sG fnil),bestF_first h0⟩ ?_ ?_
 ·rintro i hi tm1 st1 ⟨hx,hlo,hwf,hz0,o,ho,hbo⟩ hS hia
  have hl1:tm1.length=24:=lN hS hl;have j1:tg tm1 1 = .func g ga gc:=tQ hS (bw3 hl i0 i1);have j5:tg tm1 5 = .ptr (st.heap.length+1) 0:=tQ hS (bw3 hl i0 i1);have j11:tg tm1 11=F:=tQ hS (bw3 hl i0 i1);clear hS
  have ll:=hp_lt ho
  have lz:=hp_lt hz0
  have hX:HExt st.heap (setVar (st1.push (.var z)) st1.heap.length (.var (enc X[i]))).heap:=hx.trans (((Fr.refl st1.heap.length st1).push (Nat.le_refl _)).setVar (Nat.le_refl _)).hext
  have hcall:=hb _ hX X[i] (List.getElem_mem hi) o (bestF_mem' h0 (by omega) hbo)
  have hnx:=bestF_next hi hbo
  cases hbt:bt X[i] o
  ·rw[hbt] at hcall hnx
   refine go2 (bw12 hl1 j1 j5 j11 hia he ht hd hc hzl ho (n4 ll)) (bw hcall fnil) ?_
   exact⟨hX,by simp only[lo_setVar,lo_push];omega,by simp only[lo_setVar,lo_push,len_setVar,len_push];omega,(sG (bw hz0 (n4 lz))),o,(sG (bw ho (n4 ll))),hnx⟩
  ·rw[hbt] at hcall hnx
   have hX2:HExt st.heap (setVar (setVar (st1.push (.var z)) st1.heap.length (.var (enc X[i]))) (st.heap.length+1) (.var (enc X[i]))).heap:=hX.setVar (by omega)
   refine go2 (bw13 hl1 j1 j5 j11 hia he ht hd hd2 hc hzl ho (n4 ll)) (bw hcall fnil) ?_
   exact⟨hX2,by simp only[lo_setVar,lo_push];omega,by simp only[lo_setVar,lo_push,len_setVar,len_push];omega,(sG (bw hz0 (n4 lz))),X[i],(sG (n4 ll)),hnx⟩
 ·rintro tm1 st1 ⟨hx,hlo,hwf,hz0,o,ho,hbo⟩ hS
  have hl1:tm1.length=24:=lN hS hl;have j4:tg tm1 4 = .ptr st.heap.length 0:=tQ hS (bw hl i0);have j5:tg tm1 5 = .ptr (st.heap.length+1) 0:=tQ hS (bw hl i0);clear hS
  have ll:=hp_lt ho
  have lz:=hp_lt hz0
  refine go2 (bw12 hl1 j4 j5 he ht hd hc hzl ho hz0 (n4 ll) (n4 lz)) fnil ?_
  refine fnr_ret (v := .agg (enc o)) (results_one (by rw[rdRes_hp (l:=st.heap.length) (off:=0) (sG (bw hl1 j4))];simp only[↓reduceIte,go_sem,hz0,he,ht,n4 lz])) ?_
  have hf1:=hfin o (setVar st1 st.heap.length (.var (enc o))) (by rw[lo_setVar];omega)
  rw[hf1]
  exact⟨o,bestF_last h0 hbo,rfl,rfl⟩
end Go.Den.Ve
end
section
namespace Go.Den.Ve
structure Fm (n ml:Nat) (a b:St):Prop where
 mlt:ml<a.heap.length
 len:a.heap.length≤b.heap.length
 old:∀ l,l<a.heap.length→l≠ml→hp b l=hp a l
 lo:min ml a.lo≤b.lo
 up:b.lo≤a.lo
 grow:∀ es',hp b ml=some (.map es')→∀ e∈es',(∃ es,hp a ml=some (.map es)∧e∈es)∨∃ x y:Nat,e.1 = .agg [.int .i64 x,.int .i64 y]∧n≤x+y
theorem Fm.refl{n ml:Nat}{a:St}(hm:ml<a.heap.length):Fm n ml a a:=⟨hm,Nat.le_refl _,fun _ _ _=>rfl,Nat.min_le_right _ _,Nat.le_refl _,fun es h e he => .inl ⟨es,h,he⟩⟩
theorem Fm.mono{n n' ml:Nat}{a b:St}(h:Fm n ml a b)(hn:n'≤n):Fm n' ml a b:=⟨h.mlt,h.len,h.old,h.lo,h.up,fun es he e hm=>(h.grow es he e hm).imp id fun ⟨x,y,h1,h2⟩=>⟨x,y,h1,by omega⟩⟩
theorem Fm.trans{n ml:Nat}{a b c:St}(h:Fm n ml a b)(h':Fm n ml b c):Fm n ml a c:=⟨h.mlt,Nat.le_trans h.len h'.len,fun l hl hn=>(h'.old l (by have:=h.len;omega) hn).trans (h.old l hl hn),by have:=h.lo;have:=h'.lo;omega,Nat.le_trans h'.up h.up,fun es he e hm=>by
 rcases h'.grow es he e hm with ⟨es1,h1,h2⟩|h1
 ·exact h.grow es1 h1 e h2
 ·exact .inr h1⟩
theorem Fm.fr{n ml:Nat}{a b c:St}(h:Fm n ml a b)(h':Fr a.heap.length b c):Fm n ml a c:=⟨h.mlt,Nat.le_trans h.len h'.len,fun l hl hn=>(h'.old l hl).trans (h.old l hl hn),by have:=h.lo;have:=h'.lo;have:=h.mlt;omega,Nat.le_trans h'.up h.up,fun es he=>h.grow es (by rw[← h'.old ml h.mlt];exact he)⟩
theorem Fm.push{n ml:Nat}{a b:St}{o:HObj}(h:Fm n ml a b):Fm n ml a (b.push o):=h.fr ((Fr.refl _ b).push h.len)
theorem Fm.setVar{n ml:Nat}{a b:St}{l:Nat}{o:HObj}(h:Fm n ml a b)(hl:a.heap.length≤l):Fm n ml a (setVar b l o):=h.fr ((Fr.refl _ b).setVar hl)
theorem Fm.setMap{n ml i j:Nat}{a b:St}{es:List (PV×PV)}{v:PV}(h:Fm n ml a b)(he:Den.hp b ml=some (.map es))(hn:n≤i+j):Fm n ml a (Den.setVar b ml (.map (es++[(.agg [.int .i64 (i:Int),.int .i64 (j:Int)],v)]))):=⟨h.mlt,by rw[len_setVar];exact h.len,fun l hl hn=>by rw[hp_setVar,if_neg hn];exact h.old l hl hn,by rw[lo_setVar];have:=h.lo;omega,by rw[lo_setVar];have:=h.up;omega,fun es' he' e hm=>by
 rw[hp_setVar,if_pos rfl,if_pos (hp_lt he)] at he'
 simp only[Option.some.injEq,HObj.map.injEq] at he'
 subst he'
 rcases List.mem_append.1 hm with h1|h1
 ·exact h.grow es he e h1
 ·rw[List.mem_singleton.1 h1];exact .inr ⟨i,j,rfl,hn⟩⟩
theorem Fm.hp{n ml:Nat}{a b:St}(h:Fm n ml a b){l:Nat}{o:HObj}(hl:Den.hp a l=some o)(hn:l≠ml):Den.hp b l=some o:=(h.old l (hp_lt hl) hn).trans hl
theorem Fm.nokey{n ml i j:Nat}{a b:St}{es es':List (PV×PV)}{v:PV}(h:Fm n ml a b)(ha:Den.hp a ml=some (.map es))(hb:Den.hp b ml=some (.map es'))(hn:i+j<n)(hf:(.agg [.int .i64 (i:Int),.int .i64 (j:Int)],v)∉es):(.agg [.int .i64 (i:Int),.int .i64 (j:Int)],v)∉es':=fun hm=>by
 rcases h.grow es' hb _ hm with ⟨es1,h1,h2⟩|⟨x,y,h1,h2⟩
 ·rw[ha] at h1
  cases h1
  exact hf h2
 ·simp only[PV.agg.injEq,List.cons.injEq,PV.int.injEq,true_and,and_true] at h1
  omega
def MapOK (l1 l2:List Int) (ml:Nat) (st:St):Prop:=∃ es,hp st ml=some (.map es)∧∀ e∈es,∃ a b:Nat,e=(plPV a b,iv (lev (l1.drop a) (l2.drop b):Nat))
theorem MapOK.of{l1 l2:List Int}{ml:Nat}{a b:St}(h:MapOK l1 l2 ml a)(e:hp b ml=hp a ml):MapOK l1 l2 ml b:=by unfold MapOK;rw[e];exact h
theorem MapOK.lt{l1 l2:List Int}{ml:Nat}{a:St}(h:MapOK l1 l2 ml a):ml<a.heap.length:=by obtain⟨es,h1,_⟩:=h;exact hp_lt h1
theorem MapOK.push{l1 l2:List Int}{ml:Nat}{a:St}{o:HObj}(h:MapOK l1 l2 ml a):MapOK l1 l2 ml (a.push o):=h.of (by rw[hp_push,if_neg (by have:=h.lt;omega)])
theorem MapOK.setVar{l1 l2:List Int}{ml l:Nat}{a:St}{o:HObj}(h:MapOK l1 l2 ml a)(hl:ml<l):MapOK l1 l2 ml (setVar a l o):=h.of (by rw[hp_setVar,if_neg (by omega)])
theorem MapOK.fr{l1 l2:List Int}{ml m:Nat}{a b:St}(h:MapOK l1 l2 ml a)(hf:Fr m a b)(hm:ml<m):MapOK l1 l2 ml b:=h.of (hf.old ml hm)
theorem findKey_ok{l1 l2:List Int}{i j:Nat}:∀ {es:List (PV×PV)} {k:Nat},(∀ e∈es,∃ a b:Nat,e=(plPV a b,iv (lev (l1.drop a) (l2.drop b):Nat)))→findKey [(i:Int),(j:Int)] es k=some none∨∃ n,findKey [(i:Int),(j:Int)] es k=some (some (k+n))∧es[n]? = some (plPV i j,iv (lev (l1.drop i) (l2.drop j):Nat))
 | [],k,_ => .inl rfl
 | e::es,k,h=>by
  obtain⟨a,b,rfl⟩:=h e (by simp)
  by_cases hab:a=i∧b=j
  ·obtain⟨rfl,rfl⟩:=hab
   exact .inr ⟨0,by simp[findKey,ints],rfl⟩
  ·have hne:¬ ((a:Int)=(i:Int)∧(b:Int)=(j:Int)):=by omega
   have e1:findKey [(i:Int),(j:Int)] ((plPV a b,iv (lev (l1.drop a) (l2.drop b):Nat))::es) k=findKey [(i:Int),(j:Int)] es (k+1):=by
    simp[findKey,ints]
    omega
   rw[e1]
   rcases findKey_ok (es:=es) (k:=k+1) (fun e he=>h e (by simp[he])) with h1|⟨n,h1,h2⟩
   ·exact .inl h1
   ·exact .inr ⟨n+1,by rw[h1];congr 2;omega,by simpa using h2⟩
theorem finish_map{l1 l2:List Int}{n0 ml:Nat}{st s1:St}{v:PV}(hM:MapOK l1 l2 ml st)(hwf:st.lo≤st.heap.length)(h:Fm n0 ml { heap:=st.heap,lo:=st.heap.length } s1)(hm:MapOK l1 l2 ml s1)(hv:v.flat=true):(finishCall st s1 v).1=v∧MapOK l1 l2 ml (finishCall st s1 v).2∧Fm n0 ml st (finishCall st s1 v).2:=by
 by_cases hlo:st.heap.length≤s1.lo
 ·rw[finish_flat hlo hv]
  exact⟨rfl,hM,.refl hM.lt⟩
 ·rw[finish_low (by omega)]
  refine⟨rfl,hm,h.mlt,h.len,h.old,?_,Nat.min_le_left _ _,h.grow⟩
  have:=h.lo
  have:=hM.lt
  show min ml st.lo≤min st.lo s1.lo
  simp only at *
  omega
theorem finish_mapS{l1 l2:List Int}{n0 ml:Nat}{st s1:St}{v:PV}{n:Nat}{cs:List PV}(hM:MapOK l1 l2 ml st)(hwf:st.lo≤st.heap.length)(h:Fm n0 ml { heap:=st.heap,lo:=st.heap.length } s1)(hm:MapOK l1 l2 ml s1)(hv:v.sl=some (n,cs))(hc:∀ m,lowL m cs=true):(finishCall st s1 v).1.sl=some (n,cs)∧MapOK l1 l2 ml (finishCall st s1 v).2∧Fm n0 ml st (finishCall st s1 v).2:=by
 by_cases hlo:st.heap.length≤s1.lo
 ·obtain⟨h1,h2⟩:=finish_sl hv hlo hc
  refine⟨h1,?_⟩
  rcases h2 with h2|h2
  ·rw[h2];exact⟨hM,.refl hM.lt⟩
  ·rw[h2];exact⟨hM.push,(Fm.refl hM.lt).push⟩
 ·rw[finish_low (by omega)]
  refine⟨hv,hm,h.mlt,h.len,h.old,?_,Nat.min_le_left _ _,h.grow⟩
  have:=h.lo
  have:=hM.lt
  show min ml st.lo≤min st.lo s1.lo
  simp only at *
  omega
abbrev encS5 (i j:Nat) (x:S5):List PV:=[.int .i64 (x.kind:Int),.int .i64 x.word,.int .i64 ((i+x.di:Nat):Int),.int .i64 ((j+x.dj:Nat):Int),.int .i64 (x.left:Int)]
attribute [go_sem] encS5
theorem c137(i j:Nat)(x o:S5)(st:St):Cl EE (.func 137 [] []) [.agg (encS5 i j x),.agg (encS5 i j o)] st (.ret (.bool (decide (x.left<o.left)))) st:=by
 have e:decide (x.left<o.left)=decide ((x.left:Int)<(o.left:Int)):=by rw[Bool.eq_iff_iff];simp
 rw[e]
 refine cF2 pr137 fn137 (fun tm hl h0 h1=>?_)
 refine go2 (bw3 hl h0 h1) fnil ?_
 exact fQ hl
theorem s5_low(i j:Nat)(X:List S5)(m:Nat):lowL m (X.flatMap (encS5 i j))=true:=lowL_of fun c hc=>by
 obtain⟨x,_,h⟩:=List.mem_flatMap.1 hc
 simp only[encS5,List.mem_cons,List.not_mem_nil,or_false] at h
 rcases h with rfl|rfl|rfl|rfl|rfl <;> rfl
theorem c135(i j:Nat)(F:PV)(X:List S5)(hF:SlOf 5 (encS5 i j) F X)(h0:0<X.length)(hN:X.length<1000000)(st:St):ClR EE (.func 135 [] []) [F,.func 137 [] []] st (fun v st'=>∃ o,bestF (fun x y:S5=>decide (x.left<y.left)) X=some o∧v = .agg (encS5 i j o)∧st'=st) :=
 bestG pr135 fn135 (z:=[.int .i64 0,.int .i64 0,.int .i64 0,.int .i64 0,.int .i64 0]) rfl (fun _=>rfl) (fun _=>rfl) F X hF h0 hN 137 [] [] _ st (fun st' _ x _ o _=>c137 i j x o st') (fun o st1 h=>finish_flat h rfl)
theorem wopsD_callF{E:Env}{QD:Ex→List PV→St→List Foot→Prop}{tm:List PV}{st:St}{f:Opd}{args:List Opd}{dst:Option Nat}{g:Option (Nat×Bool)}{os:List DOper}{b:Bool}{fv:PV}{P:PV→St→Prop}(hw:wants tm g=b)(hb:b=true){as:List PV}(hf:f.ev tm=fv)(ha:evs tm args=as)(hc:ClR E fv as { st with lo:=st.heap.length } P)
  (h:∀ v st1,P v st1→WOpsD E os (fun e tm' st' fs=>QD e tm' st' (.ch st1.lo st.heap st1.heap::fs)) (put tm dst v) { st1 with lo:=min st.lo st1.lo }):WOpsD E (⟨.call f args,dst,g⟩::os) QD tm st:=by
 subst ha
 obtain⟨v,st1,⟨N,hN⟩,hP⟩:=hc
 exact wopsD_fine (v:=v) (st1:=st1) (hw.trans hb) N (fun n hn=>by simp only[stepOp,hf,hN n hn]) (h v st1 hP)
theorem clash_same{l lo:Nat}{h h':List HObj}{cs:List PV}(a:h[l]? = some (.var cs))(b:h'[l]? = some (.var cs))(hs:sameL cs cs=true):clash l (.ch lo h h')=false:=by
 simp only[clash,a,b,sameO,hs,Bool.not_true,Bool.and_false]
theorem Fm.call{n ml:Nat}{a b c:St}(h:Fm n ml a b)(h':Fm n ml { heap:=b.heap,lo:=b.heap.length } c):Fm n ml a { heap:=c.heap,lo:=min b.lo c.lo }:=by
 refine⟨h.mlt,Nat.le_trans h.len h'.len,fun l hl hn=>(h'.old l (Nat.lt_of_lt_of_le hl h.len) hn).trans (h.old l hl hn),?_,Nat.le_trans (Nat.min_le_left _ _) h.up,(h.trans (b:=b) (c:={ heap:=c.heap,lo:=min b.lo c.lo }) ⟨h'.mlt,h'.len,h'.old,?_,Nat.min_le_left _ _,h'.grow⟩).grow⟩
 ·have:=h.lo
  have:=h'.lo
  have:=h.len
  have:=h.mlt
  show min ml a.lo≤min b.lo c.lo
  simp only at *
  omega
 ·have:=h'.lo
  have:=h'.mlt
  show min ml b.lo≤min b.lo c.lo
  simp only at *
  omega
theorem own_var{m:Nat}{st:St}{sz:Nat}{v:PV}{n l:Nat}{cs y:List PV}{o:HObj}(h:OwnS m st sz v n cs)(hl:hp st l=some (.var y)):OwnS m (setVar st l o) sz v n cs:=h.setVar fun b=>by rw[hl];simp
theorem wp_join{E:Env}{A:DCode}{K:List PV→St→Prop}{Q:Ex→List PV→St→Prop}{tm:List PV}{st:St}(J:List PV→St→Prop)(h:Wp E A (andThen J Q) tm st)(k:∀ tm st,J tm st→K tm st):Wp E A (andThen K Q) tm st:=h.mono (andThen_mono k fun _ _ _ _ h=>h)
theorem own_new{m:Nat}{st:St}{sz:Nat}{v:PV}{n:Nat}{cs z y:List PV}(h:OwnS m st sz v n cs):OwnS m (setVar (st.push (.var z)) st.heap.length (.var y)) sz v n cs:=h.push.setVar fun b=>by rw[hp_push,if_pos rfl];simp
def ChgOK (L1 L2:PV) (l1 l2:List Int) (ml i j:Nat):Prop:=∀ st,MapOK l1 l2 ml st→st.lo≤st.heap.length→ClR EE (.func 168 [] []) [wkPV L1 L2 (.map ml),plPV i j] st (fun v st'=>v=iv (lev (l1.drop i) (l2.drop j):Nat)∧MapOK l1 l2 ml st'∧Fm (i+j) ml st st')
section
variable(L1 L2:PV)(l1 l2:List Int)(hL1:SlOf 1 encI L1 l1)(hL2:SlOf 1 encI L2 l2)(hx1:l1.length≤4)(hx2:l2.length≤4)(ml i j:Nat)(hi:i≤l1.length)(hj:j≤l2.length)
include hL1 hL2 hx1 hx2 hi hj
set_option maxHeartbeats 4000000 in
theorem c136(H:∀ i' j',i≤i'→j≤j'→i+j<i'+j'→i'≤l1.length→j'≤l2.length→ChgOK L1 L2 l1 l2 ml i' j')(st:St)(hM:MapOK l1 l2 ml st)(hwf:st.lo≤st.heap.length) :
  ClR EE (.func 136 [] []) [wkPV L1 L2 (.map ml),plPV i j] st (fun v st'=>SlOf 5 (encS5 i j) v (candT 4 (l1.drop i) (l2.drop j))∧MapOK l1 l2 ml st'∧Fm (i+j+1) ml st st'):=by
 have c1:=hL1.cells
 have c2:=hL2.cells
 have p1:=hL1.isCell
 have p2:=hL2.isCell
 have hml:=hM.lt
 refine cG2 pr136 fn136 (fun tm hl h0 h1=>?_)
 refine go2 (bw5 hl h0 h1 c1 c2) fnil ?_
 refine wp_range 4 [5] (fun k vs st'=>∃ v,vs=[v]∧OwnS st.heap.length st' 5 v (candT k (l1.drop i) (l2.drop j)).length ((candT k (l1.drop i) (l2.drop j)).flatMap (encS5 i j))∧hp st' st.heap.length=some (.var [L1,L2,.map ml])∧hp st' (st.heap.length+1)=some (.var [iv i,iv j])∧MapOK l1 l2 ml st'∧Fm (i+j+1) ml { heap:=st.heap,lo:=st.heap.length } st'∧st'.lo≤st'.heap.length) (by omega) (sG hl) (sR hl) (sG hl) (by decide)
  ⟨_,(sG hl),.nil,(sG fnil),(sG fnil),by exact (hM.of (b:={ heap:=st.heap,lo:=st.heap.length }) rfl).push.push,(Fm.refl (a:={ heap:=st.heap,lo:=st.heap.length }) hml).push.push,by simp only[lo_push,len_push];omega⟩ ?_ ?_
 ·rintro k hk tm1 st1 ⟨v,hv,hO,b0,b1,hM1,hF1,hw1⟩ hS hka
  replace hv:=mv1 hv
  have hl1:tm1.length=57:=lN hS hl;have j2:tg tm1 2 = .ptr st.heap.length 0:=tQ hS hl;have j3:tg tm1 3 = .ptr (st.heap.length+1) 0:=tQ hS hl;have j20:tg tm1 20 = .agg [.func 164 [wkPV L1 L2 (.map ml)] [],.func 165 [wkPV L1 L2 (.map ml)] [],.func 166 [wkPV L1 L2 (.map ml)] [],.func 167 [wkPV L1 L2 (.map ml)] []]:=tQ hS hl;clear hS
  have lb0:=hp_lt b0
  have lb1:=hp_lt b1
  have hck:=fun st=>ckind L1 L2 (.map ml) l1 l2 hL1 hL2 rfl i j hx1 hx2 hi hj st k hk
  have hcond:(0≤(k:Int)∧(k:Int)<((4:Nat):Int)∧k≤4)=True:=by simp;omega
  have hhd:([PV.func 164 [.agg [L1,L2,.map ml]] [],.func 165 [.agg [L1,L2,.map ml]] [],.func 166 [.agg [L1,L2,.map ml]] [],.func 167 [.agg [L1,L2,.map ml]] []].drop k).head? = some (.func (164+k) [.agg [L1,L2,.map ml]] []):=by
   have hk':k=0∨k=1∨k=2∨k=3:=by omega
   rcases hk' with rfl|rfl|rfl|rfl <;> rfl
  rw[candT_succ]
  cases hkv:kmv k (l1.drop i) (l2.drop j) with
  | none =>
   rw[hkv] at hck
   refine go2 (bw14 hl1 j2 j3 j20 hka hv b0 b1 Int.toNat_natCast Nat.mul_one hcond hhd (n4 lb0) (n4 lb1)) (bw hck fnil) ?_
   simp only[Option.map_none,Option.toList_none,List.append_nil]
   exact⟨v,(sG (bw hl1 hv)),own_new hO,(sG (bw b0 (n4 lb0))),(sG (bw b1 (n4 lb1))),hM1.push.setVar (by have:=hM1.lt;omega),hF1.push.setVar (by have:=hF1.len;omega),by simp only[lo_setVar,lo_push,len_setVar,len_push];omega⟩
  | some mv =>
   rw[hkv] at hck
   obtain⟨m1,m2,m3⟩:=kmv_le hkv
   simp only[List.length_drop] at m1 m2
   have hw2:=wrap1 (n:=k) (by omega)
   have hM2:MapOK l1 l2 ml (setVar (st1.push (.var [iv 0,iv 0])) st1.heap.length (.var [iv ((i+mv.1:Nat):Int),iv ((j+mv.2.1:Nat):Int)])):=hM1.push.setVar (by have:=hM1.lt;omega)
   have hF2:Fm (i+j+1) ml { heap:=st.heap,lo:=st.heap.length } (setVar (st1.push (.var [iv 0,iv 0])) st1.heap.length (.var [iv ((i+mv.1:Nat):Int),iv ((j+mv.2.1:Nat):Int)])):=hF1.push.setVar (by have:=hF1.len;omega)
   have hO2:=own_new (y:=[iv ((i+mv.1:Nat):Int),iv ((j+mv.2.1:Nat):Int)]) (z:=[iv 0,iv 0]) hO
   have hcall:=H (i+mv.1) (j+mv.2.1) (by omega) (by omega) (by omega) (by omega) (by omega) { heap:=(setVar (st1.push (.var [iv 0,iv 0])) st1.heap.length (.var [iv ((i+mv.1:Nat):Int),iv ((j+mv.2.1:Nat):Int)])).heap,lo:=(setVar (st1.push (.var [iv 0,iv 0])) st1.heap.length (.var [iv ((i+mv.1:Nat):Int),iv ((j+mv.2.1:Nat):Int)])).heap.length } (hM2.of rfl) (Nat.le_refl _)
   refine go2 (bw15 hl1 j2 j3 j20 hka hv b0 b1 Int.toNat_natCast Nat.mul_one hcond hhd hw2 (n4 lb0) (n4 lb1)) (bw hck fnil) ?_
   refine wopsD_callF rfl rfl rfl (sG (bw hl1 j2)) hcall ?_
   rintro u st5 ⟨rfl,hM5,hF5⟩
   have hF6:=hF2.call (hF5.mono (by omega))
   have hM6:=hM5.of (b:={ heap:=st5.heap,lo:=min (setVar (st1.push (.var [iv 0,iv 0])) st1.heap.length (.var [iv ((i+mv.1:Nat):Int),iv ((j+mv.2.1:Nat):Int)])).lo st5.lo }) rfl
   have hw6:min (setVar (st1.push (.var [iv 0,iv 0])) st1.heap.length (.var [iv ((i+mv.1:Nat):Int),iv ((j+mv.2.1:Nat):Int)])).lo st5.lo≤st5.heap.length:=by
    have:=hF5.up
    have:=hF5.len
    simp only[len_setVar,len_push] at *
    omega
   have a0:hp (setVar (st1.push (.var [iv 0,iv 0])) st1.heap.length (.var [iv ((i+mv.1:Nat):Int),iv ((j+mv.2.1:Nat):Int)])) st1.heap.length=some (.var [iv ((i+mv.1:Nat):Int),iv ((j+mv.2.1:Nat):Int)]):=by simp only[↓reduceIte,go_sem]
   have a1:hp st5 st1.heap.length=_:=hF5.hp a0 (by omega)
   have d0:hp st5 st.heap.length=some (.var [L1,L2,.map ml]):=hF5.hp (l:=st.heap.length) (sG (bw b0 (n4 lb0))) (by omega)
   have d1:hp st5 (st.heap.length+1)=some (.var [iv i,iv j]):=hF5.hp (l:=st.heap.length+1) (sG (bw b1 (n4 lb1))) (by omega)
   have hln:st1.heap.length<st5.heap.length:=hp_lt a1
   have hft:=clash_same (lo:=st5.lo) a0 a1 (by simp[sameL,PV.same])
   have hO6:OwnS st.heap.length { heap:=st5.heap,lo:=min (setVar (st1.push (.var [iv 0,iv 0])) st1.heap.length (.var [iv ((i+mv.1:Nat):Int),iv ((j+mv.2.1:Nat):Int)])).lo st5.lo } 5 v _ _:=hO2.keep fun t ht h=>hF5.hp (o := .tag true) h (by omega)
   replace a1:hp { heap:=st5.heap,lo:=min (setVar (st1.push (.var [iv 0,iv 0])) st1.heap.length (.var [iv ((i+mv.1:Nat):Int),iv ((j+mv.2.1:Nat):Int)])).lo st5.lo } st1.heap.length=_:=a1
   replace d0:hp { heap:=st5.heap,lo:=min (setVar (st1.push (.var [iv 0,iv 0])) st1.heap.length (.var [iv ((i+mv.1:Nat):Int),iv ((j+mv.2.1:Nat):Int)])).lo st5.lo } st.heap.length=_:=d0
   replace d1:hp { heap:=st5.heap,lo:=min (setVar (st1.push (.var [iv 0,iv 0])) st1.heap.length (.var [iv ((i+mv.1:Nat):Int),iv ((j+mv.2.1:Nat):Int)])).lo st5.lo } (st.heap.length+1)=_:=d1
   generalize hs6:({ heap:=st5.heap,lo:=min (setVar (st1.push (.var [iv 0,iv 0])) st1.heap.length (.var [iv ((i+mv.1:Nat):Int),iv ((j+mv.2.1:Nat):Int)])).lo st5.lo }:St)=s6 at hF6 hM6 hO6 a1 d0 d1 ⊢
   have hw6':s6.lo≤s6.heap.length:=by rw[← hs6];exact hw6
   refine go2 (bw hl1 hft) fnil ?_
   have l6:st1.heap.length<s6.heap.length:=hp_lt a1
   have hlev:=lev_le4 (i:=0) (k:=0) hx1 hx2
   have hwl:=wrapN (n:=lev (l1.drop (i+mv.1)) (l2.drop (j+mv.2.1))) (by have:=lev_max (l1.drop (i+mv.1)) (l2.drop (j+mv.2.1));simp only[List.length_drop] at this;omega)
   refine wp_join (fun tm' s'=>tm'.length=57∧tg tm' 5=v∧tg tm' 11 = .ptr s6.heap.length 0∧OwnS st.heap.length s' 5 v (candT k (l1.drop i) (l2.drop j)).length ((candT k (l1.drop i) (l2.drop j)).flatMap (encS5 i j))∧hp s' st.heap.length=some (.var [L1,L2,.map ml])∧hp s' (st.heap.length+1)=some (.var [iv i,iv j])∧hp s' s6.heap.length=some (.var (encS5 i j (kst (l1.drop i) (l2.drop j) k mv)))∧MapOK l1 l2 ml s'∧Fm (i+j+1) ml { heap:=st.heap,lo:=st.heap.length } s'∧s'.lo≤s'.heap.length) ?_ ?_
   ·have hO7:=own_new (y:=[iv ((1+k:Nat):Int),iv mv.2.2,iv ((i+mv.1:Nat):Int),iv ((j+mv.2.1:Nat):Int),iv (lev (l1.drop (i+mv.1)) (l2.drop (j+mv.2.1)):Nat)]) (z:=[iv 0,iv 0,iv 0,iv 0,iv 0]) hO6
    have hM7:MapOK l1 l2 ml (setVar (s6.push (.var [iv 0,iv 0,iv 0,iv 0,iv 0])) s6.heap.length (.var [iv ((1+k:Nat):Int),iv mv.2.2,iv ((i+mv.1:Nat):Int),iv ((j+mv.2.1:Nat):Int),iv (lev (l1.drop (i+mv.1)) (l2.drop (j+mv.2.1)):Nat)])):=hM6.push.setVar (by omega)
    have hF7:Fm (i+j+1) ml { heap:=st.heap,lo:=st.heap.length } (setVar (s6.push (.var [iv 0,iv 0,iv 0,iv 0,iv 0])) s6.heap.length (.var [iv ((1+k:Nat):Int),iv mv.2.2,iv ((i+mv.1:Nat):Int),iv ((j+mv.2.1:Nat):Int),iv (lev (l1.drop (i+mv.1)) (l2.drop (j+mv.2.1)):Nat)])):=hF6.push.setVar (by simp only;omega)
    have q0:(st.heap.length=s6.heap.length)=False:=by simp;omega
    have q1:(st.heap.length+1=s6.heap.length)=False:=by simp;omega
    rcases Nat.eq_zero_or_pos k with rfl|hk0
    ·have hne:(((1+0:Nat):Int) != 1)=false:=by simp
     refine go2 (bw hl1 hne) fnil ?_
     exact⟨(sG hl1),(sG (bw hl1 hv)),(sG hl1),hO7,(sG (bw d0 q0)),(sG (bw d1 q1)),by simp only[↓reduceIte,go_sem];rw[← List.drop_drop,← List.drop_drop];rfl,hM7,hF7,by simp only[lo_setVar,lo_push,len_setVar,len_push];omega⟩
    ·have hne:(((1+k:Nat):Int) != 1)=true:=by simp;omega
     refine go2 (bw3 hl1 hne hwl) fnil ?_
     exact⟨(sG hl1),(sG (bw hl1 hv)),(sG hl1),own_var hO7 (sR fnil),(sG (bw d0 q0)),(sG (bw d1 q1)),by simp only[↓reduceIte,go_sem];rw[← List.drop_drop,← List.drop_drop];simp only[kst,if_neg (Nat.ne_of_gt hk0)],hM7.setVar (by omega),hF7.setVar (by simp only;omega),by simp only[lo_setVar,lo_push,len_setVar,len_push];omega⟩
   ·rintro tm2 s7 ⟨hl2,k5,k11,hO7,d0,d1,d2,hM7,hF7,hw7⟩
    have lb7:=hp_lt d2
    have hcl:(candT k (l1.drop i) (l2.drop j)).length≤k:=candT_len _ _ k
    refine go2 (bw5 hl2 k5 k11 d2 (n4 lb7)) fnil ?_
    refine aP (bw5 hl2 k5 k11 d2 (n4 lb7)) (hO7.push) ?_
    intro v' s8 hO8 hR8 hK8
    refine go2 hl2 fnil ?_
    simp only[Option.map_some,Option.toList_some]
    refine⟨v',(sG hl2),?_,hK8 _ _ (by rw[hp_push,if_neg (by have:=hp_lt d0;omega)];exact d0) (by simp),hK8 _ _ (by rw[hp_push,if_neg (by have:=hp_lt d1;omega)];exact d1) (by simp),hM7.push.fr hR8 hml,hF7.push.fr hR8,?_⟩
    ·rw[List.flatMap_append,List.length_append]
     exact hO8
    ·have:=hR8.len
     have:=hR8.up
     simp only[lo_push,len_push] at *
     omega
 ·rintro tm1 st1 ⟨v,hv,hO,b0,b1,hM1,hF1,hw1⟩ hS
  replace hv:=mv1 hv
  have hl1:tm1.length=57:=by rw[hS.1];simp only[↓reduceIte,go_sem,hl]
  refine go2 (bw hl1 hv) fnil ?_
  refine fnr_ret (v:=v) (results_one (by rw[rdRes_tmp];simp only[↓reduceIte,go_sem,hl1,hv])) ?_
  obtain⟨r1,r2,r3⟩:=finish_mapS hM hwf hF1 hM1 hO.sl (s5_low i j _)
  exact⟨SlOf.of_sl r1 rfl rfl (fun _=>rfl),r2,r3⟩
end
end Go.Den.Ve
end
section
namespace Go.Den.Ve
theorem step_hit{E:Env}{rec:Rec}{tm:List PV}{st:St}{m k:Opd}{z v:PV}{l i j n:Nat}{es:List (PV×PV)}{kk:PV}(hm:m.ev tm = .map l)(hk:k.ev tm=plPV i j)(hh:hp st l=some (.map es))(hf:findKey [(i:Int),(j:Int)] es 0=some (some n))(hn:es[n]? = some (kk,v)):stepOp E rec tm st (.lookup 2 z m k true)=some (.val (.tuple [v,.bool true]) st):=by
 have h2:st.heap[l]? = some (.map es):=hh
 simp[stepOp,hm,hk,h2,ints,hf,hn]
theorem step_miss{E:Env}{rec:Rec}{tm:List PV}{st:St}{m k:Opd}{z:PV}{l i j:Nat}{es:List (PV×PV)}(hm:m.ev tm = .map l)(hk:k.ev tm=plPV i j)(hh:hp st l=some (.map es))(hf:findKey [(i:Int),(j:Int)] es 0=some none):stepOp E rec tm st (.lookup 2 z m k true)=some (.val (.tuple [z,.bool false]) st):=by
 have h2:st.heap[l]? = some (.map es):=hh
 simp[stepOp,hm,hk,h2,ints,hf]
theorem step_upd{E:Env}{rec:Rec}{tm:List PV}{st:St}{m k x:Opd}{l i j:Nat}{es:List (PV×PV)}(hm:m.ev tm = .map l)(hk:k.ev tm=plPV i j)(hh:hp st l=some (.map es))(hf:findKey [(i:Int),(j:Int)] es 0=some none):stepOp E rec tm st (.mapUpdate 2 m k x)=some (.val undef (setVar st l (.map (es++[(plPV i j,x.ev tm)])))):=by
 have h2:st.heap[l]? = some (.map es):=hh
 simp[stepOp,hm,hk,h2,ints,hf]
theorem findKey_not{i j:Nat}{v:PV}:∀ {es:List (PV×PV)} {k:Nat},findKey [(i:Int),(j:Int)] es k=some none→(plPV i j,v)∉es
 | [],_,_=>by simp
 | (a,b)::es,k,h=>by
  intro hm
  unfold findKey at h
  split at h
  ·simp_all
  ·rename_i hd
   simp only[List.cons.injEq,Prod.mk.injEq] at hd
   obtain⟨⟨h1,h2⟩,h3⟩:=hd
   subst h1 h2 h3
   rcases List.mem_cons.1 hm with h4|h4
   ·simp only[Prod.mk.injEq,PV.agg.injEq] at h4
    obtain⟨h5,_⟩:=h4
    subst h5
    simp[ints] at h
   ·split at h
    ·split at h
     ·split at h
      ·simp at h
      ·exact findKey_not h h4
     ·cases h
    ·cases h
  ·cases h
theorem finish_none{st s1:St}{v:PV}(hlo:st.heap.length≤s1.lo)(h:letGo st.heap.length s1.heap v=none)(h2:letGo2 st.heap.length s1.heap v=none:=by rfl):finishCall st s1 v=(v,{ heap:=s1.heap,lo:=st.lo }):=by
 unfold finishCall
 rw[if_pos hlo,h]
 simp only[h2]
theorem sl_freeze2{m:Nat}{h:List HObj}{v:PV}{r:Nat×List PV}(hv:v.sl=some r):freeze2 m h v=(v,h):=by
 cases v <;> first|rfl|cases hv
theorem retag_map{h:List HObj}{m l:Nat}{L1 L2:PV}{x y:Nat×List PV}(h1:L1.sl=some x)(h2:L2.sl=some y)(hl:m≤l):letGo m h (.agg [L1,L2,.map l])=none:=by
 have e:∀ s,retag1 h m s (.map l)=none:=fun s=>by simp[retag1,PV.low];omega
 have e0:freeze1 m h (.map l)=(.map l,h):=rfl
 simp only[letGo,freezeL,sl_freeze h1,sl_freeze h2,e0,retagL,Option.map_eq_none_iff]
 cases retag1 h m [] L1 with
 | none=>rfl
 | some a =>
  simp only
  cases retag1 h m a.2 L2 with
  | none=>rfl
  | some b=>simp only[e]
theorem retag_map2{h:List HObj}{m l:Nat}{L1 L2:PV}{x y:Nat×List PV}(h1:L1.sl=some x)(h2:L2.sl=some y)(hl:m≤l):letGo2 m h (.agg [L1,L2,.map l])=none:=by
 have e:∀ s,retag1 h m s (.map l)=none:=fun s=>by simp[retag1,PV.low];omega
 have e0:freeze2 m h (.map l)=(.map l,h):=rfl
 simp only[letGo2,freeze2L,sl_freeze2 h1,sl_freeze2 h2,e0,retagL,Option.map_eq_none_iff]
 cases retag1 h m [] L1 with
 | none=>rfl
 | some a =>
  simp only
  cases retag1 h m a.2 L2 with
  | none=>rfl
  | some b=>simp only[e]
structure NextS (l m:List Int) (o:S5):Prop where
 left:o.left=lev l m
 di:o.di≤l.length
 dj:o.dj≤m.length
 pos:1≤o.di+o.dj
 steps:stepsL l m=((o.kind:Int),o.word)::stepsL (l.drop o.di) (m.drop o.dj)
section
variable(L1 L2:PV)(l1 l2:List Int)(hL1:SlOf 1 encI L1 l1)(hL2:SlOf 1 encI L2 l2)(hx1:l1.length≤4)(hx2:l2.length≤4)(ml i j:Nat)(hi:i≤l1.length)(hj:j≤l2.length)
include hL1 hL2 hx1 hx2 hi hj
set_option maxHeartbeats 4000000 in
theorem c86(H:∀ i' j',i≤i'→j≤j'→i+j<i'+j'→i'≤l1.length→j'≤l2.length→ChgOK L1 L2 l1 l2 ml i' j')(hne:l1.drop i≠[]∨l2.drop j≠[])(st:St)(hM:MapOK l1 l2 ml st)(hwf:st.lo≤st.heap.length) :
  ClR EE (.func 86 [] []) [wkPV L1 L2 (.map ml),plPV i j] st (fun v st'=>(∃ o,v = .agg (encS5 i j o)∧NextS (l1.drop i) (l2.drop j) o)∧MapOK l1 l2 ml st'∧Fm (i+j+1) ml st st'):=by
 have c1:=hL1.cells
 have c2:=hL2.cells
 have hml:=hM.lt
 obtain⟨o,ho,hom,q1,q2,q3,q4,q5⟩:=cand_best _ _ hne
 have hpos:0<(candT 4 (l1.drop i) (l2.drop j)).length:=List.length_pos_of_mem hom
 have hlen:=candT_len (l1.drop i) (l2.drop j) 4
 refine cG2 pr86 fn86 (fun tm hl h0 h1=>?_)
 refine go2 (bw5 hl h0 h1 c1 c2) fnil ?_
 have hM1:MapOK l1 l2 ml (((({ heap:=st.heap,lo:=st.heap.length }:St).push (.var [L1,L2,.map ml])).push (.var [iv i,iv j])).push (.var [iv 0,iv 0,iv 0,iv 0,iv 0])):=(hM.of (b:={ heap:=st.heap,lo:=st.heap.length }) rfl).push.push.push
 have hcall:=c136 L1 L2 l1 l2 hL1 hL2 hx1 hx2 ml i j hi hj H _ hM1 (by simp only[lo_push,len_push];omega)
 refine cR hl (hcall) ?_
 rintro v st5 ⟨hS,hM5,hF5⟩
 have hb:=c135 i j v _ hS hpos (by omega) st5
 refine cR hl (hb) ?_
 rintro u st6 ⟨o',ho',rfl,rfl⟩
 rw[ho] at ho'
 cases ho'
 have b2:hp st6 (st.heap.length+2)=some (.var [iv 0,iv 0,iv 0,iv 0,iv 0]):=hF5.hp (l:=st.heap.length+2) (sG fnil) (by omega)
 have lb2:=hp_lt b2
 have hF6:Fm (i+j+1) ml { heap:=st.heap,lo:=st.heap.length } st6:=(((Fm.refl (a:={ heap:=st.heap,lo:=st.heap.length }) hml).push).push).push.trans hF5
 refine go2 (bw3 hl b2 (n4 lb2)) fnil ?_
 refine fX (.agg (encS5 i j o)) (bw hl (n4 lb2)) ?_
 obtain⟨r1,r2,r3⟩:=finish_map (v := .agg (encS5 i j o)) hM hwf (hF6.setVar (l:=st.heap.length+2) (o := .var (encS5 i j o)) (by simp only;omega)) (hM5.setVar (by omega)) rfl
 exact⟨⟨o,r1,q1,q2,q3,q4,q5⟩,r2,r3⟩
set_option maxHeartbeats 4000000 in
theorem c168(H:∀ i' j',i≤i'→j≤j'→i+j<i'+j'→i'≤l1.length→j'≤l2.length→ChgOK L1 L2 l1 l2 ml i' j'):ChgOK L1 L2 l1 l2 ml i j:=by
 intro st hM hwf
 have c1:=hL1.cells
 have c2:=hL2.cells
 have hml:=hM.lt
 have k85:=fun st=>c85 L1 L2 (.map ml) l1 l2 hL1 hL2 rfl i j st
 refine cG2 pr168 fn168 (fun tm hl h0 h1=>?_)
 cases hd:decide (i=l1.length)&&decide (j=l2.length)
 rotate_left
 ·simp only[Bool.and_eq_true,decide_eq_true_eq] at hd
  have e1:l1.drop i=[]:=List.drop_eq_nil_of_le (by omega)
  have e2:l2.drop j=[]:=List.drop_eq_nil_of_le (by omega)
  have d1:=decide_eq_true hd.1
  have d2:=decide_eq_true hd.2
  refine go2 (bw7 hl h0 h1 c1 c2 d1 d2) (bw k85 fnil) ?_
  refine fX (iv 0) hl ?_
  have hx:=finish_map (v:=iv 0) hM hwf (((Fm.refl (n:=i+j) (a:={ heap:=st.heap,lo:=st.heap.length }) hml).push (o := .var [L1,L2,.map ml])).push (o := .var [iv i,iv j])) (hM.of (b:={ heap:=st.heap,lo:=st.heap.length }) rfl).push.push rfl
  rw[e1,e2]
  exact hx
 have hne:l1.drop i≠[]∨l2.drop j≠[]:=by
  rcases Nat.lt_or_ge i l1.length with h|h
  ·left;simp only[ne_eq,List.drop_eq_nil_iff];omega
  ·right
   have:j<l2.length:=by
    rcases Nat.lt_or_ge j l2.length with h'|h'
    ·exact h'
    ·simp only[Bool.and_eq_false_iff,decide_eq_false_iff_not] at hd
     omega
   simp only[ne_eq,List.drop_eq_nil_iff];omega
 have hMc:=hM
 obtain⟨es,hes,hent⟩:=hM
 have hes':hp { heap:=st.heap,lo:=st.heap.length } ml=some (.map es):=hes
 have n0:(ml=st.heap.length)=False:=by simp;omega
 have n1:(ml=st.heap.length+1)=False:=by simp;omega
 refine go2 (bw6 hl h0 h1 c1 c2 hd) (bw k85 fnil) ?_
 have hes2:hp ((({ heap:=st.heap,lo:=st.heap.length }:St).push (.var [L1,L2,.map ml])).push (.var [iv i,iv j])) ml=some (.map es):=by simp only[↓reduceIte,go_sem,hes',n0,n1]
 rcases findKey_ok (i:=i) (j:=j) (k:=0) hent with hf|⟨n,hf,hn⟩
 rotate_left
 ·rw[Nat.zero_add] at hf
  refine wops_one (by rfl) (fun rec=>step_hit (l:=ml) (i:=i) (j:=j) (sG hl) (sG hl) hes2 hf hn) ?_
  refine go2 hl fnil ?_
  refine fX (iv (lev (l1.drop i) (l2.drop j):Nat)) hl ?_
  exact finish_map hMc hwf (((Fm.refl (n:=i+j) (a:={ heap:=st.heap,lo:=st.heap.length }) hml).push (o := .var [L1,L2,.map ml])).push (o := .var [iv i,iv j])) (hMc.of (b:={ heap:=st.heap,lo:=st.heap.length }) rfl).push.push rfl
 ·refine wops_one (by rfl) (fun rec=>step_miss (l:=ml) (i:=i) (j:=j) (sG hl) (sG hl) hes2 hf) ?_
  refine go2 hl fnil ?_
  have hcall:=c86 L1 L2 l1 l2 hL1 hL2 hx1 hx2 ml i j hi hj H hne ((({ heap:=st.heap,lo:=st.heap.length }:St).push (.var [L1,L2,.map ml])).push (.var [iv i,iv j])) (hMc.of (b:={ heap:=st.heap,lo:=st.heap.length }) rfl).push.push (by simp only[lo_push,len_push];omega)
  refine cR hl (hcall) ?_
  rintro v st5 ⟨⟨o,rfl,hN⟩,hM5,hF5⟩
  have b0:hp st5 st.heap.length=some (.var [L1,L2,.map ml]):=hF5.hp (l:=st.heap.length) (sG fnil) (by omega)
  have b1:hp st5 (st.heap.length+1)=some (.var [iv i,iv j]):=hF5.hp (l:=st.heap.length+1) (sG fnil) (by omega)
  have hF6:Fm (i+j) ml { heap:=st.heap,lo:=st.heap.length } st5:=(((Fm.refl (n:=i+j) (a:={ heap:=st.heap,lo:=st.heap.length }) hml).push).push).trans (hF5.mono (by omega))
  refine go2 (bw3 hl b0 b1) fnil ?_
  obtain⟨es5,he5,hent5⟩:=hM5
  have hf5:findKey [(i:Int),(j:Int)] es5 0=some none:=by
   rcases findKey_ok (i:=i) (j:=j) (k:=0) hent5 with h|⟨n,h1,h2⟩
   ·exact h
   ·exfalso
    refine (hF5.nokey (v:=iv (lev (l1.drop i) (l2.drop j):Nat)) hes2 he5 (by omega) ?_) (List.mem_of_getElem? h2)
    intro hm
    exact findKey_not hf hm
  refine wops_one (by rfl) (fun rec=>step_upd (l:=ml) (i:=i) (j:=j) (sG hl) (sG hl) he5 hf5) ?_
  refine go2 hl fnil ?_
  refine fX (iv (o.left:Int)) hl ?_
  rw[hN.left]
  refine finish_map hMc hwf (hF6.setMap he5 (Nat.le_refl _)) ⟨_,by rw[hp_setVar,if_pos rfl,if_pos (hp_lt he5)],fun e he=>?_⟩ rfl
  rcases List.mem_append.1 he with h|h
  ·exact hent5 e h
  ·refine⟨i,j,?_⟩
   rw[List.mem_singleton.1 h]
end
section
variable(L1 L2:PV)(l1 l2:List Int)(hL1:SlOf 1 encI L1 l1)(hL2:SlOf 1 encI L2 l2)(hx1:l1.length≤4)(hx2:l2.length≤4)
include hL1 hL2 hx1 hx2
theorem chg_ok(ml:Nat):∀ (n i j:Nat),i≤l1.length→j≤l2.length→(l1.length - i)+(l2.length - j)≤n→ChgOK L1 L2 l1 l2 ml i j
 | 0,i,j,hi,hj,hn=>c168 L1 L2 l1 l2 hL1 hL2 hx1 hx2 ml i j hi hj (fun i' j' h1 h2 h3 h4 h5=>by omega)
 | n+1,i,j,hi,hj,hn=>c168 L1 L2 l1 l2 hL1 hL2 hx1 hx2 ml i j hi hj (fun i' j' h1 h2 h3 h4 h5=>chg_ok ml n i' j' h4 h5 (by omega))
theorem next_ok(ml i j:Nat)(hi:i≤l1.length)(hj:j≤l2.length)(hne:l1.drop i≠[]∨l2.drop j≠[])(st:St)(hM:MapOK l1 l2 ml st)(hwf:st.lo≤st.heap.length) :
  ClR EE (.func 86 [] []) [wkPV L1 L2 (.map ml),plPV i j] st (fun v st'=>(∃ o,v = .agg (encS5 i j o)∧NextS (l1.drop i) (l2.drop j) o)∧MapOK l1 l2 ml st'∧Fm 0 ml st st'):=by
 obtain⟨v,st',h1,h2,h3,h4⟩:=c86 L1 L2 l1 l2 hL1 hL2 hx1 hx2 ml i j hi hj (fun i' j' _ _ _ h4 h5=>chg_ok L1 L2 l1 l2 hL1 hL2 hx1 hx2 ml _ i' j' h4 h5 (Nat.le_refl _)) hne st hM hwf
 exact⟨v,st',h1,h2,h3,h4.mono (Nat.zero_le _)⟩
omit hx1 hx2 in
theorem c84(st:St):ClR EE (.func 84 [] []) [L1,L2] st (fun v st'=>∃ ml,v=wkPV L1 L2 (.map ml)∧st.heap.length≤ml∧hp st' ml=some (.map [])∧HExt st.heap st'.heap∧st'.lo=st.lo):=by
 have c1:=hL1.cells
 have c2:=hL2.cells
 have p1:=hL1.isCell
 have p2:=hL2.isCell
 refine cG2 pr84 fn84 (fun tm hl h0 h1=>?_)
 refine go2 (bw7 hl h0 h1 c1 c2 p1 p2) fnil ?_
 refine fX (wkPV L1 L2 (.map (st.heap.length+1))) (bw5 hl c1 c2 p1 p2) ?_
 rw[finish_none (by simp only[lo_setVar,lo_push];omega) (retag_map (hL1.sl) (hL2.sl) (by omega)) (retag_map2 (hL1.sl) (hL2.sl) (by omega))]
 have hx:HExt ({ heap:=st.heap,lo:=st.heap.length }:St).heap (setVar ((({ heap:=st.heap,lo:=st.heap.length }:St).push (.var [.nilslice,.nilslice,.nilmap])).push (.map [])) st.heap.length (.var [L1,L2,.map (st.heap.length+1)])).heap:=((((Fr.refl st.heap.length { heap:=st.heap,lo:=st.heap.length }).push (Nat.le_refl _)).push (by simp only[len_push];omega)).setVar (Nat.le_refl _)).hext
 exact⟨_,rfl,by omega,(sG fnil),hx,rfl⟩
end
end Go.Den.Ve
end
section
namespace Go.Den.Ve
theorem enc2_cellow{l:List (Int×Int)}{m:Nat}{c:PV}(hc:c∈l.flatMap enc2):c.low m=true:=by
 obtain⟨x,_,h⟩:=List.mem_flatMap.1 hc
 simp only[enc2,List.mem_cons,List.not_mem_nil,or_false] at h
 rcases h with rfl|rfl <;> rfl
def argB (b:BP) (l1 l2:List Int):Bool:=bookB b.bk&&(lineB b.words l1&&lineB b.words l2)
section
variable(b:BP)(hN:SmB b)(L1 L2:PV)(l1 l2:List Int)(hL1:SlOf 1 encI L1 l1)(hL2:SlOf 1 encI L2 l2)(st:St)
include hN hL1 hL2
set_option maxHeartbeats 4000000 in
theorem c29_yes(h:argB b l1 l2=true):ClR EE (.func 29 [] []) [b.pv,L1,L2] st (fun v st'=>∃ u,v = .tuple [u,iv 0]∧RetW st (stepsL l1 l2).length ((stepsL l1 l2).flatMap enc2) u st'):=by
 simp only[argB,Bool.and_eq_true] at h
 obtain⟨hA,hC,hD⟩:=h
 have hB:=bookB_iff.1 hA
 have h81:=c81 b hN
 have k1:=fun st=>c82 b.words b.v b.cells hB.okW L1 l1 hL1 st
 have k2:=fun st=>c82 b.words b.v b.cells hB.okW L2 l2 hL2 st
 have hx1:=(lineB_iff.1 hC).1
 have hx2:=(lineB_iff.1 hD).1
 have c1:=hL1.cells
 have c2:=hL2.cells
 have p1:=hL1.isCell
 have p2:=hL2.isCell
 refine cG3 pr29 fn29 (fun tm hl h0 h1 h2=>?_)
 refine go2 (bw7 hl h0 h1 h2 hA hC hD) (bw4 h81 k1 k2 fnil) ?_
 have h84:=c84 L1 L2 l1 l2 hL1 hL2 (({ heap:=st.heap,lo:=st.heap.length }:St).push (.var [iv b.words,b.v]))
 refine cR (bw3 hl h1 h2) (h84) ?_
 rintro v sA ⟨ml,rfl,hml,hm0,hxA,hloA⟩
 have hlA:=hp_lt hm0
 have hM0:MapOK l1 l2 ml sA:=⟨[],hm0,fun e he=>by cases he⟩
 simp only[len_push] at hml
 refine go2 (bw5 hl c1 c2 p1 p2) fnil ?_
 have z0:(st.heap.length≤sA.lo):=by rw[hloA];simp only[lo_push];omega
 refine wp_while [9] (fun n vs st'=>∃ v i j out,vs=[v]∧OwnS st.heap.length st' 2 v out.length (out.flatMap enc2)∧hp st' sA.heap.length=some (.var [L1,L2,.map ml])∧hp st' (sA.heap.length+1)=some (.var [.int .i64 ((i:Nat):Int),.int .i64 ((j:Nat):Int)])∧i≤l1.length∧j≤l2.length∧n≤i+j∧out++stepsL (l1.drop i) (l2.drop j)=stepsL l1 l2∧MapOK l1 l2 ml st'∧st.heap.length≤st'.lo∧st'.lo≤st'.heap.length) (fun n=>l1.length+l2.length - n)
  ⟨_,0,0,[],(sG hl),.nil,(sG fnil),(sR fnil),Nat.zero_le _,Nat.zero_le _,Nat.zero_le _,rfl,(hM0.push.setVar (by omega)).push,by simp only[lo_push,lo_setVar];omega,by simp only[lo_push,lo_setVar,len_push,len_setVar];omega⟩ ?_
 rintro n tm1 st1 ⟨v,i,j,out,hv,hO,d0,d1,hi,hj,hn,hst,hM1,hlo,hwf⟩ hS
 replace hv:=mv1 hv
 have hl1:tm1.length=45:=lN hS hl;have j8:tg tm1 8 = .ptr sA.heap.length 0:=tQ hS hl;have j10:tg tm1 10 = .ptr (sA.heap.length+1) 0:=tQ hS hl;clear hS
 have k85:=fun st=>c85 L1 L2 (.map ml) l1 l2 hL1 hL2 rfl i j st
 have ld0:=hp_lt d0
 have ld1:=hp_lt d1
 refine go2 (bw5 hl1 j8 j10 d0 d1) (bw k85 fnil) ?_
 refine⟨!(decide (i=l1.length)&&decide (j=l2.length)),(sG hl1),fun hb=>?_,fun hb=>?_⟩
 ·simp only[Bool.not_eq_false',Bool.and_eq_true,decide_eq_true_eq] at hb
  have e1:l1.drop i=[]:=List.drop_eq_nil_of_le (by omega)
  have e2:l2.drop j=[]:=List.drop_eq_nil_of_le (by omega)
  rw[e1,e2,stepsL,List.append_nil] at hst
  subst hst
  refine go2 (bw hl1 hv) fnil ?_
  refine fX (.tuple [v,iv 0]) (bw hl1 hv) ?_
  exact finish_slT hO.sl (by rfl) hlo (fun m=>lowL_of fun c hc=>enc2_cellow hc)
 ·have hne:l1.drop i≠[]∨l2.drop j≠[]:=by
   simp only[ne_eq,List.drop_eq_nil_iff]
   simp only[Bool.not_eq_true',Bool.and_eq_false_iff,decide_eq_false_iff_not] at hb
   omega
  have hnx:=next_ok L1 L2 l1 l2 hL1 hL2 hx1 hx2 ml i j hi hj hne st1 hM1 hwf
  refine⟨?_,?_⟩
  ·simp only[Bool.not_eq_true',Bool.and_eq_false_iff,decide_eq_false_iff_not] at hb
   omega
  refine go2 (bw5 hl1 j8 j10 d0 d1) fnil ?_
  refine cR hl1 (hnx) ?_
  rintro u st5 ⟨⟨o,rfl,hNx⟩,hM5,hF5⟩
  have e0:hp st5 sA.heap.length=_:=hF5.hp d0 (by omega)
  have e1:hp st5 (sA.heap.length+1)=_:=hF5.hp d1 (by omega)
  have hO5:OwnS st.heap.length st5 2 v out.length (out.flatMap enc2):=hO.keep fun t ht h=>hF5.hp h (by rintro rfl;obtain⟨es,q,_⟩:=hM1;rw[q] at h;cases h)
  have hlo5:=hF5.lo
  have hup5:=hF5.up
  have hln5:=hF5.len
  have le0:=hp_lt e0
  have le1:=hp_lt e1
  refine go2 (bw4 hl1 j10 (n4 le0) (n4 le1)) fnil ?_
  have hlen:out.length≤8:=by
   have q:=congrArg List.length hst
   rw[List.length_append] at q
   have:=(steps_led l1 l2).len
   omega
  refine aP (bw hl1 hv) ((own_new hO5).push) ?_
  intro v' s8 hO8 hR8 hK8
  have f11:hp s8 st5.heap.length=some (.var (encS5 i j o)):=hK8 _ _ (sG fnil) (by simp)
  have n0:(sA.heap.length=st5.heap.length)=False:=by simp;omega
  have n1:(sA.heap.length+1=st5.heap.length)=False:=by simp;omega
  have n2:(sA.heap.length=st5.heap.length+1)=False:=by simp;omega
  have n3:(sA.heap.length+1=st5.heap.length+1)=False:=by simp;omega
  have f8:hp s8 sA.heap.length=some (.var [L1,L2,.map ml]):=hK8 _ _ (sG (bw3 e0 n0 n2)) (by simp)
  have f10:hp s8 (sA.heap.length+1)=some (.var [.int .i64 (i:Int),.int .i64 (j:Int)]):=hK8 _ _ (sG (bw3 e1 n1 n3)) (by simp)
  have lf8:=hp_lt f8
  have lf10:=hp_lt f10
  refine go2 (bw6 hl1 j10 f11 f10 (n4 lf8) (n4 lf10)) fnil ?_
  have hle8:=hR8.lo
  have hup8:=hR8.up
  have hln8:=hR8.len
  have hdi:=hNx.di
  have hdj:=hNx.dj
  have hps:=hNx.pos
  simp only[lo_push,lo_setVar,len_push,len_setVar,List.length_drop] at hle8 hup8 hln8 hdi hdj
  refine⟨v',i+o.di,j+o.dj,out++[((o.kind:Int),o.word)],(sG hl1),?_,by rw[hp_setVar,if_neg (by omega)];exact f8,by rw[hp_setVar,if_pos rfl,if_pos lf10],by omega,by omega,by omega,?_,?_,by rw[lo_setVar];omega,by rw[lo_setVar,len_setVar];omega⟩
  ·rw[List.flatMap_append,List.length_append]
   exact own_var hO8 f10
  ·rw[← hst,hNx.steps,List.append_assoc,List.singleton_append,List.drop_drop,List.drop_drop]
  ·refine MapOK.setVar ?_ (by omega)
   obtain⟨es,q1,q2⟩:=hM5
   exact⟨es,hK8 _ _ (by rw[hp_push,if_neg (by rw[len_setVar,len_push];have:=hp_lt q1;omega),hp_setVar,if_neg (by have:=hp_lt q1;omega),hp_push,if_neg (by have:=hp_lt q1;omega)];exact q1) (by simp),q2⟩
end
end Go.Den.Ve
end

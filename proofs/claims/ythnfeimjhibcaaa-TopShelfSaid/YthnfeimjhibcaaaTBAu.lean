/- Part of the proofs of laws of the package version. Texts: TcG, TcH, TcI, TcJ, TcK. -/
import Derived.Test.YthnfeimjhibcaaaTBAt
import Derived.Test.YthnfeimjhibcaaaTBAk
set_option linter.unusedSimpArgs false
set_option linter.unusedVariables false
section
namespace Go.Den.Tp
open Go.Den.Ch (Fig CL Flt inB figB listB packB layerL layersL key brk disB disA disorder fullL gapL fault)
theorem c48 (c:CL) (F:PV) (st:St):Cl EE (.func 48 [] []) [clPV c F] st (.ret (.func 101 [] [.ptr st.heap.length 0])) (st.push (.var [iv c.room,iv c.depth,F])):=by
 refine cF1 pr48 fn48 (fun tm hl h0=>?_)
 refine go2 (bw hl h0) fnil ?_
 unfold FnQ
 refine ⟨.func 101 [] [.ptr st.heap.length 0],results_one (by rw [rdRes_tmp];simp only [↓reduceIte,go_sem,hl]),_,?_,rfl⟩
 unfold finishCall
 rw [if_pos (by simp only [lo_push];omega)]
 have:letGo st.heap.length (({ heap:=st.heap,lo:=st.heap.length }:St).push (.var [iv c.room,iv c.depth,F])).heap (.func 101 [] [.ptr st.heap.length 0])=none:=by
  simp [letGo,freeze1,retag1,PV.low,lowL]
 rw [this]
 rfl
set_option maxHeartbeats 1000000 in
theorem iter129 {c:CL} {F:PV} {b:Nat} {st:St} (hF:SlOf 3 encF F c.figs) (hc:OkL c) (hb:hp st b=some (.var [iv c.room,iv c.depth,F])):Iter EE (.func 101 [] [.ptr b 0]) st (rightsL c) (RepP c F) (fun l=>l=b):=by
 intro y W e w I S Y hWp hWw hI he hwf hw hew hyi hyc
 have hWb:¬ W b:=hWp b rfl
 have hWy:¬ W st.heap.length:=fun h=>by have:=hWw _ h;omega
 have hWs:¬ W (st.heap.length+1):=fun h=>by have:=hWw _ h;omega
 have hx0:HExt st.heap (setVar ((({ heap:=st.heap,lo:=st.heap.length }:St).push (.var [y])).push (.var [.nilfunc])) (st.heap.length+1) (.var [.func 102 [] [.ptr b 0,.ptr st.heap.length 0,.ptr (st.heap.length+1) 0]])).heap :=
  (show HExt ({ heap:=st.heap,lo:=st.heap.length }:St).heap _ from ((((Fr.refl st.heap.length { heap:=st.heap,lo:=st.heap.length }).push (Nat.le_refl _)).push (by simp only [len_push];omega)).setVar (by omega)).hext)
 have hrec:=c102 (X:=rightsL c) (mY:=st.heap.length) (mS:=st.heap.length+1) hF hc Y hWb hWy hWs hWw c.figs.length [] .nilslice (setVar ((({ heap:=st.heap,lo:=st.heap.length }:St).push (.var [y])).push (.var [.nilfunc])) (st.heap.length+1) (.var [.func 102 [] [.ptr b 0,.ptr st.heap.length 0,.ptr (st.heap.length+1) 0]])) 0 .nil (by simp) (by simp) (by simp only [List.drop_zero];exact List.prefix_refl _) (Y.stab _ _ _ hI hx0) (by simp only [lo_setVar,lo_push];omega) (by simp only [lo_setVar,lo_push,len_setVar,len_push];omega) (by simp only [len_setVar,len_push];omega)
  (hx0.hp hb) (sG fnil) (sG fnil)
 have hgoal:ClR EE (.func 101 [] [.ptr b 0]) [y] st (fun v st'=>KeepV W st.heap st'.heap∧e≤st'.lo∧st'.lo≤st'.heap.length∧(I (rightsL c).length st'.heap∨S st'.heap)):=by
  refine cG2 pr101 fn101 (fun tm hl h0 h1=>?_)
  refine go2 (bw5 hl h0 h1 hyi hyc) fnil ?_
  refine cR (bw3 hl h0 h1) (hrec) ?_
  rintro u st5 ⟨r,rfl,hT,hS',hk5,he5,hwf5,hlo5⟩
  rw [Nat.zero_add] at hT
  refine go2 hl fnil ?_
  refine fnr_normal results_nil ?_
  rcases hlo5 with ⟨h1,rfl,rfl⟩|h1
  ·rw [finish_tuple (by simp only [lo_setVar,lo_push];omega) (by rfl)]
   have:(rightsL c).length=0:=h1
   rw [this]
   exact ⟨.refl _ _,he,hwf,.inl hI⟩
  ·unfold finishCall
   rw [if_neg (by omega)]
   refine ⟨(hx0.keep W).trans hk5,?_,?_,?_⟩
   ·show e≤min st.lo st5.lo;omega
   ·show min st.lo st5.lo≤st5.heap.length;omega
   ·cases r
    ·exact .inr (hS' rfl)
    ·exact .inl (hT rfl)
 obtain ⟨v,st',h1,h2⟩:=hgoal
 exact ⟨v,st',h1,h2⟩
end Go.Den.Tp
end
section
namespace Go.Den.Tp
open Go.Den.Ch (Fig CL Flt inB figB listB packB layerL layersL key brk disB disA disorder fullL gapL fault)
def OutP (c:CL) (F:PV) (o:Option (List Int)) (cs:List PV):Prop:=match o with
 | none=>cs=[iv 0,iv 0,.nilslice,.nilslice]
 | some p=>∃ P,cs=[iv c.room,iv c.depth,F,P]∧SlOf 1 encI P p
theorem keep_low2 {a:List HObj} {s2:St} {m:Nat} {x y:HObj} (hm:a.length≤m) (h:KeepA a s2.heap):KeepA a (setVar (setVar s2 m x) (m+1) y).heap:=by
 have h1:KeepA a (s2.heap.set m x):=KeepV.set h hm
 exact KeepV.set h1 (by omega)
set_option maxHeartbeats 4000000 in
theorem c49 (c:CL) (F:PV) (hFc:F.cells=[F]) (hFi:F.isCell=true) (g:Nat) (fa fc:List PV) (bf:PV) (hbc:bf.cells=[bf]) (X:List (List Int)) (bt:List Int→List Int→Bool) (priv:Nat→Prop) (st:St) (hpriv:∀ l,priv l→l<st.heap.length)
  (hIt:∀ st',HExt st.heap st'.heap→Iter EE (.func g fa fc) st' X (RepP c F) priv)
  (hbt:∀ st',KeepA st.heap st'.heap→∀ x,x∈X→∀ o,o∈X→∀ vx vo,RepP c F vx x→RepP c F vo o→Cl EE bf [vx,vo] st' (.ret (.bool (bt x o))) st') :
  ClR EE (.func 49 [] []) [.func g fa fc,bf] st (fun v st'=>∃ cs,v = .tuple [.agg cs,.bool (bestF bt X).isSome]∧OutP c F (bestF bt X) cs∧KeepA st.heap st'.heap∧st'.lo=st.lo):=by
 refine cG2 pr49 fn49 (fun tm hl h0 h1=>?_)
 refine go2 (bw4 hl h0 h1 hbc) fnil ?_
 apply wp_block
 refine wp_gen (fun tm1 s1=>tm1.length=22∧tg tm1 3 = .ptr st.heap.length 0∧tg tm1 4 = .ptr (st.heap.length+1) 0∧tg tm1 6 = .ptr (st.heap.length+2) 0∧tg tm1 7 = .ptr (st.heap.length+3) 0∧tg tm1 9 = .func g fa fc∧HExt st.heap s1.heap∧s1.heap.length=st.heap.length+4∧st.heap.length≤s1.lo∧s1.lo≤s1.heap.length∧hp s1 st.heap.length=some (.var [bf])∧hp s1 (st.heap.length+1)=some (.var [iv 0,iv 0,.nilslice,.nilslice])∧hp s1 (st.heap.length+2)=some (.var [iv 0,iv 0,.nilslice,.nilslice])∧hp s1 (st.heap.length+3)=some (.var [.bool false]))
  ⟨(sG hl),(sG hl),(sG hl),(sG hl),(sG hl),(sG hl),(show HExt ({ heap:=st.heap,lo:=st.heap.length }:St).heap _ from ((((((Fr.refl st.heap.length { heap:=st.heap,lo:=st.heap.length }).push (Nat.le_refl _)).push (by simp only [len_push];omega)).push (by simp only [len_push];omega)).push (by simp only [len_push];omega)).setVar (by omega)).hext),(sG fnil),by simp only [lo_push,lo_setVar];omega,by simp only [lo_push,lo_setVar,len_push,len_setVar];omega,(sG fnil),(sG fnil),(sG fnil),(sG fnil)⟩ ?_
 rintro tm1 s1 ⟨hl1,q3,q4,q6,q7,q9,hx,hsl,hlo,hwf,z0,z1,z2,z3⟩
 refine wp_rangeF (X:=X) (Rep:=RepP c F) (priv:=priv) (fun l=>l=st.heap.length+2∨l=st.heap.length+3) st.heap.length
  (fun i h=>h[st.heap.length]? = some (.var [bf])∧h[st.heap.length+1]? = some (.var [iv 0,iv 0,.nilslice,.nilslice])∧(∃ cs,h[st.heap.length+2]? = some (.var cs)∧OutP c F (bestF bt (X.take i)) cs)∧h[st.heap.length+3]? = some (.var [.bool (bestF bt (X.take i)).isSome])∧KeepA st.heap h)
  (fun _ _=>False) (sG q9) (hIt _ (hx.trans (HExt.push _ _))) (fun l hl=>by have:=hpriv l hl;omega) (fun l hl=>by omega) hlo hwf
  (fun i h h' ⟨a0,a1,⟨cs,a2,a3⟩,a4,a5⟩ hx=>⟨hx.var a0,hx.var a1,⟨cs,hx.var a2,a3⟩,hx.var a4,a5.trans (hx.keep _)⟩) (fun _ _ _ h _=>h)
  (fun i h s p s' p' ⟨a0,a1,⟨cs,a2,a3⟩,a4,a5⟩ hL=>⟨set_var a0 hL,set_var a1 hL,⟨cs,set_var a2 hL,a3⟩,set_var a4 hL,a5.set (by omega)⟩) (fun _ _ _ _ _ _ h _=>h)
  ⟨z0,z1,⟨_,z2,rfl⟩,z3,hx.keep _⟩ ?_ ?_ (fun _ _ h=>h.elim)
 ·rintro i hi v st1 ⟨P,rfl,hP⟩ ⟨a0,a1,⟨cs,a2,a3⟩,a4,a5⟩ he1 hwf1 hL
  refine ⟨_,setParams_one,?_⟩
  have hPc:=hP.cells
  have hPi:=hP.isCell
  have lL:=hp_lt hL
  refine go2 (bw3 hl1 hFi hPi) fnil ?_
  have hx1:HExt st1.heap (setVar (st1.push (.var [iv 0,iv 0,.nilslice,.nilslice])) st1.heap.length (.var [iv c.room,iv c.depth,F,P])).heap:=(((Fr.refl st1.heap.length st1).push (Nat.le_refl _)).setVar (Nat.le_refl _)).hext
  refine ⟨rfl,hx1,by simp only [lo_push,lo_setVar];omega,by simp only [lo_push,lo_setVar,len_push,len_setVar];omega,?_⟩
  refine wp_gen (fun tm2 s2=>tm2.length=22∧tg tm2 3 = .ptr st.heap.length 0∧tg tm2 6 = .ptr (st.heap.length+2) 0∧tg tm2 7 = .ptr (st.heap.length+3) 0∧tg tm2 8 = .ptr st1.heap.length 0∧s2.heap.length=st1.heap.length+1∧st.heap.length≤s2.lo∧s2.lo≤s2.heap.length∧hp s2 st.heap.length=some (.var [bf])∧hp s2 (st.heap.length+1)=some (.var [iv 0,iv 0,.nilslice,.nilslice])∧hp s2 (st.heap.length+2)=some (.var cs)∧hp s2 (st.heap.length+3)=some (.var [.bool (bestF bt (X.take i)).isSome])∧hp s2 st1.heap.length=some (.var [iv c.room,iv c.depth,F,P])∧hp s2 s1.heap.length=some (.loop tm1 [10] _ _ .busy none)∧KeepV (fun l=>l=s1.heap.length) (setVar (st1.push (.var [iv 0,iv 0,.nilslice,.nilslice])) st1.heap.length (.var [iv c.room,iv c.depth,F,P])).heap s2.heap∧KeepA st.heap s2.heap)
   ⟨(sG hl1),(sG (bw hl1 q3)),(sG (bw hl1 q6)),(sG (bw hl1 q7)),(sG hl1),(sG fnil),by simp only [lo_push,lo_setVar];omega,by simp only [lo_push,lo_setVar,len_push,len_setVar];omega,hp_set_other (hx1.hp a0) (by omega),hp_set_other (hx1.hp a1) (by omega),hp_set_other (hx1.hp a2) (by omega),hp_set_other (hx1.hp a4) (by omega),hp_set_other (sG fnil) (by omega),(sR (n4 lL)),⟨by simp only [len_push,len_setVar];omega,fun l o ho _ hn=>hp_set_other ho hn⟩,?_⟩ ?_
  ·exact KeepV.set (a5.trans (hx1.keep _)) (by omega)
  rintro tm2 s2 ⟨hl2,p3,p6,p7,p8,hsl2,hlo2,hwf2,b0,b1,b2,b3,b8,bL,hk2,hk2'⟩
  have m0:=hp_lt b0
  have m1:=hp_lt b1
  have m2:=hp_lt b2
  have m3:=hp_lt b3
  have m8:=hp_lt b8
  have mL:=hp_lt bL
  have htk:=bestF_take bt X hi
  have hout:∀ (met:Bool),hp s2 (st.heap.length+3)=some (.var [.bool met])→bestF bt (X.take (i+1))=some X[i]→∀ Z,hp s2 s1.heap.length=Z→(hp (setVar (setVar s2 (st.heap.length+2) (.var [iv c.room,iv c.depth,F,P])) (st.heap.length+3) (.var [.bool true])) s1.heap.length=Z∧KeepV (fun l=>(l=st.heap.length+2∨l=st.heap.length+3)∨l=s1.heap.length) (setVar (st1.push (.var [iv 0,iv 0,.nilslice,.nilslice])) st1.heap.length (.var [iv c.room,iv c.depth,F,P])).heap (setVar (setVar s2 (st.heap.length+2) (.var [iv c.room,iv c.depth,F,P])) (st.heap.length+3) (.var [.bool true])).heap∧st.heap.length≤(setVar (setVar s2 (st.heap.length+2) (.var [iv c.room,iv c.depth,F,P])) (st.heap.length+3) (.var [.bool true])).lo∧(setVar (setVar s2 (st.heap.length+2) (.var [iv c.room,iv c.depth,F,P])) (st.heap.length+3) (.var [.bool true])).lo≤(setVar (setVar s2 (st.heap.length+2) (.var [iv c.room,iv c.depth,F,P])) (st.heap.length+3) (.var [.bool true])).heap.length∧(fun i h=>h[st.heap.length]? = some (.var [bf])∧h[st.heap.length+1]? = some (.var [iv 0,iv 0,.nilslice,.nilslice])∧(∃ cs,h[st.heap.length+2]? = some (.var cs)∧OutP c F (bestF bt (X.take i)) cs)∧h[st.heap.length+3]? = some (.var [.bool (bestF bt (X.take i)).isSome])∧KeepA st.heap h) (i+1) (setVar (setVar s2 (st.heap.length+2) (.var [iv c.room,iv c.depth,F,P])) (st.heap.length+3) (.var [.bool true])).heap):=by
   intro met hmet hbn Z hZ
   refine ⟨by rw [hp_setVar,if_neg (by omega),hp_setVar,if_neg (by omega)];exact hZ,hk2.mono (fun l h => .inr h) |>.trans ⟨by simp only [len_setVar];exact Nat.le_refl _,fun l o ho _ hn=>?_⟩,by simp only [lo_setVar];omega,by simp only [lo_setVar,len_setVar];omega,hp_set_other (hp_set_other b0 (by omega)) (by omega),hp_set_other (hp_set_other b1 (by omega)) (by omega),⟨[iv c.room,iv c.depth,F,P],hp_set_other (sG m2) (by omega),?_⟩,?_,keep_low2 (by omega) hk2'⟩
   ·exact hp_set_other (hp_set_other ho (fun h=>hn (.inl (.inl h)))) (fun h=>hn (.inl (.inr h)))
   ·rw [hbn];exact ⟨P,rfl,hP⟩
   ·rw [hbn]
    have:hp (setVar (setVar s2 (st.heap.length+2) (.var [iv c.room,iv c.depth,F,P])) (st.heap.length+3) (.var [.bool true])) (st.heap.length+3)=some (.var [.bool true]):=by simp only [↓reduceIte,go_sem,m3]
    exact this
  have hno:bestF bt (X.take (i+1))=bestF bt (X.take i)→∀ Z,hp s2 s1.heap.length=Z→(hp s2 s1.heap.length=Z∧KeepV (fun l=>(l=st.heap.length+2∨l=st.heap.length+3)∨l=s1.heap.length) (setVar (st1.push (.var [iv 0,iv 0,.nilslice,.nilslice])) st1.heap.length (.var [iv c.room,iv c.depth,F,P])).heap s2.heap∧st.heap.length≤s2.lo∧s2.lo≤s2.heap.length∧(fun i h=>h[st.heap.length]? = some (.var [bf])∧h[st.heap.length+1]? = some (.var [iv 0,iv 0,.nilslice,.nilslice])∧(∃ cs,h[st.heap.length+2]? = some (.var cs)∧OutP c F (bestF bt (X.take i)) cs)∧h[st.heap.length+3]? = some (.var [.bool (bestF bt (X.take i)).isSome])∧KeepA st.heap h) (i+1) s2.heap):=by
   intro hbn Z hZ
   refine ⟨hZ,hk2.mono (fun l h => .inr h),by omega,hwf2,b0,b1,⟨cs,b2,by rw [hbn];exact a3⟩,by rw [hbn];exact b3,hk2'⟩
  cases hbf:bestF bt (X.take i) with
  | none =>
   rw [hbf] at a3 b3 htk
   dsimp only at htk
   simp only [OutP] at a3
   subst a3
   refine go2 (bw17 hl2 p3 p6 p7 p8 b0 b2 b3 b8 @isS @isN hFi hPi (n4 m0) (n4 m2) (n4 m3) (n4 m8)) fnil ?_
   exact hout false b3 htk _ bL
  | some o =>
   rw [hbf] at a3 b3 htk
   dsimp only at htk
   obtain ⟨P0,rfl,hP0⟩:=a3
   have hcall:=hbt s2 hk2' X[i] (List.getElem_mem _) o (bestF_mem bt X (by omega) hbf) (paPV c F P) (paPV c F P0) ⟨P,rfl,hP⟩ ⟨P0,rfl,hP0⟩
   cases hb:bt X[i] o
   ·rw [hb] at hcall htk
    refine go2 (bw17 hl2 p3 p6 p7 p8 b0 b2 b3 b8 @isS @isN hFi hPi (n4 m0) (n4 m2) (n4 m3) (n4 m8)) (bw hcall fnil) ?_
    exact hno (by rw [htk,hbf];rfl) _ bL
   ·rw [hb] at hcall htk
    refine go2 (bw17 hl2 p3 p6 p7 p8 b0 b2 b3 b8 @isS @isN hFi hPi (n4 m0) (n4 m2) (n4 m3) (n4 m8)) (bw hcall fnil) ?_
    exact hout true b3 (by rw [htk];rfl) _ bL
 ·rintro s2 ⟨a0,a1,⟨cs,a2,a3⟩,a4,a5⟩ hk2 he2 hwf2
  rw [List.take_length] at a3 a4
  have b1:hp s2 (st.heap.length+1)=_:=a1
  have b2:hp s2 (st.heap.length+2)=_:=a2
  have b3:hp s2 (st.heap.length+3)=_:=a4
  have m1:=hp_lt b1
  have m2:=hp_lt b2
  have m3:=hp_lt b3
  have hcs:∃ x0 x1 x2 x3,cs=[x0,x1,x2,x3]∧cs.all PV.isCell=true∧[PV.agg cs,.bool (bestF bt X).isSome].all notSl=true:=by
   cases hb:bestF bt X with
   | none=>rw [hb] at a3;simp only [OutP] at a3;subst a3;exact ⟨_,_,_,_,rfl,rfl,rfl⟩
   | some o=>rw [hb] at a3;obtain ⟨P,rfl,hP⟩:=a3;exact ⟨_,_,_,_,rfl,by simp only [List.all_cons,List.all_nil,isCell_int,hFi,hP.isCell,Bool.and_self],rfl⟩
  obtain ⟨x0,x1,x2,x3,rfl,hall,hns⟩:=hcs
  simp only [List.all_cons,List.all_nil,Bool.and_true,Bool.and_eq_true] at hall
  obtain ⟨i0,i1,i2,i3⟩:=hall
  apply inBlock_normal
  refine go2 (bw14 hl1 q4 q6 q7 b1 b2 b3 i0 i1 i2 i3 (n4 m1) (n4 m2) (n4 m3)) fnil ?_
  refine fnr_ret (v := .tuple [.agg [x0,x1,x2,x3],.bool (bestF bt X).isSome]) (results_two (by rw [rdRes_hp (l:=st.heap.length+1) (off:=0) (sG (bw hl1 q4))];simp only [↓reduceIte,go_sem,b1,n4 m1]) (by rw [rdRes_tmp];simp only [↓reduceIte,go_sem,hl1])) ?_
  obtain ⟨f1,f2,f3⟩:=finish_keep (st:=st) (st1:=setVar s2 (st.heap.length+1) (.var [x0,x1,x2,x3])) hns (by rw [lo_setVar];omega)
  refine ⟨_,f1,a3,?_,f2⟩
  rcases f3 with f3|f3
  ·rw [f3];exact KeepV.refl _ _
  ·rw [f3];exact KeepV.set a5 (by omega)
end Go.Den.Tp
end
section
namespace Go.Den.Tp
open Go.Den.Ch (Fig CL Flt inB figB listB packB layerL layersL key brk disB disA disorder fullL gapL fault)
theorem searchL_mem {c:CL}:∀ {k:Nat} {now p:List Int},p∈searchL c k now→now.length+k=c.figs.length→(∀ x∈now,0≤x∧x<c.depth)→OkP c p∧fault c p=none
 | 0,now,p,h,hl,hr=>by
  simp only [searchL] at h
  split at h
  ·rename_i hf
   simp only [List.mem_singleton] at h
   subst h
   exact ⟨⟨by omega,hr⟩,by simpa using hf⟩
  ·cases h
 | k+1,now,p,h,hl,hr=>by
  simp only [searchL,List.mem_flatMap,List.mem_range] at h
  obtain ⟨n,hn,h⟩:=h
  split at h
  ·cases h
  ·refine searchL_mem h (by simp;omega) (fun x hx=>?_)
   rcases List.mem_append.1 hx with h1|h1
   ·exact hr x h1
   ·simp only [List.mem_singleton] at h1;subst h1;omega
theorem rightsL_mem {c:CL} {p:List Int} (h:p∈rightsL c):OkP c p∧fault c p=none:=searchL_mem h (by simp) (by simp)
theorem layersL_small {c:CL} {p:List Int} (hc:OkL c) (hp:OkP c p):∀ x∈p,inI (x+1):=fun x hx=>by
 have:=hp.rng x hx
 have:=hc.d1
 unfold inI;omega
def ltLay (a b:List Int):Bool:=decide (layersL a<layersL b)
theorem c50 (c:CL) (F P P2:PV) (p p2:List Int) (hc:OkL c) (hF:F.cells=[F]) (hp:OkP c p) (hp2:OkP c p2) (hP:SlOf 1 encI P p) (hP2:SlOf 1 encI P2 p2) (st:St):Cl EE (.func 50 [] []) [paPV c F P,paPV c F P2] st (.ret (.bool (ltLay p p2))) st:=by
 have hPc:=hP.cells
 have hPc2:=hP2.cells
 have:=hc.len
 have:=hp.len
 have:=hp2.len
 refine cF2 pr50 fn50 (fun tm hl h0 h1=>?_)
 refine go2 (bw3 hl h0 h1) (bw3 (c51 c F P p hF hP (by omega) (layersL_small hc hp)) (c51 c F P2 p2 hF hP2 (by omega) (layersL_small hc hp2)) fnil) ?_
 unfold ltLay
 exact fQ hl
def bestR (c:CL):List Int×Int×Int:=if listB c then (match bestF ltLay (rightsL c) with|some p=>(p,layersL p,0)|none=>([],0,5)) else ([],0,2)
theorem ints_low (l:List Int) (m:Nat):lowL m (l.flatMap encI)=true:=lowL_of (fun c hc=>encI_low l m c hc)
set_option maxHeartbeats 4000000 in
theorem c18 (c:CL) (F:PV) (hF:SlOf 3 encF F c.figs) (st:St):ClR EE (.func 18 [] []) [clPV c F] st (fun v st'=>∃ P,v = .tuple [P,iv (bestR c).2.1,iv (bestR c).2.2]∧RetW st (bestR c).1.length ((bestR c).1.flatMap encI) P st'):=by
 have hFc:=hF.cells
 have hFi:=hF.isCell
 refine cG1 pr18 fn18 (fun tm hl h0=>?_)
 cases hA:listB c
 ·have e:bestR c=([],0,2):=by simp [bestR,hA]
  rw [e]
  refine go2 (bw3 hl h0 hA) (bw (c47 c F hF) fnil) ?_
  refine fnr_ret (v := .tuple [.nilslice,iv 0,iv 2]) (by simp only [results,rdResL,rdRes_tmp];simp only [↓reduceIte,go_sem,hl]) ?_
  exact finish_slT rfl (by rfl) (by simp only [lo_push];omega) (fun m=>rfl)
 ·have hc:=OkL.of hA
  refine go2 (bw3 hl h0 hA) (bw3 (c47 c F hF) (c48 c F) fnil) ?_
  have hb1:hp ((({ heap:=st.heap,lo:=st.heap.length }:St).push (.var [iv c.room,iv c.depth,F])).push (.var [iv c.room,iv c.depth,F])) (st.heap.length+1)=some (.var [iv c.room,iv c.depth,F]):=by simp only [↓reduceIte,go_sem]
  refine cR hl (c49 c F hFc hFi 101 [] [.ptr (st.heap.length+1) 0] (.func 50 [] []) rfl (rightsL c) ltLay (fun l=>l=st.heap.length+1) _ (fun l h=>by subst h;simp only [len_push];omega) (fun st' hx=>iter129 hF hc (hx.hp hb1)) (fun st' _ x hx o ho vx vo ⟨P,e1,hP⟩ ⟨P2,e2,hP2⟩=>by subst e1;subst e2;exact c50 c F P P2 x o hc hFc (rightsL_mem hx).1 (rightsL_mem ho).1 hP hP2 st')) ?_
  rintro v st1 ⟨cs,rfl,hO,hk,hlo⟩
  simp only [lo_push] at hlo
  have hk1:=hk.1
  simp only [len_push] at hk1
  have hwf1:st1.lo≤st1.heap.length:=by omega
  cases hb:bestF ltLay (rightsL c) with
  | none =>
   have e:bestR c=([],0,5):=by simp [bestR,hA,hb]
   rw [e]
   rw [hb] at hO
   simp only [OutP] at hO
   subst hO
   refine go2 (bw4 hl @isS @isN hb) fnil ?_
   refine fnr_ret (v := .tuple [.nilslice,iv 0,iv 5]) (by simp only [results,rdResL,rdRes_tmp];simp only [↓reduceIte,go_sem,hl]) ?_
   exact finish_slT rfl (by rfl) (by simp only [lo_push,lo_setVar];omega) (fun m=>rfl)
  | some p =>
   have e:bestR c=(p,layersL p,0):=by simp [bestR,hA,hb]
   rw [e]
   rw [hb] at hO
   obtain ⟨P,rfl,hP⟩:=hO
   have hPc:=hP.cells
   have hPi:=hP.isCell
   have hlen:=hc.len
   have hp:=(rightsL_mem (bestF_mem ltLay (rightsL c) (Nat.le_refl _) (by rw [List.take_length];exact hb))).1
   have hpl:=hp.len
   refine go2 (bw6 hl @isS @isN hb hFi hPi) (bw (c51 c F P p hFc hP (by omega) (layersL_small hc hp)) fnil) ?_
   refine fnr_ret (v := .tuple [P,iv (layersL p),iv 0]) (by simp only [results,rdResL,rdRes_tmp];simp only [↓reduceIte,go_sem,hl]) ?_
   exact finish_slT hP.sl (by rfl) (by simp only [lo_push,lo_setVar];omega) (fun m=>ints_low p m)
set_option maxHeartbeats 4000000 in
theorem c17 (c:CL) (F:PV) (hF:SlOf 3 encF F c.figs) (hX:(rightsL c).length<1000000) (st:St):Cl EE (.func 17 [] []) [clPV c F] st (.ret (.tuple [iv (if listB c then (rightsL c).length else 0),iv (if listB c then 0 else 2)])) st:=by
 have hFc:=hF.cells
 refine cF1 pr17 fn17 (fun tm hl h0=>?_)
 cases hA:listB c
 ·simp only [Bool.false_eq_true,if_false]
  refine go2 (bw3 hl h0 hA) (bw (c47 c F hF) fnil) ?_
  exact fnq_tuple (by simp only [results,rdResL,rdRes_tmp];simp only [↓reduceIte,go_sem,hl]) (by simp only [lo_push];omega) (by rfl)
 ·have hc:=OkL.of hA
  simp only [if_true]
  refine go2 (bw3 hl h0 hA) (bw3 (c47 c F hF) (c48 c F) fnil) ?_
  apply wp_block
  refine wp_gen (fun tm1 s1=>tm1.length=14∧tg tm1 4 = .ptr (st.heap.length+1) 0∧tg tm1 9 = .func 101 [] [.ptr (st.heap.length+2) 0]∧s1.heap.length=st.heap.length+3∧st.heap.length≤s1.lo∧s1.lo≤s1.heap.length∧hp s1 (st.heap.length+1)=some (.var [iv 0])∧hp s1 (st.heap.length+2)=some (.var [iv c.room,iv c.depth,F]))
   ⟨(sG hl),(sG hl),(sG hl),(sG fnil),by simp only [lo_push,lo_setVar];omega,by simp only [lo_push,lo_setVar,len_push,len_setVar];omega,(sG fnil),(sG fnil)⟩ ?_
  rintro tm1 s1 ⟨hl1,q4,q9,hsl,hlo,hwf,z1,z2⟩
  refine wp_rangeF (X:=rightsL c) (Rep:=RepP c F) (priv:=fun l=>l=st.heap.length+2) (fun l=>l=st.heap.length+1) st.heap.length
   (fun i h=>h[st.heap.length+1]? = some (.var [iv i])) (fun _ _=>False) (sG q9) (iter129 hF hc ((HExt.push _ _).hp z2)) (fun l hl=>by omega) (fun l hl=>by omega) hlo hwf
   (fun i h h' a0 hx=>hx.var a0) (fun _ _ _ h _=>h) (fun i h s p s' p' a0 hL=>set_var a0 hL) (fun _ _ _ _ _ _ h _=>h) z1 ?_ ?_ (fun _ _ h=>h.elim)
  ·rintro i hi v st1 ⟨P,rfl,hP⟩ a0 he1 hwf1 hL
   refine ⟨_,setParams_one,?_⟩
   have lL:=hp_lt hL
   have a0':hp st1 (st.heap.length+1)=some (.var [iv i]):=a0
   have m0:=hp_lt a0'
   apply wp_skip
   refine ⟨rfl,.refl _,he1,hwf1,?_⟩
   have hw:IntKind.wrap .i64 ((i:Int)+1)=((i+1:Nat):Int):=wrap_in (by unfold inI;omega)
   have a1:∀ o,hp (setVar st1 s1.heap.length o) (st.heap.length+1)=some (.var [iv i]):=fun o=>hp_set_other a0' (by omega)
   refine go2 (bw5 hl1 q4 a1 hw (n4 m0)) fnil ?_
   refine ⟨hp_set_other (sG (n4 lL)) (by omega),⟨by simp only [len_setVar];exact Nat.le_refl _,fun l o ho _ hn=>hp_set_other (hp_set_other ho (fun h=>hn (.inr h))) (fun h=>hn (.inl h))⟩,by simp only [lo_setVar];omega,by simp only [lo_setVar,len_setVar];omega,?_⟩
   have:∀ o,hp (setVar (setVar st1 s1.heap.length o) (st.heap.length+1) (.var [iv ((i+1:Nat):Int)])) (st.heap.length+1)=some (.var [iv ((i+1:Nat):Int)]):=fun o=>by simp only [↓reduceIte,go_sem,n4 m0]
   exact this _
  ·rintro s2 a0 hk2 he2 hwf2
   have a0':hp s2 (st.heap.length+1)=some (.var [iv (rightsL c).length]):=a0
   apply inBlock_normal
   refine go2 (bw3 hl1 q4 a0') fnil ?_
   exact fnq_tuple (by simp only [results,rdResL,rdRes_tmp];simp only [↓reduceIte,go_sem,hl1]) he2 (by rfl)
end Go.Den.Tp
end
section
namespace Go.Den.Tp
open Go.Den.Ch (Fig CL Flt inB figB listB packB layerL layersL key brk disB disA disorder fullL gapL fault)
def hasI (l:List Int) (x:Int):Bool:=l.any fun a=>x==a
def lowestL (p fs:List Int):Int:=fs.foldl (fun n k=>max n (p.getD k.toNat 0)) (-1)
def castL (l:List Nat):List Int:=l.map fun (i:Nat)=>(i:Int)
def outP (p fs:List Int) (i:Nat):Bool:=decide (p.getD i 0<lowestL p fs)&&!hasI fs i
def outL (p fs:List Int):List Int:=castL ((List.range p.length).filter (outP p fs))
def wantP (c:CL) (e:Int) (i:Nat):Bool:=match c.figs[i]? with
 | some f=>f.eve==e
 | none=>false
def wantL (c:CL) (e:Int):List Int:=castL ((List.range c.figs.length).filter (wantP c e))
def troubleT (c:CL) (p:List Int) (n:Nat):Int:=((List.range n).map fun (e:Nat)=>((outL p (wantL c e)).length:Int)).sum
def troubleL (c:CL) (p:List Int):Int:=troubleT c p 6
theorem castL_succ (P:Nat→Bool) (i:Nat):castL ((List.range (i+1)).filter P)=castL ((List.range i).filter P)++(if P i then [(i:Int)] else []):=by
 rw [List.range_succ,List.filter_append,castL,castL,List.map_append]
 cases h:P i <;> simp [h]
theorem castL_len (P:Nat→Bool) (i:Nat):(castL ((List.range i).filter P)).length≤i:=by
 rw [castL,List.length_map]
 have:=List.length_filter_le P (List.range i)
 simpa using this
theorem c124 (F:PV) (l:List Int) (hF:SlOf 1 encI F l) (hN:l.length<1000) (x:Int) (st:St):Cl EE (.func 124 [] []) [F,iv x] st (.ret (iv (idxI (fun a=>x==a) l))) st:=by
 refine cF2 pr124 fn124 (fun tm hl h0 h1=>?_)
 have hs:=hF.slen
 refine go2 (bw4 hl h0 h1 hs) fnil ?_
 refine wp_range l.length [] (fun i vs st'=>st'={ heap:=st.heap,lo:=st.heap.length }∧∀ k (hk:k<i) (hl:k<l.length),(x==l[k])=false) (by omega) (sG hl) (sG hl) (sG hl) (by decide) ⟨rfl,fun k hk=>absurd hk (by omega)⟩ ?_ ?_
 ·rintro i hi tm1 st1 ⟨rfl,hk⟩ hS hia
  have hl1:tm1.length=19:=lN hS hl;have i0:tg tm1 0=F:=tQ hS (bw3 hl h0 h1);have i1:tg tm1 1=iv x:=tQ hS (bw3 hl h0 h1);clear hS
  cases hp:(x==l[i])
  ·refine go2 (bw5 hl1 i0 i1 hia hp) fnil ?_
   refine ⟨rfl,fun k hk1 hk2=>?_⟩
   by_cases hki:k=i
   ·subst hki;exact hp
   ·exact hk k (by omega) hk2
  ·rw [idxI_at hi (fun k hk1=>hk k hk1 (by omega)) hp]
   refine go2 (bw5 hl1 i0 i1 hia hp) fnil ?_
   exact fQ hl1
 ·rintro tm1 st1 ⟨rfl,hk⟩ hS
  have hl1:tm1.length=19:=lN hS hl;clear hS
  rw [idxI_no (fun k hk1=>hk k hk1 hk1)]
  refine go2 hl1 fnil ?_
  exact fQ hl1
theorem c89 (F:PV) (l:List Int) (hF:SlOf 1 encI F l) (hN:l.length<1000) (x:Int) (st:St):Cl EE (.func 89 [] []) [F,iv x] st (.ret (.bool (hasI l x))) st:=by
 refine cF2 pr89 fn89 (fun tm hl h0 h1=>?_)
 rw [hasI,← idxI_ge]
 refine go2 (bw3 hl h0 h1) (bw (c124 F l hF hN x) fnil) ?_
 exact fQ hl
theorem lowestL_take {p fs:List Int} {i:Nat} (h:i<fs.length):lowestL p (fs.take (i+1))=max (lowestL p (fs.take i)) (p.getD fs[i].toNat 0):=by
 rw [List.take_succ_eq_append_getElem h,lowestL,List.foldl_append];rfl
def OkF (n:Nat) (fs:List Int):Prop:=∀ x∈fs,0≤x∧x<n
set_option maxHeartbeats 4000000 in
theorem c110 (c:CL) (F P G:PV) (p fs:List Int) (hF:F.cells=[F]) (hP:SlOf 1 encI P p) (hG:SlOf 1 encI G fs) (hp:p.length<1000) (hg:fs.length<1000) (hfs:OkF p.length fs) (st:St):ClR EE (.func 110 [] []) [paPV c F P,G] st (RetS st 1 (outL p fs).length ((outL p fs).flatMap encI)):=by
 have hPc:=hP.cells
 have hPs:=hP.slen
 have hGs:=hG.slen
 refine cG2 pr110 fn110 (fun tm hl h0 h1=>?_)
 refine go2 (bw4 hl h0 h1 hGs) fnil ?_
 refine wp_range fs.length [5] (fun i vs st'=>vs=[iv (lowestL p (fs.take i))]∧st'=(({ heap:=st.heap,lo:=st.heap.length }:St).push (.var [iv c.room,iv c.depth,F,P]))) (by omega) (sG hl) (sG hl) (sG hl) (by decide) ⟨(sR hl),(sG fnil)⟩ ?_ ?_
 ·rintro i hi tm1 st1 ⟨hv,rfl⟩ hS hia
  simp only [List.map_cons,List.map_nil,List.cons.injEq,and_true] at hv
  have hl1:tm1.length=48:=lN hS hl;have i2:tg tm1 2 = .ptr st.heap.length 0:=tQ hS (bw hl h1);have i11:tg tm1 11=G:=tQ hS (bw hl h1);clear hS
  have hr:=hfs _ (List.getElem_mem hi)
  refine go2 (bw6 hl1 i2 i11 hia hv @mm2) fnil ?_
  refine ⟨?_,rfl⟩
  simp only [↓reduceIte,go_sem,hl1]
  rw [lowestL_take hi,List.getD_eq_getElem?_getD,List.getElem?_eq_getElem (by omega)]
  rfl
 ·rintro tm1 st1 ⟨hv,rfl⟩ hS
  simp only [List.map_cons,List.map_nil,List.cons.injEq,and_true,List.take_length] at hv
  have hl1:tm1.length=48:=lN hS hl;have i1:tg tm1 1=G:=tQ hS (bw hl h1);have i2:tg tm1 2 = .ptr st.heap.length 0:=tQ hS (bw hl h1);clear hS
  refine go2 (bw3 hl1 i2 hPs) fnil ?_
  refine wp_range p.length [8] (fun i vs st'=>∃ v,vs=[v]∧OwnS st.heap.length st' 1 v (castL ((List.range i).filter (outP p fs))).length ((castL ((List.range i).filter (outP p fs))).flatMap encI)∧st.heap.length≤st'.lo∧st.heap.length≤st'.heap.length) (by omega) (sG hl1) (sG hl1) (sG hl1) (by decide) ⟨_,(sG hl1),.nil,by simp [lo_push],by simp [len_push]⟩ ?_ ?_
  ·rintro i hi tm2 st2 ⟨v,hv2,hO,hlo,hwf⟩ hS hia
   simp only [List.map_cons,List.map_nil,List.cons.injEq,and_true] at hv2
   have hl2:tm2.length=48:=lN hS hl1;have j1:tg tm2 1=G:=tQ hS (bw3 hl1 i1 hv);have j5:tg tm2 5=iv (lowestL p fs):=tQ hS (bw3 hl1 i1 hv);have j26:tg tm2 26=P:=tQ hS (bw3 hl1 i1 hv);clear hS
   rw [castL_succ]
   have hget:p.getD i 0=p[i]:=by rw [List.getD_eq_getElem?_getD,List.getElem?_eq_getElem hi];rfl
   have hll:=castL_len (outP p fs) i
   cases hx:decide (p[i]<lowestL p fs)
   ·have ho:outP p fs i=false:=by simp only [outP,hget,hx,Bool.false_and]
    refine go2 (bw7 hl2 j1 j5 j26 hia hv2 hx) fnil ?_
    exact ⟨v,(sG (bw hl2 hv2)),by simpa [ho] using hO,hlo,hwf⟩
   ·cases hy:hasI fs (i:Int)
    ·have ho:outP p fs i=true:=by simp only [outP,hget,hx,hy,Bool.not_false,Bool.and_self]
     refine go2 (bw8 hl2 j1 j5 j26 hia hv2 hx hy) (bw (c89 G fs hG hg) fnil) ?_
     refine aP (bw hl2 hv2) (hO.push) ?_
     intro v' st3 hO' hFr hk
     refine go2 hl2 fnil ?_
     refine ⟨v',(sG hl2),by simpa [ho,share_int] using hO',?_,?_⟩
     ·have:=hFr.lo
      simp only [lo_push] at this
      omega
     ·have:=hFr.len
      simp only [len_push] at this
      omega
    ·have ho:outP p fs i=false:=by simp only [outP,hget,hx,hy,Bool.not_true,Bool.and_false]
     refine go2 (bw8 hl2 j1 j5 j26 hia hv2 hx hy) (bw (c89 G fs hG hg) fnil) ?_
     exact ⟨v,(sG (bw hl2 hv2)),by simpa [ho] using hO,hlo,hwf⟩
  ·rintro tm2 st2 ⟨v,hv2,hO,hlo,hwf⟩ hS
   simp only [List.map_cons,List.map_nil,List.cons.injEq,and_true] at hv2
   have hl2:tm2.length=48:=lN hS hl1;clear hS
   refine go2 (bw hl2 hv2) fnil ?_
   exact fnr_ret (results_one (v:=v) (by rw [rdRes_tmp];simp only [↓reduceIte,go_sem,hl2])) (hO.finish hlo (fun m c hc=>encI_low _ m c hc))
end Go.Den.Tp
end
section
namespace Go.Den.Tp
open Go.Den.Ch (Fig CL Flt inB figB listB packB layerL layersL key brk disB disA disorder fullL gapL fault)
attribute [go_sem] undef
theorem mem_castL {l:List Nat} {x:Int} (h:x∈castL l):∃ k:Nat,k∈l∧x=k:=by
 simp only [castL,List.mem_map] at h
 obtain ⟨k,hk,rfl⟩:=h
 exact ⟨k,hk,rfl⟩
theorem wantL_ok (c:CL) (e:Int):OkF c.figs.length (wantL c e):=by
 intro x hx
 obtain ⟨k,hk,rfl⟩:=mem_castL hx
 simp only [List.mem_filter,List.mem_range] at hk
 omega
theorem troubleT_succ (c:CL) (p:List Int) (n:Nat):troubleT c p (n+1)=troubleT c p n+(outL p (wantL c n)).length:=by
 rw [troubleT,List.range_succ,List.map_append,List.sum_append_int];simp [troubleT]
theorem troubleT_bound (c:CL) (p:List Int) (n:Nat):0≤troubleT c p n∧troubleT c p n≤n*p.length:=by
 induction n with
 | zero=>simp [troubleT]
 | succ n ih =>
  rw [troubleT_succ]
  have:(outL p (wantL c n)).length≤p.length:=castL_len _ _
  have e:((n+1:Nat):Int)*p.length=n*p.length+p.length:=by rw [Int.natCast_add,Int.add_mul];simp
  omega
set_option maxHeartbeats 4000000 in
theorem c66 (c:CL) (F P:PV) (p:List Int) (hF:SlOf 3 encF F c.figs) (hP:SlOf 1 encI P p) (hN:c.figs.length≤6) (hpl:p.length=c.figs.length) (st:St):Cl EE (.func 66 [] []) [paPV c F P] st (.ret (iv (troubleL c p))) st:=by
 have hFs:=hF.slen
 have hFc:=hF.cells
 have hPc:=hP.cells
 refine cF1 pr66 fn66 (fun tm hl h0=>?_)
 refine go2 (bw hl h0) fnil ?_
 refine wp_range 6 [3] (fun i vs st'=>vs=[iv (troubleT c p i)]∧st.heap.length≤st'.lo∧st'.lo≤st'.heap.length∧hp st' st.heap.length=some (.var [iv c.room,iv c.depth,F,P])) (by omega) (sG hl) (by rfl) (sG hl) (by decide) ⟨(sR hl),by simp [lo_push],by simp only [lo_push,len_push];omega,(sG fnil)⟩ ?_ ?_
 ·rintro i hi tm1 st1 ⟨hv,hlo,hwf,hb⟩ hS hia
  simp only [List.map_cons,List.map_nil,List.cons.injEq,and_true] at hv
  have hl1:tm1.length=37:=lN hS hl;have i1:tg tm1 1 = .ptr st.heap.length 0:=tQ hS (bw hl h0);clear hS
  have lb:=hp_lt hb
  refine go2 (bw6 hl1 i1 hia hb hFs (n4 lb)) fnil ?_
  refine wp_range c.figs.length [5] (fun k vs st'=>∃ v,vs=[v]∧OwnS st.heap.length st' 1 v (castL ((List.range k).filter (wantP c i))).length ((castL ((List.range k).filter (wantP c i))).flatMap encI)∧st.heap.length≤st'.lo∧st'.lo≤st'.heap.length∧hp st' st.heap.length=some (.var [iv c.room,iv c.depth,F,P])) (by omega) (sG hl1) (sG hl1) (sG hl1) (by decide) ⟨_,(sG hl1),.nil,hlo,hwf,hb⟩ ?_ ?_
  ·clear hb hlo hwf
   rintro k hk tm2 st2 ⟨v,hv2,hO,hlo,hwf,hb⟩ hS hka
   simp only [List.map_cons,List.map_nil,List.cons.injEq,and_true] at hv2
   have hl2:tm2.length=37:=lN hS hl1;have j4:tg tm2 4=iv i:=tQ hS (bw3 hl1 i1 hia);have j13:tg tm2 13=F:=tQ hS (bw3 hl1 i1 hia);clear hS
   have lb:=hp_lt hb
   rw [castL_succ]
   have hll:=castL_len (wantP c i) k
   have hget:wantP c i k=(c.figs[k].eve==(i:Int)):=by simp only [wantP,List.getElem?_eq_getElem hk]
   cases hx:(c.figs[k].eve==(i:Int))
   ·rw [hx] at hget
    refine go2 (bw8 hl2 j4 j13 hka hv2 hx hb (n4 lb)) fnil ?_
    refine ⟨v,(sG (bw hl2 hv2)),?_,by simp only [lo_push,lo_setVar];omega,by simp only [lo_push,lo_setVar,len_push,len_setVar];omega,(sG (bw hb (n4 lb)))⟩
    simpa [hget] using hO.push.setVar (by simp [hp_push])
   ·rw [hx] at hget
    refine go2 (bw8 hl2 j4 j13 hka hv2 hx hb (n4 lb)) fnil ?_
    refine aP (bw hl2 hv2) ((hO.push.setVar (by simp [hp_push])).push) ?_
    intro v' st3 hO' hFr hk3
    have f1:=hFr.lo
    have f2:=hFr.up
    have f3:=hFr.len
    simp only [lo_push,lo_setVar,len_push,len_setVar] at f1 f2 f3
    refine go2 hl2 fnil ?_
    refine ⟨v',(sG hl2),by simpa [hget,share_int] using hO',by omega,by omega,hk3 _ _ (sG (bw hb (n4 lb))) (by simp)⟩
  ·clear hb hlo hwf
   rintro tm2 st2 ⟨v,hv2,hO,hlo,hwf,hb⟩ hS
   simp only [List.map_cons,List.map_nil,List.cons.injEq,and_true] at hv2
   have hl2:tm2.length=37:=lN hS hl1;have j1:tg tm2 1 = .ptr st.heap.length 0:=tQ hS (bw3 hl1 i1 hv);have j3:tg tm2 3=iv (troubleT c p i):=tQ hS (bw3 hl1 i1 hv);clear hS
   have hw:=troubleT_bound c p (i+1)
   have hsl:SlOf 1 encI v (wantL c i):=SlOf.of_sl hO.sl rfl rfl (fun _=>rfl)
   have hwl:=castL_len (wantP c i) c.figs.length
   refine go2 (bw5 hl2 j1 j3 hv2 hb) fnil ?_
   refine cR (bw hl2 hv2) (c110 c F P v p (wantL c i) hFc hP hsl (by omega) (by have:(wantL c i).length≤c.figs.length:=hwl;omega) (by rw [hpl];exact wantL_ok c i) _) ?_
   intro u st3 hR
   have hwr:IntKind.wrap .i64 (troubleT c p i+((outL p (wantL c i)).length:Int))=troubleT c p (i+1):=by
    rw [← troubleT_succ]
    refine wrap_in ?_
    have e1:((i+1:Nat):Int)*p.length≤36:=by
     have:((i+1)*p.length:Nat)≤6*6:=Nat.mul_le_mul (by omega) (by omega)
     have e2:(((i+1)*p.length:Nat):Int)=((i+1:Nat):Int)*p.length:=Int.natCast_mul _ _
     omega
    unfold inI;omega
   have hus:=(slI hR).slen
   have r1:=hR.lo
   have r2:=hR.len
   refine go2 (bw4 hl2 j3 hus hwr) fnil ?_
   exact ⟨(sG hl2),by omega,by omega,hR.hp hb⟩
 ·rintro tm1 st1 ⟨hv,hlo,hwf,hb⟩ hS
  simp only [List.map_cons,List.map_nil,List.cons.injEq,and_true] at hv
  have hl1:tm1.length=37:=lN hS hl;clear hS
  refine go2 (bw hl1 hv) fnil ?_
  exact fnq_flat (results_one (by rw [rdRes_tmp];simp only [↓reduceIte,go_sem,hl1];rfl)) hlo (by rfl)
def ltTr (c:CL) (a b:List Int):Bool:=decide (troubleL c a<troubleL c b)
theorem c65 (c:CL) (F P P2:PV) (p p2:List Int) (hc:OkL c) (hF:SlOf 3 encF F c.figs) (hp:OkP c p) (hp2:OkP c p2) (hP:SlOf 1 encI P p) (hP2:SlOf 1 encI P2 p2) (st:St):Cl EE (.func 65 [] []) [paPV c F P,paPV c F P2] st (.ret (.bool (ltTr c p p2))) st:=by
 have hFc:=hF.cells
 have hPc:=hP.cells
 have hPc2:=hP2.cells
 refine cF2 pr65 fn65 (fun tm hl h0 h1=>?_)
 refine go2 (bw3 hl h0 h1) (bw3 (c66 c F P p hF hP hc.len hp.len) (c66 c F P2 p2 hF hP2 hc.len hp2.len) fnil) ?_
 unfold ltTr
 exact fQ hl
def easeR (c:CL):List Int×Int×Int:=if listB c then (match bestF (ltTr c) (rightsL c) with|some p=>(p,troubleL c p,0)|none=>([],0,5)) else ([],0,2)
set_option maxHeartbeats 4000000 in
theorem c26 (c:CL) (F:PV) (hF:SlOf 3 encF F c.figs) (st:St):ClR EE (.func 26 [] []) [clPV c F] st (fun v st'=>∃ P,v = .tuple [P,iv (easeR c).2.1,iv (easeR c).2.2]∧RetW st (easeR c).1.length ((easeR c).1.flatMap encI) P st'):=by
 have hFc:=hF.cells
 have hFi:=hF.isCell
 refine cG1 pr26 fn26 (fun tm hl h0=>?_)
 cases hA:listB c
 ·have e:easeR c=([],0,2):=by simp [easeR,hA]
  rw [e]
  refine go2 (bw3 hl h0 hA) (bw (c47 c F hF) fnil) ?_
  refine fnr_ret (v := .tuple [.nilslice,iv 0,iv 2]) (by simp only [results,rdResL,rdRes_tmp];simp only [↓reduceIte,go_sem,hl]) ?_
  exact finish_slT rfl (by rfl) (by simp only [lo_push];omega) (fun m=>rfl)
 ·have hc:=OkL.of hA
  refine go2 (bw3 hl h0 hA) (bw3 (c47 c F hF) (c48 c F) fnil) ?_
  have hb1:hp ((({ heap:=st.heap,lo:=st.heap.length }:St).push (.var [iv c.room,iv c.depth,F])).push (.var [iv c.room,iv c.depth,F])) (st.heap.length+1)=some (.var [iv c.room,iv c.depth,F]):=by simp only [↓reduceIte,go_sem]
  refine cR hl (c49 c F hFc hFi 101 [] [.ptr (st.heap.length+1) 0] (.func 65 [] []) rfl (rightsL c) (ltTr c) (fun l=>l=st.heap.length+1) _ (fun l h=>by subst h;simp only [len_push];omega) (fun st' hx=>iter129 hF hc (hx.hp hb1)) (fun st' _ x hx o ho vx vo ⟨P,e1,hP⟩ ⟨P2,e2,hP2⟩=>by subst e1;subst e2;exact c65 c F P P2 x o hc hF (rightsL_mem hx).1 (rightsL_mem ho).1 hP hP2 st')) ?_
  rintro v st1 ⟨cs,rfl,hO,hk,hlo⟩
  simp only [lo_push] at hlo
  have hk1:=hk.1
  simp only [len_push] at hk1
  have hwf1:st1.lo≤st1.heap.length:=by omega
  cases hb:bestF (ltTr c) (rightsL c) with
  | none =>
   have e:easeR c=([],0,5):=by simp [easeR,hA,hb]
   rw [e]
   rw [hb] at hO
   simp only [OutP] at hO
   subst hO
   refine go2 (bw4 hl @isS @isN hb) fnil ?_
   refine fnr_ret (v := .tuple [.nilslice,iv 0,iv 5]) (by simp only [results,rdResL,rdRes_tmp];simp only [↓reduceIte,go_sem,hl]) ?_
   exact finish_slT rfl (by rfl) (by simp only [lo_push,lo_setVar];omega) (fun m=>rfl)
  | some p =>
   have e:easeR c=(p,troubleL c p,0):=by simp [easeR,hA,hb]
   rw [e]
   rw [hb] at hO
   obtain ⟨P,rfl,hP⟩:=hO
   have hPc:=hP.cells
   have hPi:=hP.isCell
   have hlen:=hc.len
   have hp:=(rightsL_mem (bestF_mem (ltTr c) (rightsL c) (Nat.le_refl _) (by rw [List.take_length];exact hb))).1
   have hpl:=hp.len
   refine go2 (bw6 hl @isS @isN hb hFi hPi) (bw (c66 c F P p hF hP hlen hpl) fnil) ?_
   refine fnr_ret (v := .tuple [P,iv (troubleL c p),iv 0]) (by simp only [results,rdResL,rdRes_tmp];simp only [↓reduceIte,go_sem,hl]) ?_
   exact finish_slT hP.sl (by rfl) (by simp only [lo_push,lo_setVar];omega) (fun m=>ints_low p m)
def movP (p q:List Int) (i:Nat):Bool:=p.getD i 0 != q.getD i 0
def movedL (p q:List Int):Int:=(((List.range q.length).filter (movP p q)).length:Int)
def riseP (n:Nat) (l:List Int) (i:Nat):Bool:=inB (l.getD i 0) 0 ((n:Int) - 1)&&!(decide (0<i)&&decide (l.getD i 0≤l.getD (i - 1) 0))
def risingB (n:Nat) (l:List Int):Bool:=(List.range l.length).all (riseP n l)
end Go.Den.Tp
end

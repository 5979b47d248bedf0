/- Part of the proofs of laws of the package version. Texts: VnV, VnW, VnX, VnY. -/
import Derived.Test.YtehdcjbdhkkipaaGreatDoorVJAg
set_option linter.unusedSimpArgs false
set_option linter.unusedVariables false
section
namespace Go.Den.Ve
theorem climb_snoc (tree:List Int):∀ (k:Nat) (x:Int),climbL tree (k+1) x=if 0≤climbL tree k x then tree.getD (climbL tree k x).toNat 0 else climbL tree k x
 | 0,x=>by simp [climbL]
 | k+1,x=>by
  have ih:=climb_snoc tree k (if 0≤x then tree.getD x.toNat 0 else x)
  rw [climbL,ih]
  rfl
theorem climb_in {tree:List Int} {n:Nat} (hn:tree.length=n) (h:∀ x∈tree,-1≤x∧x<n):∀ (k:Nat) (x:Int),-1≤x→x<n → -1≤climbL tree k x∧climbL tree k x<n
 | 0,x,h1,h2=>⟨h1,h2⟩
 | k+1,x,h1,h2=>by
  rw [climbL]
  have : -1≤(if 0≤x then tree.getD x.toNat 0 else x)∧(if 0≤x then tree.getD x.toNat 0 else x)<n:=by
   split
   ·rw [List.getD_eq_getElem?_getD,List.getElem?_eq_getElem (by omega)]
    exact h _ (List.getElem_mem _)
   ·omega
  exact climb_in hn h k _ this.1 this.2
abbrev circX (x:Int):PV := .iface 199 (.agg [.int .i64 x])
theorem c150 (P:PV) (tr:List Int) (hP:SlOf 1 encI P tr) (hN:tr.length<1000000) (h:∀ x∈tr,-1≤x∧x<tr.length) (i:Nat) (hi:i<tr.length) (st:St) (hwf:st.lo≤st.heap.length):ClA EE (.func 150 [] []) [P,iv i] st (fun r st'=>st'=st∧((climbL tr tr.length i<0∧r = .ret (.tuple []))∨(0≤climbL tr tr.length i∧r = .panic (circX i)))):=by
 have hPs:=hP.slen
 refine cA2 pr150 fn150 (fun tm hl h0 h1=>?_)
 refine go2 (bw4 hl h0 h1 hPs) fnil ?_
 refine wp_range tr.length [4] (fun k vs st'=>vs=[iv (climbL tr k i)]∧st'={ heap:=st.heap,lo:=st.heap.length }) (by omega) (sG hl) (sG hl) (sG hl) (by decide) ⟨(sR hl),rfl⟩ ?_ ?_
 ·rintro k hk tm1 st1 ⟨hv,rfl⟩ hS hka
  simp only [List.map_cons,List.map_nil,List.cons.injEq,and_true] at hv
  have hl1:tm1.length=22:=lN hS hl;have j0:tg tm1 0=P:=tQ hS (bw hl h0);clear hS
  have hc:=climb_in rfl h k i (by omega) (by omega)
  have hs:=climb_snoc tr k i
  by_cases h0':0≤climbL tr k i
  ·obtain ⟨m,hm⟩:∃ m:Nat,climbL tr k i=(m:Int):=⟨(climbL tr k i).toNat,by omega⟩
   have hml:m<tr.length:=by omega
   have e:tr.getD m 0=tr[m]:=by rw [List.getD_eq_getElem?_getD,List.getElem?_eq_getElem hml];rfl
   rw [hm] at hv
   rw [if_pos h0',hm,Int.toNat_natCast,e] at hs
   have hd:decide ((m:Int)≥0)=true:=by simp
   refine go2 (bw4 hl1 j0 hv hd) fnil ?_
   exact ⟨by simp only [↓reduceIte,go_sem,hl1];rw [hs],rfl⟩
  ·have hd:decide (climbL tr k i≥0)=false:=by simp;omega
   rw [if_neg h0'] at hs
   refine go2 (bw4 hl1 j0 hv hd) fnil ?_
   exact ⟨by simp only [↓reduceIte,go_sem,hl1,hv];rw [hs],rfl⟩
 ·rintro tm1 st1 ⟨hv,rfl⟩ hS
  simp only [List.map_cons,List.map_nil,List.cons.injEq,and_true] at hv
  have hl1:tm1.length=22:=lN hS hl;have j1:tg tm1 1=iv i:=tQ hS (bw hl h1);clear hS
  by_cases h0':0≤climbL tr tr.length i
  ·have hd:decide (climbL tr tr.length i≥0)=true:=by simp;omega
   refine go2 (bw4 hl1 j1 hv hd) fnil ?_
   refine fna_panic ⟨?_,.inr ⟨h0',rfl⟩⟩
   simp only [Nat.min_eq_left hwf]
  ·have hd:decide (climbL tr tr.length i≥0)=false:=by simp;omega
   refine go2 (bw4 hl1 j1 hv hd) fnil ?_
   refine fna_normal results_nil ?_
   rw [finish_tuple (Nat.le_refl _) (by rfl)]
   exact ⟨rfl,.inl ⟨by omega,rfl⟩⟩
theorem c149 (P:PV) (tr:List Int) (hP:SlOf 1 encI P tr) (hN:tr.length<1000000) (h:∀ x∈tr,-1≤x∧x<tr.length) (st:St) (hwf:st.lo≤st.heap.length) (a:Nat) (ha:hp st a=some (.var [P])):ClA EE (.func 149 [] [.ptr a 0]) [] st (fun r st'=>st'=st∧(((∀ i,i<tr.length→climbL tr tr.length i<0)∧r = .ret (.tuple []))∨∃ i:Nat,i<tr.length∧0≤climbL tr tr.length i∧r = .panic (circX i))):=by
 have hPs:=hP.slen
 have ha':hp { heap:=st.heap,lo:=st.heap.length } a=some (.var [P]):=ha
 refine cA1 pr149 fn149 (fun tm hl h0=>?_)
 refine go2 (bw4 hl h0 hPs ha') fnil ?_
 refine wp_range tr.length [] (fun k vs st'=>(∀ i,i<k→climbL tr tr.length i<0)∧st'={ heap:=st.heap,lo:=st.heap.length }) (by omega) (sG hl) (sG hl) (sG hl) (by decide) ⟨fun i hi=>absurd hi (by omega),rfl⟩ ?_ ?_
 ·rintro k hk tm1 st1 ⟨hv,rfl⟩ hS hka
  have hl1:tm1.length=11:=lN hS hl;have j0:tg tm1 0 = .ptr a 0:=tQ hS (bw hl h0);clear hS
  refine go2 (bw4 hl1 j0 ha' hka) fnil ?_
  refine wops_callA rfl rfl (sR hl1) (by simp only [↓reduceIte,go_sem,hl1,j0,ha'];exact c150 P tr hP hN h k hk _ (Nat.le_refl _)) ?_ ?_
  ·rintro v9 st9 ⟨rfl,⟨h1,h2⟩|⟨h1,h2⟩⟩
   ·cases h2
    refine go2 hl1 fnil ?_
    refine ⟨fun i hi=>?_,rfl⟩
    rcases Nat.lt_succ_iff_lt_or_eq.1 hi with e|rfl
    ·exact hv i e
    ·exact h1
   ·cases h2
  ·rintro v9 st9 ⟨rfl,⟨h1,h2⟩|⟨h1,h2⟩⟩
   ·cases h2
   ·cases h2
    refine go2 fnil fnil ?_
    refine fna_panic ⟨?_,.inr ⟨k,hk,h1,rfl⟩⟩
    simp only [Nat.min_eq_left hwf]
 ·rintro tm1 st1 ⟨hv,rfl⟩ hS
  refine go2 fnil fnil ?_
  refine fna_normal results_nil ?_
  rw [finish_tuple (Nat.le_refl _) (by rfl)]
  exact ⟨rfl,.inl ⟨hv,rfl⟩⟩
theorem c122 {dg:Nat} {da dc:List PV} {st st':St} {r:CR} {v:PV} (h:Cl EE (.func dg da dc) [] st r st') (hr:∀ rec:Rec,rec.call (.func dg da dc) [] st=some (r,st')→tryR rec (.func dg da dc) st=some (some (.ret v,st'))):Cl EE (.func 122 [] []) [.func dg da dc] st (.ret v) st':=by
 obtain ⟨N,hN⟩:=h
 refine ⟨N+1,fun n hn=>?_⟩
 obtain ⟨m,rfl⟩:∃ m,n=m+1:=⟨n - 1,by omega⟩
 have h1:=hr (run EE m) (hN m (by omega))
 show stepCall EE (run EE m) (.func 122 [] []) [.func dg da dc] st=_
 have h2:EE.prim 122 (run EE m) ([]++[.func dg da dc]++[]) st=tryR (run EE m) (.func dg da dc) st:=rfl
 simp only [stepCall,enter,h2,h1]
theorem c122_ret {dg:Nat} {da dc:List PV} {st st':St} {v:PV} (h:Cl EE (.func dg da dc) [] st (.ret v) st'):Cl EE (.func 122 [] []) [.func dg da dc] st (.ret (iv 0)) st' :=
 c122 h (fun rec hr=>by simp only [tryR,hr])
theorem c122_circ {dg:Nat} {da dc:List PV} {st st':St} {x:Int} (h:Cl EE (.func dg da dc) [] st (.panic (circX x)) st'):Cl EE (.func 122 [] []) [.func dg da dc] st (.ret (iv 2)) st' :=
 c122 h (fun rec hr=>by simp only [tryR,hr])
theorem c122_none {dg:Nat} {da dc:List PV} {st st':St} {s:ByteArray} (h:Cl EE (.func dg da dc) [] st (.panic (.iface 201 (.agg [.str s]))) st'):Cl EE (.func 122 [] []) [.func dg da dc] st (.ret (iv 4)) st' :=
 c122 h (fun rec hr=>by simp only [tryR,hr])
theorem c122_tree (P:PV) (tr:List Int) (hP:SlOf 1 encI P tr) (hN:tr.length<1000000) (h:∀ x∈tr,-1≤x∧x<tr.length) (st:St) (hwf:st.lo≤st.heap.length) (a:Nat) (ha:hp st a=some (.var [P])):Cl EE (.func 122 [] []) [.func 149 [] [.ptr a 0]] st (.ret (iv (if (List.range tr.length).all (fun i=>decide (climbL tr tr.length i<0)) then 0 else 2))) st:=by
 obtain ⟨r,st',hc,rfl,⟨h1,rfl⟩|⟨i,hi,h1,rfl⟩⟩:=c149 P tr hP hN h st hwf a ha
 ·rw [if_pos (by simp only [List.all_eq_true,List.mem_range,decide_eq_true_eq];exact h1)]
  exact c122_ret hc
 ·rw [if_neg (by simp only [List.all_eq_true,List.mem_range,decide_eq_true_eq];intro h2;have:=h2 i hi;omega)]
  exact c122_circ hc
def badP (n:Nat) (x:Int):Bool:=x != -1&&!inN x 0 ((n:Int) - 1)
theorem c148 (b:BP) (h:b.cs.length<1000000) (x:Int) (st:St) (a:Nat) (ha:hp st a=some (.var [iv b.words,b.v])):Cl EE (.func 148 [] [.ptr a 0]) [iv x] st (.ret (.bool (badP b.cs.length x))) st:=by
 have ha':hp { heap:=st.heap,lo:=st.heap.length } a=some (.var [iv b.words,b.v]):=ha
 have k98:=fun st=>c98 b h x st
 refine cF2 pr148 fn148 (fun tm hl h0 h1=>?_)
 unfold badP
 cases hd:x != -1
 ·refine go2 (bw4 hl h0 h1 hd) fnil ?_
  exact fQ hl
 ·refine go2 (bw5 hl h0 h1 hd ha') (bw k98 fnil) ?_
  exact fQ hl
theorem tree_split (n:Nat) (tr:List Int):treeB n tr=(decide (tr.length=n)&&(!(tr.any (badP n))&&(List.range n).all fun i=>decide (climbL tr n i<0))):=by
 unfold treeB
 congr 2
 rw [List.not_any_eq_all_not]
 congr 1
 funext x
 unfold badP inN
 rw [Bool.eq_iff_iff]
 simp
 omega
set_option maxHeartbeats 4000000 in
theorem c115 (b:BP) (h:b.cs.length<1000000) (P:PV) (tr:List Int) (hP:SlOf 1 encI P tr) (st:St):Cl EE (.func 115 [] []) [b.pv,P] st (.ret (.bool (treeB b.cs.length tr))) st:=by
 have hPs:=hP.slen
 have hPc:=hP.cells
 have hB:=b.h
 rw [tree_split]
 refine cF2 pr115 fn115 (fun tm hl h0 h1=>?_)
 by_cases hn:tr.length=b.cs.length
 ·have k133:=fun (st:St) hb=>c133 P tr hP (by omega) 148 [] [.ptr st.heap.length 0] (badP b.cs.length) ((st.push (.var [iv b.words,b.v])).push (.var [P])) hb
  have k0:=k133 { heap:=st.heap,lo:=st.heap.length } (fun st' he x hx=>c148 b h x st' _ (by show st'.heap[_]? = _;rw [he];simp [St.push]))
  have hb1:((tr.length:Int) != (b.cs.length:Int))=false:=by simp [hn]
  have hd1:decide (tr.length=b.cs.length)=true:=by simp [hn]
  rw [hd1,Bool.true_and]
  cases ha:tr.any (badP b.cs.length)
  ·have hin:∀ x∈tr,-1≤x∧x<tr.length:=fun x hx=>by
    have:=List.any_eq_false.1 ha x hx
    unfold badP inN at this
    simp at this
    omega
   have k1:=c122_tree P tr hP (by omega) hin ((({ heap:=st.heap,lo:=st.heap.length }:St).push (.var [iv b.words,b.v])).push (.var [P])) (by simp only [lo_push,len_push];omega) (st.heap.length+1) (sG fnil)
   rw [hn] at k1
   rw [ha] at k0
   refine go2 (bw6 hl h0 h1 hPs hPc hb1) (bw3 k0 k1 fnil) ?_
   cases hr:(List.range b.cs.length).all fun i=>decide (climbL tr b.cs.length i<0)
   ·exact fQ (bw hl hr)
   ·exact fQ (bw hl hr)
  ·rw [ha] at k0
   refine go2 (bw6 hl h0 h1 hPs hPc hb1) (bw k0 fnil) ?_
   exact fQ hl
 ·have hb1:((tr.length:Int) != (b.cs.length:Int))=true:=by simp;omega
  have hd1:decide (tr.length=b.cs.length)=false:=by simp [hn]
  rw [hd1,Bool.false_and]
  refine go2 (bw6 hl h0 h1 hPs hPc hb1) fnil ?_
  exact fQ hl
end Go.Den.Ve
end
section
namespace Go.Den.Ve
theorem copied_in {fs:List (List Int)} {c:List LN} (h:∀ l∈fs,l.length≤4) (h':∀ x∈c,x.words.length≤4) (h4:c.length≤4):0≤copiedI fs c∧copiedI fs c≤16:=by
 have e:copiedI fs c=(tookL fs c c.length).sum:=by rw [took_sum];rfl
 have h1:=tookL_len fs c c.length
 have h2:=took_in h h' (Nat.le_refl _)
 have h3:∀ (l:List Int),(∀ x∈l,0≤x∧x≤4)→0≤l.sum∧l.sum≤4*l.length:=fun l=>by
  induction l with
  | nil=>simp
  | cons x l ih =>
   intro h
   have:=ih (fun y hy=>h y (by simp [hy]))
   have:=h x (by simp)
   simp only [List.sum_cons,List.length_cons]
   omega
 have:=h3 _ h2
 omega
theorem OkB.copy {b:BK} (h:OkB b) {c:List LN} (hc:c∈b.copies):c.length≤4∧∀ x∈c,x.words.length≤4:=by
 have h1:=h.all c hc
 exact ⟨by have:=h1.1;have:=h.l4;omega,fun x hx=>(lineB_iff.1 (h1.2 x hx).1).1⟩
theorem row_in {b:BK} (h:OkB b) {t:List (List Int)} (ht:∀ l∈t,l.length≤4) {k:Nat} (hk:k<b.copies.length):∀ x∈rowI b t k,0≤x∧x≤16:=fun x hx=>by
 have e:b.copies.getD k []=b.copies[k]:=by rw [List.getD_eq_getElem?_getD,List.getElem?_eq_getElem hk];rfl
 have hc:=h.copy (List.getElem_mem hk)
 rw [rowI,e] at hx
 rcases List.mem_cons.1 hx with rfl|hx
 ·exact copied_in ht hc.2 hc.1
 ·obtain ⟨c,hcm,rfl⟩:=List.mem_map.1 hx
  refine copied_in (fun l hl=>?_) hc.2 hc.1
  obtain ⟨y,hy,rfl⟩:=List.mem_map.1 hl
  exact (h.copy hcm).2 y hy
theorem tab_total {b:BK} {t:List (List Int)} {tr:List Int} (h:treeB b.copies.length tr=true):((List.range tr.length).map fun i=>((tableI b t b.copies.length).getD i []).getD (tr.getD i 0+1).toNat 0).sum=totalI b t tr:=by
 simp only [treeB,Bool.and_eq_true,List.all_eq_true,decide_eq_true_eq] at h
 obtain ⟨hn,hin,_⟩:=h
 unfold totalI
 congr 1
 apply List.map_congr_left
 intro i hi
 have hi:=List.mem_range.1 hi
 have hib:i<b.copies.length:=by omega
 have e1:(tableI b t b.copies.length).getD i []=rowI b t i:=by
  rw [List.getD_eq_getElem?_getD]
  simp [tableI,hib]
 have e2:tr.getD i 0=tr[i]:=by rw [List.getD_eq_getElem?_getD,List.getElem?_eq_getElem hi];rfl
 rw [e1,e2]
 have hx:=hin _ (List.getElem_mem hi)
 unfold takesI rowI
 by_cases hp:tr[i]<0
 ·have e3:tr[i] = -1:=by omega
  rw [if_pos hp,e3]
  rfl
 ·obtain ⟨m,hm⟩:∃ m:Nat,tr[i]=(m:Int):=⟨tr[i].toNat,by omega⟩
  rw [if_neg hp,hm,show ((m:Int)+1).toNat=m+1 by omega,Int.toNat_natCast,List.getD_cons_succ]
  have hmb:m<b.copies.length:=by omega
  rw [List.getD_eq_getElem?_getD,List.getD_eq_getElem?_getD (l:=b.copies) (i:=m),List.getElem?_map,List.getElem?_eq_getElem hmb]
  rfl
def totArg (b:BP) (t:List SI) (tr:List Int):Bool:=bookB b.bk&&(txtB b.bk (t.map SI.l)&&treeB b.cs.length tr)
theorem txt_in {b:BP} {t:List SI} (h:txtB b.bk (t.map SI.l)=true):t.length=lines1 b.bk∧∀ x∈t,x.l.length≤4:=by
 simp only [txtB,Bool.and_eq_true,List.all_eq_true,decide_eq_true_eq,List.length_map] at h
 exact ⟨h.1,fun x hx=>(lineB_iff.1 (h.2 _ (List.mem_map.2 ⟨x,hx,rfl⟩))).1⟩
section
variable (b:BP) (hN:SmB b) (T:PV) (t:List SI) (hT:SlOf 1 encSI T t) (htN:t.length<1000000) (P:PV) (tr:List Int) (hP:SlOf 1 encI P tr) (st:St)
include hP in
theorem total116 (h:OkB b.bk) (ht:txtB b.bk (t.map SI.l)=true) (hr:treeB b.cs.length tr=true) (M:PV) (hV:SlOf 1 encL M (tableI b.bk (t.map SI.l) b.cs.length)) (s:St):Cl EE (.func 116 [] []) [M,P] s (.ret (iv (totalI b.bk (t.map SI.l) tr))) s:=by
 have hti:=txt_in ht
 have hbl:b.bk.copies.length=b.cs.length:=by simp
 have hln:(tableI b.bk (t.map SI.l) b.cs.length).length=b.cs.length:=by simp [tableI]
 have hc5:b.cs.length≤5:=by have:=h.c5;simpa using this
 have hr':=hr
 simp only [treeB,Bool.and_eq_true,List.all_eq_true,decide_eq_true_eq] at hr'
 obtain ⟨hn,hin,_⟩:=hr'
 have hrow:∀ r∈tableI b.bk (t.map SI.l) b.cs.length,r.length=b.cs.length+1∧∀ x∈r,0≤x∧x≤16:=fun r hr=>by
  obtain ⟨k,hk,rfl⟩:=List.mem_map.1 hr
  have hk:=List.mem_range.1 hk
  exact ⟨by simp [rowI],row_in h (fun l hl=>by obtain ⟨x,hx,rfl⟩:=List.mem_map.1 hl;exact hti.2 x hx) (by omega)⟩
 have:=c116 M _ hV P tr hP (by omega) (by omega) (fun i hi=>by
  have:=hin _ (List.getElem_mem hi)
  have:=(hrow _ (List.getElem_mem (by omega:i<(tableI b.bk (t.map SI.l) b.cs.length).length))).1
  omega) (by omega) (fun r hr=>by
  have:=hrow r hr
  exact ⟨by omega,fun x hx=>by have:=this.2 x hx;omega⟩) s
 rw [← hbl,tab_total (by rw [hbl];exact hr)] at this
 exact this
include hT hP in
theorem total_calls (h:OkB b.bk) (ht:txtB b.bk (t.map SI.l)=true) (hr:treeB b.cs.length tr=true) (st:St):ClR EE (.func 117 [] []) [b.pv,T] st (fun v st'=>RetW st b.cs.length ((tableI b.bk (t.map SI.l) b.cs.length).flatMap encL) v st'∧∀ s,Cl EE (.func 116 [] []) [v,P] s (.ret (iv (totalI b.bk (t.map SI.l) tr))) s):=by
 have hti:=txt_in ht
 obtain ⟨v,st',h1,h2⟩:=c117 b h T t hT hti.1 hti.2 st
 exact ⟨v,st',h1,h2,total116 b t P tr hP h ht hr v (SlOf.of_sl h2.1 (by simp [tableI]) rfl (fun _=>rfl))⟩
include hN hT htN hP
theorem c68_yes (h:totArg b t tr=true):Cl EE (.func 68 [] []) [b.pv,T,P] st (.ret (.tuple [iv (totalI b.bk (t.map SI.l) tr),iv 0])) st:=by
 simp only [totArg,Bool.and_eq_true] at h
 obtain ⟨hA,hC,hD⟩:=h
 have h81:=c81 b hN
 have hTc:=hT.cells
 have hPc:=hP.cells
 have hB:=bookB_iff.1 hA
 have k114:=fun st=>c114 b hB T t hT htN st
 have k115:=fun st=>c115 b hN.n P tr hP st
 refine cF3 pr68 fn68 (fun tm hl h0 h1 h2=>?_)
 refine go2 (bw9 hl h0 h1 h2 hA hC hD hTc hPc) (bw4 h81 k114 k115 fnil) ?_
 refine cR (bw hl h1) (total_calls b T t hT P tr hP hB hC hD _) ?_
 rintro v s2 ⟨hR,k116⟩
 have z1:=hR.lo
 have z2:=hR.len
 simp only [lo_push,len_push] at z1 z2
 refine go2 (bw hl h2) (bw k116 fnil) ?_
 exact fY hl
end
end Go.Den.Ve
end
section
namespace Go.Den
theorem finish_elA {st st1:St} {p:List Int} {n:Int} (h:st.heap.length≤st1.lo):finishCall st st1 (.agg [Ve.elL p,.int .i64 n])=(.agg [Ve.elL p,.int .i64 n],st):=by
 cases p with
 | nil =>
  unfold finishCall
  rw [if_pos h]
  simp [letGo,freezeL,freeze1,retagL,retag1,PV.low,Ve.elL]
 | cons x l =>
  have hl:lowL st.heap.length ((x::l).flatMap Ve.encI)=true:=lowL_of fun c hc=>Ve.encI_low _ _ c hc
  unfold finishCall
  rw [if_pos h]
  simp only [letGo,freezeL,freeze1,retagL,retag1,PV.low,Ve.elL,hl,if_true,Option.map_some,List.length_nil,List.replicate_zero,List.append_nil]
theorem finish_elT {st st1:St} {p:List Int} {n m:Int} (h:st.heap.length≤st1.lo):finishCall st st1 (.tuple [Ve.elL p,.int .i64 n,.int .i64 m])=(.tuple [Ve.elL p,.int .i64 n,.int .i64 m],st):=by
 cases p with
 | nil=>exact finish_tuple h (by rfl)
 | cons x l =>
  have hl:lowL st.heap.length ((x::l).flatMap Ve.encI)=true:=lowL_of fun c hc=>Ve.encI_low _ _ c hc
  unfold finishCall
  rw [if_pos h]
  simp only [letGo,freezeL,freeze1,retagL,retag1,PV.low,Ve.elL,hl,if_true,Option.map_some,List.length_nil,List.replicate_zero,List.append_nil]
end Go.Den
namespace Go.Den.Ve
theorem lists_pow (w:Nat):∀ k,(listsL w k).length=w ^ k
 | 0=>rfl
 | k+1=>by
  have h:∀ l:List Nat,(l.flatMap fun (x:Nat)=>(listsL w k).map fun t=>(x:Int)::t).length=l.length*w ^ k:=fun l=>by
   induction l with
   | nil=>simp
   | cons x l ih=>rw [List.flatMap_cons,List.length_append,ih,List.length_map,lists_pow w k,List.length_cons,Nat.succ_mul,Nat.add_comm]
  have:=h (List.range w)
  rw [List.length_range,← Nat.pow_succ'] at this
  exact this
def partT (b:BK) (t:List (List Int)) (k:Nat):List (List Int×Int):=((((listsL (b.copies.length+1) b.copies.length).take k).map fun l=>l.map fun x=>x - 1).filter (treeB b.copies.length)).map fun tr=>(tr,totalI b t tr)
def treesT (b:BK) (t:List (List Int)):List (List Int×Int):=(treesL b.copies.length).map fun tr=>(tr,totalI b t tr)
theorem partT_all (b:BK) (t:List (List Int)):partT b t (listsL (b.copies.length+1) b.copies.length).length=treesT b t:=by
 rw [partT,List.take_length];rfl
theorem partT_succ (b:BK) (t:List (List Int)) {k:Nat} (hk:k<(listsL (b.copies.length+1) b.copies.length).length):partT b t (k+1)=partT b t k++if treeB b.copies.length ((listsL (b.copies.length+1) b.copies.length)[k].map fun x=>x - 1) then [((listsL (b.copies.length+1) b.copies.length)[k].map fun x=>x - 1,totalI b t ((listsL (b.copies.length+1) b.copies.length)[k].map fun x=>x - 1))] else []:=by
 rw [partT,List.take_succ_eq_append_getElem hk,List.map_append,List.filter_append,List.map_append,← partT,List.map_singleton,List.filter_cons,List.filter_nil]
 split <;> simp_all
theorem partT_len (b:BK) (t:List (List Int)) (h:b.copies.length≤5) (k:Nat):(partT b t k).length≤7776:=by
 have h1:(partT b t k).length≤(listsL (b.copies.length+1) b.copies.length).length:=by
  rw [partT,List.length_map]
  refine Nat.le_trans (List.length_filter_le _ _) ?_
  rw [List.length_map,List.length_take]
  omega
 rw [lists_pow] at h1
 have:b.copies.length=0∨b.copies.length=1∨b.copies.length=2∨b.copies.length=3∨b.copies.length=4∨b.copies.length=5:=by omega
 rcases this with h|h|h|h|h|h <;> rw [h] at h1 <;> exact Nat.le_trans h1 (by decide)
theorem c119 (x o:List Int×Int) (st:St):Cl EE (.func 119 [] []) [.agg (encC x),.agg (encC o)] st (.ret (.bool (decide (x.2<o.2)))) st:=by
 have hc:=fun p=>el_cells p
 have hi:=fun p=>el_isCell p
 refine cF2 pr119 fn119 (fun tm hl h0 h1=>?_)
 refine go2 (bw5 hl h0 h1 hc hi) fnil ?_
 exact fQ hl
theorem c118 (F:PV) (X:List (List Int×Int)) (hF:SlOf 2 encC F X) (h0:0<X.length) (hN:X.length<1000000) (st:St):ClR EE (.func 118 [] []) [F,.func 119 [] []] st (fun v st'=>∃ o,bestF (fun x y:List Int×Int=>decide (x.2<y.2)) X=some o∧v = .agg (encC o)∧st'=st) :=
 bestG pr118 fn118 (z:=[.nilslice,.int .i64 0]) rfl (fun _=>rfl) (fun a=>by simp only [List.all_cons,List.all_nil,el_isCell,Bool.and_true];rfl) F X hF h0 hN 119 [] [] _ st (fun st' _ x _ o _=>c119 x o st') (fun o st1 h=>finish_elA h)
def tvArg (b:BP) (t:List SI):Bool:=bookB b.bk&&txtB b.bk (t.map SI.l)
section
variable (b:BP) (hN:SmB b) (T:PV) (t:List SI) (hT:SlOf 1 encSI T t) (htN:t.length<1000000) (st:St)
include hN hT htN
set_option maxHeartbeats 8000000 in
theorem c70_yes (h:tvArg b t=true):ClR EE (.func 70 [] []) [b.pv,T] st (fun v st'=>∃ o,bestF (fun x y:List Int×Int=>decide (x.2<y.2)) (treesT b.bk (t.map SI.l))=some o∧v = .tuple [elL o.1,iv o.2,iv 0]∧st'=st):=by
 simp only [tvArg,Bool.and_eq_true] at h
 obtain ⟨hA,hC⟩:=h
 have h81:=c81 b hN
 have hTc:=hT.cells
 have hBv:=b.h
 have hB:=bookB_iff.1 hA
 have hti:=txt_in hC
 have hc5:b.cs.length≤5:=by have:=hB.c5;simpa using this
 have hp0:=hB.pos
 have hbl:b.bk.copies.length=b.cs.length:=by simp
 have k114:=fun st=>c114 b hB T t hT htN st
 have hX6:(listsL (b.cs.length+1) b.cs.length).length≤7776:=by
  rw [lists_pow]
  have:b.cs.length=0∨b.cs.length=1∨b.cs.length=2∨b.cs.length=3∨b.cs.length=4∨b.cs.length=5:=by omega
  rcases this with h|h|h|h|h|h <;> rw [h] <;> decide
 have hw1:=wrapN (n:=b.cs.length) (by omega)
 refine cG2 pr70 fn70 (fun tm hl h0 h1=>?_)
 refine go2 (bw6 hl h0 h1 hA hC hTc) (bw3 h81 k114 fnil) ?_
 refine cR (bw hl h1) (c117 b hB T t hT hti.1 hti.2 _) ?_
 intro M s1 hR
 have hMs:SlOf 1 encL M (tableI b.bk (t.map SI.l) b.cs.length):=SlOf.of_sl hR.1 (by simp [tableI]) rfl (fun _=>rfl)
 have hMc:=hMs.cells
 have hMi:=hMs.isCell
 have e0:hp s1 st.heap.length=some (.var [iv b.words,b.v]):=hR.hp (sG fnil)
 have le0:=hp_lt e0
 have z1:=hR.lo
 have z2:=hR.len
 simp only [lo_push,len_push] at z1 z2
 have k92:=fun st=>c92 (b.cs.length+1) b.cs.length st
 refine go2 (bw6 hl hMc hMi e0 (n4 le0) hw1) (bw k92 fnil) ?_
 apply wp_block
 refine wp_rangeV (X:=listsL (b.cs.length+1) b.cs.length) (Rep:=RepL) (priv:=fun l=>l=s1.heap.length+3∨l=s1.heap.length+2) [s1.heap.length+1] st.heap.length (fun k L=>∃ v,OwnP st.heap.length 2 v (partT b.bk (t.map SI.l) k).length ((partT b.bk (t.map SI.l) k).flatMap encC)∧L=[(st.heap.length,.var [iv b.words,b.v]),(s1.heap.length,.var [M]),(s1.heap.length+1,.var [v])]++tagL v) (fun _ _=>False) (sG hl) (fun o=>iter139 (by omega) (by omega) (sG fnil) (sG fnil)) (sG hl) (fun l hl=>by simp only [List.mem_singleton,len_push,len_setVar];omega) (fun l hl=>by simp only [List.mem_singleton] at hl;simp only [len_push,len_setVar];omega) (by simp only [lo_push,lo_setVar];omega) (by simp only [lo_push,len_push,lo_setVar,len_setVar];omega) ⟨_,?_,.nilslice,.nil,rfl⟩ ?_ ?_ ?_
 ·exact .cons (sG (bw e0 (n4 le0))) rfl (.cons (sG fnil) rfl (.cons (sG fnil) rfl (.nil _)))
 ·rintro k hk x s2 L hx hH' ⟨v,hv,rfl⟩ he hwf hlt
  have hH:Has s2.heap ([(st.heap.length,.var [iv b.words,b.v]),(s1.heap.length,.var [M]),(s1.heap.length+1,.var [v])]++tagL v):=hH'
  have d0:=hH.left.hp (l:=st.heap.length) (o := .var [iv b.words,b.v]) (by simp)
  have d1:=hH.left.hp (l:=s1.heap.length) (o := .var [M]) (by simp)
  have d2:=hH.left.hp (l:=s1.heap.length+1) (o := .var [v]) (by simp)
  have ld0:=hp_lt d0
  have ld1:=hp_lt d1
  have ld2:=hp_lt d2
  obtain ⟨hxl,hxi⟩:=mem_lists.1 (List.getElem_mem hk)
  have hxs:=hx.1.slen
  have hxl5:(listsL (b.cs.length+1) b.cs.length)[k].length≤5:=by omega
  refine go2 (bw hl hxs) fnil ?_
  refine wp_range (listsL (b.cs.length+1) b.cs.length)[k].length [10] (fun q vs s'=>∃ y,vs=[y]∧OwnS s2.heap.length s' 1 y q ((((listsL (b.cs.length+1) b.cs.length)[k].take q).map fun x=>x - 1).flatMap encI)∧Fr s2.heap.length s2 s'∧s'.lo≤s'.heap.length) (by omega) (sG hl) (sG hl) (sG hl) (by decide) ⟨_,(sG hl),.nil,.refl _ _,by omega⟩ ?_ ?_
  ·rintro q hq tm2 s3 ⟨y,hy,hY,hF,hw3⟩ hS2 hqa
   simp only [List.map_cons,List.map_nil,List.cons.injEq,and_true] at hy
   have hl2:tm2.length=64:=lN hS2 hl;have k35:tg tm2 35=x:=tQ hS2 hl;clear hS2
   have hFl:=hF.len
   have hx1:=hx.1
   have hxq:=hxi _ (List.getElem_mem hq)
   have hwq:IntKind.wrap .i64 ((listsL (b.cs.length+1) b.cs.length)[k][q] - 1)=(listsL (b.cs.length+1) b.cs.length)[k][q] - 1:=wrap_in (by unfold inI;omega)
   refine go2 (bw4 hl2 k35 hqa hwq) fnil ?_
   refine aP (bw hl2 hy) (hY.push) ?_
   intro y' s4 hY4 hF4 hk4
   have y1:=hF4.up
   have y2:=hF4.len
   simp only [lo_push,len_push] at y1 y2
   refine go2 hl2 fnil ?_
   refine ⟨y',(sG hl2),?_,(hF.push hFl).trans hF4,by omega⟩
   rw [List.take_succ_eq_append_getElem hq,List.map_append,List.flatMap_append,List.map_singleton]
   simpa [share_int] using hY4
  ·rintro tm2 s3 ⟨y,hy,hY,hF,hw3⟩ hS2
   simp only [List.map_cons,List.map_nil,List.cons.injEq,and_true] at hy
   have hl2:tm2.length=64:=lN hS2 hl;have k2:tg tm2 2 = .ptr st.heap.length 0:=tQ hS2 (bw hl h0);have k7:tg tm2 7 = .ptr s1.heap.length 0:=tQ hS2 (bw hl h0);have k8:tg tm2 8 = .ptr (s1.heap.length+1) 0:=tQ hS2 (bw hl h0);clear hS2
   rw [List.take_length] at hY
   generalize htr:(listsL (b.cs.length+1) b.cs.length)[k].map (fun x=>x - 1)=tr at hY
   have htl:tr.length=b.cs.length:=by rw [← htr,List.length_map,hxl]
   have hYs:SlOf 1 encI y tr:=SlOf.of_sl hY.sl (by rw [htl,hxl]) rfl (fun _=>rfl)
   have hYc:=hYs.cells
   have hYi:=hYs.isCell
   have hsh:y.share=elL tr:=share_own hY (by rw [htl,hxl]) rfl (by intro e;rw [e] at htl;simp at htl;omega)
   have k115:=fun st=>c115 b hN.n y tr hYs st
   have hH3:Has s3.heap ([(st.heap.length,.var [iv b.words,b.v]),(s1.heap.length,.var [M]),(s1.heap.length+1,.var [v])]++tagL v):=hH.ext hF.hext
   have f0:=hH3.left.hp (l:=st.heap.length) (o := .var [iv b.words,b.v]) (by simp)
   have f1:=hH3.left.hp (l:=s1.heap.length) (o := .var [M]) (by simp)
   have f2:=hH3.left.hp (l:=s1.heap.length+1) (o := .var [v]) (by simp)
   have lf0:=hp_lt f0
   have lf1:=hp_lt f1
   have lf2:=hp_lt f2
   have hps:=partT_succ b.bk (t.map SI.l) (k:=k) (by rw [hbl];exact hk)
   simp only [hbl,htr] at hps
   have hpl:=partT_len b.bk (t.map SI.l) (by omega) k
   have hFl:=hF.len
   have hFlo:=hF.lo
   have k0:KeepV (fun l=>l∈[s1.heap.length+1]) s2.heap s3.heap:=(hF.hext).keep _
   have hO3:=hv.own hH3.right
   cases hD:treeB b.cs.length tr
   ·rw [hD] at hps
    refine go2 (bw6 hl2 k2 hy f0 hD (n4 lf0)) (bw k115 fnil) ?_
    refine ⟨k0,by omega,hw3,trivial,_,hH3,v,?_,rfl⟩
    rw [hps];simp only [Bool.false_eq_true,if_false,List.append_nil];exact hv
   ·rw [hD,if_pos rfl] at hps
    have k116:=fun st=>total116 b t y tr hYs hB hC hD M hMs st
    refine go2 (bw15 hl2 k2 k7 k8 hy hsh hYc hYi f0 f1 f2 hD (n4 lf0) (n4 lf1) (n4 lf2)) (bw3 k115 k116 fnil) ?_
    have lw3:s3.lo≤s3.heap.length:=hw3
    refine wopsD_append (by simp only [lo_push,len_push];omega) rfl rfl (sR hl2) (sR hl2) hO3.push rfl (by simp only [len_push];omega) (by rfl) (by simp only [List.all_cons,List.all_nil,el_isCell,Bool.and_true];rfl) (by simp only [maxList];omega) ?_
    intro v' s5 ft hO5 hF5 hk5
    have e0':hp s5 st.heap.length=some (.var [iv b.words,b.v]):=hk5 _ _ (sG (bw f0 (n4 lf0))) (by simp)
    have e1':hp s5 s1.heap.length=some (.var [M]):=hk5 _ _ (sG (bw f1 (n4 lf1))) (by simp)
    have e2':hp s5 (s1.heap.length+1)=some (.var [v]):=hk5 _ _ (sG (bw f2 (n4 lf2))) (by simp)
    have le9:=hp_lt e2'
    have v1:=sl_cells hO5.sl
    have v2:=sl_isCell hO5.sl
    have z1':=hF5.lo
    have z2':=hF5.up
    have z3':=hF5.len
    simp only [lo_push,len_push] at z1' z2' z3'
    have kA:=k0.kpush.trans (keep_app hk5 hF5.len)
    refine go2 (bw6 hl2 k8 e2' v1 v2 (n4 le9)) fnil ?_
    obtain ⟨r1,r2⟩:=(own_var (o := .var [v']) hO5 e2').p
    refine ⟨kA.kset (.inl (by simp)),by rw [lo_setVar];omega,by rw [lo_setVar,len_setVar];omega,trivial,_,.app (.cons (by rw [hp_setVar,if_neg (by omega)];exact e0') rfl (.cons (by rw [hp_setVar,if_neg (by omega)];exact e1') rfl (.cons (by rw [hp_setVar,if_pos rfl,if_pos le9]) rfl (.nil _)))) r2,v',?_,rfl⟩
    rw [hps,List.flatMap_append,List.length_append,List.flatMap_singleton]
    have:[elL tr,iv (totalI b.bk (t.map SI.l) tr)].map PV.share=encC (tr,totalI b.bk (t.map SI.l) tr):=by show [(elL tr).share,(iv _).share]=_;rw [el_share];rfl
    rw [← this]
    exact r1
 ·rintro s4 L hH' ⟨v,hv,rfl⟩ k4 he hwf
  have hH:Has s4.heap ([(st.heap.length,.var [iv b.words,b.v]),(s1.heap.length,.var [M]),(s1.heap.length+1,.var [v])]++tagL v):=hH'
  have d2:=hH.left.hp (l:=s1.heap.length+1) (o := .var [v]) (by simp)
  have hO:=hv.own hH.right
  have hpa:=partT_all b.bk (t.map SI.l)
  have hpl:=partT_len b.bk (t.map SI.l) (by omega)
  rw [hbl] at hpa
  rw [hpa] at hO
  have hpl':(treesT b.bk (t.map SI.l)).length≤7776:=by rw [← hpa];exact hpl _
  have hne:0<(treesT b.bk (t.map SI.l)).length:=by
   rw [treesT,List.length_map]
   exact List.length_pos_of_mem (mem_trees.2 star_tree)
  have hV:SlOf 2 encC v (treesT b.bk (t.map SI.l)):=SlOf.of_sl hO.sl rfl rfl (fun _=>rfl)
  apply inBlock_normal
  refine go2 (bw hl d2) fnil ?_
  refine cR hl (c118 v _ hV hne (by omega) _) ?_
  rintro w s5 ⟨o,ho,rfl,rfl⟩
  have hc:=fun p=>el_cells p
  have hi:=fun p=>el_isCell p
  refine go2 (bw3 hl hc hi) fnil ?_
  refine fX (.tuple [elL o.1,iv o.2,iv 0]) (bw3 hl hc hi) ?_
  rw [finish_elT (by simp only [lo_push,lo_setVar];omega)]
  exact ⟨o,ho,rfl,rfl⟩
 ·intro j st' L _ h
  exact h.elim
end
end Go.Den.Ve
end
section
namespace Go.Den.Ve
structure SS where
 v:PV
 l:List SI
 h:SlOf 1 encSI v l
abbrev encSS (x:SS):List PV:=[x.v]
attribute [go_sem] encSS
theorem SS.cells (c:SS):c.v.cells=[c.v]:=c.h.cells
theorem SS.isCell (c:SS):c.v.isCell=true:=c.h.isCell
theorem SS.slen (c:SS):c.v.slen=some c.l.length:=c.h.slen
attribute [go_sem] SS.cells SS.isCell SS.slen
theorem c145 (n:Nat) (h1:1≤n) (h2:n≤1000) (st:St):Cl EE (.func 145 [] []) [.nilslice,iv n] st (.ret (.slice (.tag st.heap.length 1) 0 [])) (st.push (.tag true)):=by
 refine ⟨1,fun k hk=>?_⟩
 obtain ⟨m,rfl⟩:∃ m,k=m+1:=⟨k - 1,by omega⟩
 show stepCall EE (run EE m) (.func 145 [] []) [.nilslice,iv n] st=_
 have h2':EE.prim 145 (run EE m) ([]++[.nilslice,iv n]++[]) st=growR st [.nilslice,iv n]:=rfl
 have h3:growR st [.nilslice,iv n]=some (some (.ret (.slice (.tag st.heap.length 1) 0 []),st.push (.tag true))):=by
  simp only [growR]
  rw [if_pos (by omega)]
  rfl
 simp only [stepCall,enter,h2',h3]
theorem sums_take {X:List SS} {k:Nat} (hk:k<X.length):((X.take (k+1)).flatMap SS.l).length=((X.take k).flatMap SS.l).length+X[k].l.length:=by
 rw [List.take_succ_eq_append_getElem hk,List.flatMap_append,List.length_append]
 simp
theorem sums_le {X:List SS} (k:Nat):((X.take k).flatMap SS.l).length≤(X.flatMap SS.l).length:=by
 conv=>rhs;rw [← List.take_append_drop k X,List.flatMap_append,List.length_append]
 omega
def SI.shr (x:SI):SI:=⟨x.v.share,x.l,x.h.share⟩
theorem ss_share (X:List SI):(X.flatMap encSI).map PV.share=(X.map SI.shr).flatMap encSI:=by
 induction X with
 | nil=>rfl
 | cons x X ih=>rw [List.flatMap_cons,List.map_append,ih];rfl
theorem ss_cell (X:List SI):(X.flatMap encSI).all PV.isCell=true:=by
 rw [List.all_eq_true]
 intro c hc
 obtain ⟨x,_,h⟩:=List.mem_flatMap.1 hc
 rw [List.mem_singleton.1 h]
 exact x.isCell
set_option maxHeartbeats 4000000 in
theorem c109 (F:PV) (X:List SS) (hF:SlOf 1 encSS F X) (hX:X.length≤1000) (h1n:1≤(X.flatMap SS.l).length) (hN:(X.flatMap SS.l).length≤1000) (st:St):ClR EE (.func 109 [] []) [F] st (RetS st 1 ((X.flatMap SS.l).map SI.shr).length (((X.flatMap SS.l).map SI.shr).flatMap encSI)):=by
 have hFs:=hF.slen
 refine cG1 pr109 fn109 (fun tm hl h0=>?_)
 refine go2 (bw3 hl h0 hFs) fnil ?_
 refine wp_range X.length [3] (fun k vs st'=>vs=[iv ((X.take k).flatMap SS.l).length]∧st'={ heap:=st.heap,lo:=st.heap.length }) (by omega) (sG hl) (sG hl) (sG hl) (by decide) ⟨(sR hl),rfl⟩ ?_ ?_
 ·rintro k hk tm1 st1 ⟨hv,rfl⟩ hS hka
  simp only [List.map_cons,List.map_nil,List.cons.injEq,and_true] at hv
  have hl1:tm1.length=36:=lN hS hl;have j9:tg tm1 9=F:=tQ hS (bw hl h0);clear hS
  have hs:=sums_take hk
  have hle:=sums_le (X:=X) (k+1)
  have hw:IntKind.wrap .i64 ((((X.take k).flatMap SS.l).length:Int)+(X[k].l.length:Int))=((((X.take (k+1)).flatMap SS.l).length:Nat):Int):=by rw [wrap_in (by unfold inI;omega)];omega
  have hd:decide ((((X.take (k+1)).flatMap SS.l).length:Int)<0)=false:=decide_eq_false (by omega)
  refine go2 (bw6 hl1 j9 hka hv hw hd) fnil ?_
  exact ⟨(sG hl1),rfl⟩
 ·rintro tm1 st1 ⟨hv,rfl⟩ hS
  simp only [List.map_cons,List.map_nil,List.cons.injEq,and_true] at hv
  have hl1:tm1.length=36:=lN hS hl;have j0:tg tm1 0=F:=tQ hS (bw hl h0);clear hS
  rw [List.take_length] at hv
  have k145:=c145 (X.flatMap SS.l).length h1n hN { heap:=st.heap,lo:=st.heap.length }
  refine go2 (bw4 hl1 j0 hv hFs) (bw k145 fnil) ?_
  refine wp_range X.length [6] (fun k vs st'=>∃ v,vs=[v]∧OwnS st.heap.length st' 1 v ((X.take k).flatMap SS.l).length ((((X.take k).flatMap SS.l).map SI.shr).flatMap encSI)∧st.heap.length≤st'.lo∧st'.lo≤st'.heap.length) (by omega) (sG hl1) (sG hl1) (sG hl1) (by decide) ⟨_,(sR hl1),⟨rfl,.inr ⟨_,rfl,Nat.le_refl _,(sG fnil)⟩⟩,by simp only [lo_push];omega,by simp only [lo_push,len_push];omega⟩ ?_ ?_
  ·rintro k hk tm2 st2 ⟨v,hv,hO,hlo,hwf⟩ hS2 hka
   simp only [List.map_cons,List.map_nil,List.cons.injEq,and_true] at hv
   have hl2:tm2.length=36:=lN hS2 hl1;have k25:tg tm2 25=F:=tQ hS2 hl1;clear hS2
   have hs:=sums_take hk
   have hle:=sums_le (X:=X) (k+1)
   have hXs:=X[k].h.sl
   refine go2 (bw4 hl2 k25 hka hv) fnil ?_
   refine wops_append rfl rfl (sR (bw hl2 hv)) (sR hl2) hO hXs (by omega) (flatMap_len (sz:=1) (fun a _=>rfl)) (ss_cell _) (by simp only [maxList];omega) ?_
   intro v' s3 hO3 hF3 hk3
   have y1:=hF3.lo
   have y2:=hF3.up
   have y3:=hF3.len
   refine go2 hl2 fnil ?_
   refine ⟨v',(sG hl2),?_,by omega,by omega⟩
   rw [hs,List.take_succ_eq_append_getElem hk,List.flatMap_append,List.map_append,List.flatMap_append]
   rw [ss_share] at hO3
   simpa using hO3
  ·rintro tm2 st2 ⟨v,hv,hO,hlo,hwf⟩ hS2
   simp only [List.map_cons,List.map_nil,List.cons.injEq,and_true] at hv
   have hl2:tm2.length=36:=by rw [hS2.1];simp only [↓reduceIte,go_sem,hl1]
   refine go2 (bw hl2 hv) fnil ?_
   refine fX (v) (bw hl2 hv) ?_
   rw [List.take_length] at hO
   rw [List.length_map]
   exact hO.finish hlo (fun m c hc=>by
    obtain ⟨x,hx,h⟩:=List.mem_flatMap.1 hc
    obtain ⟨y,_,rfl⟩:=List.mem_map.1 hx
    rw [List.mem_singleton.1 h]
    exact share_low y.h m)
end Go.Den.Ve
end

/- Part of the proofs of laws of the package version. Texts: TsA, TsB, TsC, TsD, TsE, TsF. -/
import Derived.Test.YthnfeimjhibcaaaTBAu
import Derived.Test.YthnfeimjhibcaaaTBAk
set_option linter.unusedSimpArgs false
set_option linter.unusedVariables false
section
namespace Go.Den.Tp
open Go.Den.Ch (Fig CL Flt inB figB listB packB layerL layersL key brk disB disA disorder fullL gapL fault)
theorem freeze_low {m:Nat} {h:List HObj} {v:PV} (hv:v.low m=true):freeze1 m h v=(v,h):=by
 cases v with
 | hslice t sz n =>
  simp only [PV.low,decide_eq_true_eq] at hv
  simp only [freeze1,hv,if_true]
 | _=>rfl
theorem freezes_low {m:Nat} {h:List HObj}:∀ {vs:List PV},lowL m vs=true→freezeL m h vs=(vs,h)
 | [],_=>rfl
 | v::vs,hv=>by
  simp only [lowL,Bool.and_eq_true] at hv
  simp only [freezeL,freeze_low hv.1,freezes_low hv.2]
theorem retag_low {m:Nat} {h:List HObj} {s:List Nat} {v:PV} (hv:v.low m=true):retag1 h m s v=some (v,s):=by
 cases v with
 | slice o n cs =>
  cases o with
  | shared=>simp only [retag1,hv,if_true]
  | tag t sz =>
   simp only [PV.low,Bool.and_eq_true,decide_eq_true_eq] at hv
   simp only [retag1,hv.1,hv.2,if_true]
 | _=>simp only [retag1,hv,if_true]
theorem retags_low {m:Nat} {h:List HObj} {s:List Nat}:∀ {vs:List PV},lowL m vs=true→retagL h m s vs=some (vs,s)
 | [],_=>rfl
 | v::vs,hv=>by
  simp only [lowL,Bool.and_eq_true] at hv
  simp only [retagL,retag_low hv.1,retags_low hv.2]
theorem finish_low {st st1:St} {vs:List PV} (hlo:st.heap.length≤st1.lo) (hv:lowL st.heap.length vs=true):finishCall st st1 (.agg vs)=(.agg vs,st):=by
 unfold finishCall
 rw [if_pos hlo]
 simp [letGo,freezes_low hv,retags_low hv]
theorem fnq_low {rs:List DRes} {st:St} {tm1:List PV} {st1:St} {vs:List PV} {e:Ex} (he:e = .ret∨e = .normal) (hr:results tm1 st1.heap rs=some (.agg vs)) (hlo:st.heap.length≤st1.lo) (hv:lowL st.heap.length vs=true):FnQ rs st (.ret (.agg vs)) st e tm1 st1:=by
 rcases he with rfl|rfl <;> (unfold FnQ;exact ⟨_,hr,_,finish_low hlo hv,rfl⟩)
def hsL (n:Nat):List Int:=(List.range n).map fun i=>((n - i:Nat):Int)
def restL (n:Nat):List Int:=(List.range n).map fun (i:Nat)=>(i:Int)
def sfL (rk:List Int):List Fig:=rk.map fun r=>⟨1,r+4,1⟩
theorem hsL_len (n:Nat):(hsL n).length=n:=by simp [hsL]
theorem restL_len (n:Nat):(restL n).length=n:=by simp [restL]
theorem sfL_len (rk:List Int):(sfL rk).length=rk.length:=by simp [sfL]
theorem hsL_at {n:Nat} {x:Int} (h0:0≤x) (h1:x<n) (h:x.toNat<(hsL n).length):(hsL n)[x.toNat]=n - x:=by
 simp only [hsL,List.getElem_map,List.getElem_range];omega
theorem restL_at {n i:Nat} (h:i<(restL n).length):(restL n)[i]=i:=by simp [restL]
theorem sfL_at {rk:List Int} {i:Nat} (h:i<(sfL rk).length) (h2:i<rk.length):(sfL rk)[i]=⟨1,rk[i]+4,1⟩:=by simp [sfL]
abbrev spPV (n:Nat) (H G S:PV):PV := .agg [iv n,H,G,S]
abbrev scPV (R:PV):PV := .agg [.nilslice,R,iv 0,.nilslice]
abbrev sgL (n:Nat) (H G S R:PV):List PV:=[iv n,H,G,S,.nilslice,R,iv 0,.nilslice]
abbrev sgPV (n:Nat) (H G S R:PV):PV := .agg (sgL n H G S R)
theorem dF [i:Decidable False]:decide False=false:=decide_eq_false id
theorem c84 (x lo hi:Int) (st:St):Cl EE (.func 84 [] []) [iv x,iv lo,iv hi] st (.ret (.bool (inB x lo hi))) st:=by
 refine cF3 pr84 fn84 (fun tm hl h0 h1 h2=>?_)
 unfold inB
 cases h:decide (lo≤x)
 ·have h':decide (x≥lo)=false:=h
  refine go2 (bw5 hl h0 h1 h2 h') fnil ?_
  exact fQ hl
 ·have h':decide (x≥lo)=true:=h
  refine go2 (bw5 hl h0 h1 h2 h') fnil ?_
  exact fQ hl
theorem c85 (f:Fig) (h1:f.size=1) (h2:1≤f.rank∧f.rank≤9) (h3:f.eve=1) (st:St):Cl EE (.func 85 [] []) [figPV f] st (.ret (.bool false)) st:=by
 obtain ⟨s,r,e⟩:=f
 simp only at h1 h2 h3
 subst h1 h3
 have e1:inB r 1 9=true:=by simp [inB];omega
 have e2:inB 1 1 2=true:=by decide
 have e3:=dF
 have e4:decide ((1:Int)>3)=false:=by decide
 refine cF1 pr85 fn85 (fun tm hl h0=>?_)
 refine go2 (bw6 hl h0 e1 e2 e3 e4) (bw c84 fnil) ?_
 exact fQ hl
theorem c90 (x:Int) (h:1≤x∧x≤9) (st:St):Cl EE (.func 90 [] []) [iv x] st (.ret (.bool false)) st:=by
 have e1:inB x 1 9=true:=by simp [inB];omega
 refine cF1 pr90 fn90 (fun tm hl h0=>?_)
 refine go2 (bw3 hl h0 e1) (bw c84 fnil) ?_
 exact fQ hl
theorem c125 (F:PV) (l:List Fig) (hF:SlOf 3 encF F l) (hN:l.length<1000) (g:Nat) (ga gc:List PV) (p:Fig→Bool) (st:St) (hg0:∀ st',st'.heap=st.heap→∀ a∈l,Cl EE (.func g ga gc) [figPV a] st' (.ret (.bool (p a))) st'):Cl EE (.func 125 [] []) [F,.func g ga gc] st (.ret (iv (idxI p l))) st:=by
 refine cF2 pr125 fn125 (fun tm hl h0 h1=>?_)
 have hs:=hF.slen
 refine go2 (bw4 hl h0 h1 hs) fnil ?_
 refine wp_range l.length [] (fun i vs st'=>st'={ heap:=st.heap,lo:=st.heap.length }∧∀ k (hk:k<i) (hl:k<l.length),p l[k]=false) (by omega) (sG hl) (sG hl) (sG hl) (by decide) ⟨rfl,fun k hk=>absurd hk (by omega)⟩ ?_ ?_
 ·rintro i hi tm1 st1 ⟨rfl,hk⟩ hS hia
  have hl1:tm1.length=19:=lN hS hl;have i0:tg tm1 0=F:=tQ hS (bw3 hl h0 h1);have i1:tg tm1 1 = .func g ga gc:=tQ hS (bw3 hl h0 h1);clear hS
  have hb:=hg0 { heap:=st.heap,lo:=st.heap.length } rfl l[i] (List.getElem_mem hi)
  cases hp:p l[i]
  ·rw [hp] at hb
   refine go2 (bw4 hl1 i0 i1 hia) (bw hb fnil) ?_
   refine ⟨rfl,fun k hk1 hk2=>?_⟩
   by_cases hki:k=i
   ·subst hki;exact hp
   ·exact hk k (by omega) hk2
  ·rw [hp] at hb
   rw [idxI_at hi (fun k hk1=>hk k hk1 (by omega)) hp]
   refine go2 (bw4 hl1 i0 i1 hia) (bw hb fnil) ?_
   exact fQ hl1
 ·rintro tm1 st1 ⟨rfl,hk⟩ hS
  have hl1:tm1.length=19:=lN hS hl;clear hS
  rw [idxI_no (fun k hk1=>hk k hk1 hk1)]
  refine go2 hl1 fnil ?_
  exact fQ hl1
theorem c91 (F:PV) (l:List Fig) (hF:SlOf 3 encF F l) (hN:l.length<1000) (g:Nat) (ga gc:List PV) (p:Fig→Bool) (st:St) (hg0:∀ st',st'.heap=st.heap→∀ a∈l,Cl EE (.func g ga gc) [figPV a] st' (.ret (.bool (p a))) st'):Cl EE (.func 91 [] []) [F,.func g ga gc] st (.ret (.bool (l.any p))) st:=by
 refine cF2 pr91 fn91 (fun tm hl h0 h1=>?_)
 rw [← idxI_ge]
 refine go2 (bw3 hl h0 h1) (bw (c125 F l hF hN g ga gc p ⟨st.heap,st.heap.length⟩ hg0) fnil) ?_
 exact fQ hl
theorem c87 (F:PV) (l:List Int) (hF:SlOf 1 encI F l) (hN:l.length<1000) (b:Int) (hb:0≤b∧b<1000) (hr1:∀ i (hi:i<l.length),0≤l[i]∧l[i]≤b - 1) (hr2:∀ i (hi:i+1<l.length),l[i]<l[i+1]) (st:St):Cl EE (.func 87 [] []) [F,iv b] st (.ret (.bool true)) st:=by
 have hs:=hF.slen
 have hw:IntKind.wrap .i64 (b - 1)=b - 1:=wrap_in (by unfold inI;omega)
 refine cF2 pr87 fn87 (fun tm hl h0 h1=>?_)
 refine go2 (bw3 hl h0 hs) fnil ?_
 refine wp_range l.length [] (fun i vs st'=>st'={ heap:=st.heap,lo:=st.heap.length }) (by omega) (sG hl) (sG hl) (sG hl) (by decide) rfl ?_ ?_
 ·rintro i hi tm1 st1 rfl hS hia
  have hl1:tm1.length=33:=lN hS hl;have i0:tg tm1 0=F:=tQ hS (bw3 hl h0 h1);have i1:tg tm1 1=iv b:=tQ hS (bw3 hl h0 h1);have i7:tg tm1 7=F:=tQ hS (bw3 hl h0 h1);clear hS
  have e1:inB l[i] 0 (b - 1)=true:=by have:=hr1 i hi;simp [inB];omega
  by_cases h0:i=0
  ·subst h0
   have e2:decide (((0:Nat):Int)>0)=false:=by decide
   refine go2 (bw8 hl1 i0 i1 i7 hia hw e1 e2) (bw c84 fnil) ?_
   rfl
  ·have e2:decide (((i:Nat):Int)>0)=true:=by simp;omega
   obtain ⟨j,rfl⟩:∃ j,i=j+1:=⟨i - 1,by omega⟩
   have hw2:IntKind.wrap .i64 (((j+1:Nat):Int) - 1)=(j:Int):=by
    rw [show ((j+1:Nat):Int) - 1=(j:Int) by omega];exact wrap_nat (by omega)
   have hj:j<l.length:=by omega
   have e3:decide (l[j+1]≤l[j])=false:=by have:=hr2 j hi;simp;omega
   refine go2 (bw10 hl1 i0 i1 i7 hia hw e1 e2 e3 hw2) (bw c84 fnil) ?_
   rfl
 ·rintro tm1 st1 rfl hS
  have hl1:tm1.length=33:=lN hS hl;clear hS
  refine go2 hl1 fnil ?_
  exact fQ hl1
end Go.Den.Tp
end
section
namespace Go.Den.Tp
open Go.Den.Ch (Fig CL Flt inB figB listB packB layerL layersL key brk disB disA disorder fullL gapL fault)
structure OkS (n:Nat) (rk:List Int):Prop where
 n1:1≤n
 n4:n≤4
 len:rk.length=n
 rng:∀ r∈rk,1≤r∧r≤5
structure SgOk (n:Nat) (rk:List Int) (H G R:PV):Prop where
 h:SlOf 1 encI H (hsL n)
 g:SlOf 3 encF G (sfL rk)
 r:SlOf 1 encI R (restL n)
theorem c86 {n:Nat} {rk:List Int} {H G S R:PV} (hk:OkS n rk) (hs:SgOk n rk H G R) (hS:S.cells=[S]) (st:St) (b:Nat) (hb:hp st b=some (.var [iv n,H,G,S])):Cl EE (.func 86 [] [.ptr b 0]) [scPV R] st (.ret (.bool false)) st:=by
 have l1:=hk.n1
 have l4:=hk.n4
 have hHs:=hs.h.slen
 have hGs:=hs.g.slen
 have hRs:=hs.r.slen
 have hRc:=hs.r.cells
 rw [hsL_len] at hHs
 rw [sfL_len,hk.len] at hGs
 rw [restL_len] at hRs
 have lb:=hp_lt hb
 have hb':hp { heap:=st.heap,lo:=st.heap.length } b=some (.var [iv n,H,G,S]):=hb
 have k0:∀ st,Cl EE (.func 87 [] []) [.nilslice,iv n] st (.ret (.bool true)) st:=c87 .nilslice [] .nil (by decide) n (by omega) (fun i hi=>absurd hi (by simp)) (fun i hi=>absurd hi (by simp))
 have k1:∀ st,Cl EE (.func 87 [] []) [R,iv n] st (.ret (.bool true)) st:=c87 R (restL n) hs.r (by rw [restL_len];omega) n (by omega) (fun i hi=>by rw [restL_at];rw [restL_len] at hi;omega) (fun i hi=>by rw [restL_at,restL_at];omega)
 have k2:∀ (g:Nat) (a c:List PV) (st:St),Cl EE (.func 71 [] []) [.nilslice,.func g a c] st (.ret (.bool false)) st:=fun g a c st=>c71 .nilslice [] .nil (by decide) g a c (fun _=>false) st (fun _ _ _ h=>by cases h)
 have e1:decide ((n:Int)>4)=false:=by simp;omega
 have e2:inB 0 0 2=true:=by decide
 refine cF2 pr86 fn86 (fun tm hl h0 h1=>?_)
 refine go2 (bw11 hl h0 h1 hRc hHs hGs hRs hb' (n4 lb) e1 e2) (bw5 k0 k1 c84 k2 fnil) ?_
 exact fQ hl
theorem c126 {L:Nat} {cs:List PV} (hcs:cs.length=4) (g:Nat) (ga gc:List PV) (st:St) (hL:hp st L=some (.arr cs)) (hg0:∀ st',st'.heap=st.heap→Cl EE (.func g ga gc) [.agg cs] st' (.ret (.bool false)) st'):Cl EE (.func 126 [] []) [.hslice L 4 1,.func g ga gc] st (.ret (iv (-1))) st:=by
 have lL:=hp_lt hL
 have hL':hp { heap:=st.heap,lo:=st.heap.length } L=some (.arr cs):=hL
 refine cF2 pr126 fn126 (fun tm hl h0 h1=>?_)
 refine go2 (bw3 hl h0 h1) fnil ?_
 refine wp_range 1 [] (fun i vs st'=>st'={ heap:=st.heap,lo:=st.heap.length }) (by omega) (sG hl) (sG hl) (sG hl) (by decide) rfl ?_ ?_
 ·rintro i hi tm1 st1 rfl hS hia
  obtain rfl:i=0:=by omega
  have hl1:tm1.length=19:=lN hS hl;have i0:tg tm1 0 = .hslice L 4 1:=tQ hS (bw3 hl h0 h1);have i1:tg tm1 1 = .func g ga gc:=tQ hS (bw3 hl h0 h1);clear hS
  have hb:=hg0 { heap:=st.heap,lo:=st.heap.length } rfl
  have e1:decide (0<1)=true:=rfl
  obtain ⟨a,b,c,d,rfl⟩:∃ a b c d,cs=[a,b,c,d]:=by
   match cs,hcs with
   | [a,b,c,d],_=>exact ⟨a,b,c,d,rfl⟩
  refine go2 (bw9 hl1 i0 i1 hia @op_indexAddrM @idxR_h Nat.zero_mul Nat.lt_add_one hL') (bw hb fnil) ?_
  rfl
 ·rintro tm1 st1 rfl hS
  have hl1:tm1.length=19:=lN hS hl;clear hS
  refine go2 hl1 fnil ?_
  exact fQ hl1
theorem c92 {L:Nat} {cs:List PV} (hcs:cs.length=4) (g:Nat) (ga gc:List PV) (st:St) (hL:hp st L=some (.arr cs)) (hg0:∀ st',st'.heap=st.heap→Cl EE (.func g ga gc) [.agg cs] st' (.ret (.bool false)) st'):Cl EE (.func 92 [] []) [.hslice L 4 1,.func g ga gc] st (.ret (.bool false)) st:=by
 have e1:decide ((-1:Int)≥0)=false:=by decide
 refine cF2 pr92 fn92 (fun tm hl h0 h1=>?_)
 refine go2 (bw4 hl h0 h1 e1) (bw (c126 hcs g ga gc ⟨st.heap,st.heap.length⟩ hL hg0) fnil) ?_
 exact fQ hl
end Go.Den.Tp
end
section
namespace Go.Den.Tp
open Go.Den.Ch (Fig CL Flt inB figB listB packB layerL layersL key brk disB disA disorder fullL gapL fault)
section
variable {E:Env} {tm:List PV} {st:St} {QD:Ex→List PV→St→List Foot→Prop} {dst:Option Nat} {g:Option (Nat×Bool)} {os:List DOper} {b:Bool} {v:PV}
theorem wopsD_ldA {agg:Bool} {sz:Nat} {a:Opd} {l off:Nat} {cs:List PV} (hlo:st.lo≤st.heap.length) (hw:wants tm g=b) (hb:b=true) (ha:a.ev tm = .aptr l off) (hh:hp st l=some (.arr cs)) (ht:decide (off≤cs.length)=true) (hv:rdPart agg sz (cs.drop off)=some v)
  (h:WOpsD E os (fun e tm' st' fs=>QD e tm' st' (.ld l::fs)) (put tm dst v) st):WOpsD E (⟨.load agg sz a,dst,g⟩::os) QD tm st :=
 wopsD_pure' (v:=v) hlo hw hb (fun rec st1 _ h1=>by
  have h2:st1.heap[l]? = some (.arr cs):=(h1 l).trans hh
  simp only [stepOp,ha,h2,of_decide_eq_true ht,if_true,hv,Option.map_some]) (by simp only [footOf,ha];exact h)
theorem wopsD_storeA {sz:Nat} {a x:Opd} {l off:Nat} {cs p cs':List PV} (hlo:st.lo≤st.heap.length) (hw:wants tm g=b) (hb:b=true) (ha:a.ev tm = .aptr l off) (hx:(x.ev tm).cells=p) (hh:hp st l=some (.arr cs)) (hp:(decide (p.length=sz)&&(decide (off+sz≤cs.length)&&p.all PV.isCell))=true) (hs:splice cs off p=cs')
  (h:WOpsD E os (fun e tm' st' fs=>QD e tm' st' (.st l::fs)) (put tm dst undef) (setVar st l (.arr cs'))):WOpsD E (⟨.store sz a x,dst,g⟩::os) QD tm st:=by
 simp only [Bool.and_eq_true,decide_eq_true_eq] at hp
 refine wopsD_set (v:=undef) (l:=l) (ob := .arr cs') hlo (Nat.le_of_lt (hp_lt hh)) hw hb (fun rec st1 _ h1=>?_) (by simp only [footOf,ha];exact h)
 have h2:st1.heap[l]? = some (.arr cs):=(h1 l).trans hh
 simp only [stepOp,ha,h2,hx,hp,and_self,if_true,hs]
end
theorem idx0 (L:Nat) (st:St):idxR 4 (.hslice L 4 1) (.int .i64 0) st=some (.val (.aptr L 0) st):=by simp [idxR]
theorem any_no {α:Type} (l:List α):(l.any fun _=>false)=false:=by simp
theorem c40 {n:Nat} {rk:List Int} {H G R:PV} {L:Nat} (hk:OkS n rk) (hs:SgOk n rk H G R) (st:St) (hL:hp st L=some (.arr [.nilslice,R,iv 0,.nilslice])):Cl EE (.func 40 [] []) [spPV n H G (.hslice L 4 1)] st (.ret (.bool true)) st:=by
 have l1:=hk.n1
 have l4:=hk.n4
 have hHs:=hs.h.slen
 have hGs:=hs.g.slen
 have hHc:=hs.h.cells
 have hGc:=hs.g.cells
 rw [hsL_len] at hHs
 rw [sfL_len,hk.len] at hGs
 have lL:=hp_lt hL
 have e1:inB (n:Int) 1 6=true:=by simp [inB];omega
 have e2:inB (n:Int) 0 n=true:=by simp [inB]
 have e3:inB 1 1 5=true:=by decide
 have k1:∀ st,Cl EE (.func 71 [] []) [H,.func 90 [] []] st (.ret (.bool false)) st:=fun st=>by
  have:=c71 H (hsL n) hs.h (by rw [hsL_len];omega) 90 [] [] (fun _=>false) st (fun st' _ a ha=>c90 a (by
   simp only [hsL,List.mem_map,List.mem_range] at ha
   obtain ⟨i,hi,rfl⟩:=ha
   omega) st')
  rwa [any_no] at this
 have k2:∀ st,Cl EE (.func 91 [] []) [G,.func 85 [] []] st (.ret (.bool false)) st:=fun st=>by
  have:=c91 G (sfL rk) hs.g (by rw [sfL_len,hk.len];omega) 85 [] [] (fun _=>false) st (fun st' _ a ha=>by
   simp only [sfL,List.mem_map] at ha
   obtain ⟨r,hr,rfl⟩:=ha
   have:=hk.rng r hr
   exact c85 _ rfl (by simp only;omega) rfl st')
  rwa [any_no] at this
 have k3:=c92 (L:=L) (cs:=[.nilslice,R,iv 0,.nilslice]) rfl 86 [] [.ptr st.heap.length 0] (({ heap:=st.heap,lo:=st.heap.length }:St).push (.var [iv n,H,G,.hslice L 4 1])) (by rw [hp_push,if_neg (by simp only;omega)];exact hL) (fun st' h=>c86 hk hs rfl st' _ (by show st'.heap[_]? = _;rw [h];exact (by simp only [↓reduceIte,go_sem]:hp (({ heap:=st.heap,lo:=st.heap.length }:St).push (.var [iv n,H,G,.hslice L 4 1])) st.heap.length=some (.var [iv n,H,G,.hslice L 4 1]))))
 refine cF1 pr40 fn40 (fun tm hl h0=>?_)
 refine go2 (bw9 hl h0 hHc hGc hHs hGs e1 e2 e3) (bw5 c84 k1 k2 k3 fnil) ?_
 exact fQ hl
theorem c41 {n:Nat} {H G:PV} {L:Nat} (hH:H.cells=[H]) (hG:G.cells=[G]) (st:St):Cl EE (.func 41 [] []) [spPV n H G (.hslice L 4 1),iv 0] st (.ret (.bool true)) st:=by
 have e1:inB 0 0 0=true:=by decide
 have hw:IntKind.wrap .i64 (((1:Nat):Int) - 1)=0:=by decide
 refine cF2 pr41 fn41 (fun tm hl h0 h1=>?_)
 refine go2 (bw7 hl h0 h1 hH hG hw e1) (bw c84 fnil) ?_
 exact fQ hl
theorem c43 {n:Nat} {H G R:PV} {L:Nat} (hH:H.cells=[H]) (hG:G.cells=[G]) (hR:R.cells=[R]) (iH:H.isCell=true) (iG:G.isCell=true) (iR:R.isCell=true) (st:St) (lH:H.low st.heap.length=true) (lG:G.low st.heap.length=true) (lR:R.low st.heap.length=true) (hL:hp st L=some (.arr [.nilslice,R,iv 0,.nilslice])):Cl EE (.func 43 [] []) [spPV n H G (.hslice L 4 1),iv 0] st (.ret (sgPV n H G (.hslice L 4 1) R)) st:=by
 have lL:=hp_lt hL
 have hL':hp { heap:=st.heap,lo:=st.heap.length } L=some (.arr [.nilslice,R,iv 0,.nilslice]):=hL
 refine cF2 pr43 fn43 (fun tm hl h0 h1=>?_)
 refine go2 (bw13 hl h0 h1 hH hG hR iH iG iR hL' @op_indexAddrM idx0 (n4 lL)) fnil ?_
 refine wopsD_ldA (l:=L) (off:=0) (cs:=[.nilslice,R,iv 0,.nilslice]) (v:=scPV R) (by simp only [lo_push,len_push];omega) rfl rfl (sG hl) (sG (bw hL' (n4 lL))) rfl rfl ?_
 refine go2 (bw9 hl h0 h1 hH hG hR iH iG iR) fnil ?_
 refine fnq_low (.inl rfl) (results_one ?_) (by simp only [lo_push,lo_setVar];omega) ?_
 ·rw [rdRes_hp (l:=st.heap.length+1) (off:=0) (sG hl)]
  simp only [↓reduceIte,go_sem,hl]
  first|done|rfl
 ·simp only [lowL,PV.low,lH,lG,lR,Bool.true_and,Bool.and_true,decide_eq_true_eq];exact lL
theorem c94 {n:Nat} {H G S R:PV} (hH:H.cells=[H]) (st:St):Cl EE (.func 94 [] []) [sgPV n H G S R,iv 3] st (.ret (.func 127 [] [.ptr st.heap.length 0,.ptr (st.heap.length+1) 0])) ((st.push (.var (sgL n H G S R))).push (.var [iv 3])):=by
 refine cF2 pr94 fn94 (fun tm hl h0 h1=>?_)
 refine go2 (bw3 hl h0 h1) fnil ?_
 unfold FnQ
 refine ⟨.func 127 [] [.ptr st.heap.length 0,.ptr (st.heap.length+1) 0],results_one (by rw [rdRes_tmp];simp only [↓reduceIte,go_sem,hl]),_,?_,rfl⟩
 unfold finishCall
 rw [if_pos (by simp only [lo_push];omega)]
 have:letGo st.heap.length ((({ heap:=st.heap,lo:=st.heap.length }:St).push (.var (sgL n H G S R))).push (.var [iv 3])).heap (.func 127 [] [.ptr st.heap.length 0,.ptr (st.heap.length+1) 0])=none:=by
  simp [letGo,freeze1,retag1,PV.low,lowL]
 rw [this]
 rfl
theorem c44 {n:Nat} {H G S R:PV} (hH:H.cells=[H]) (st:St):Cl EE (.func 44 [] []) [sgPV n H G S R] st (.ret (.func 127 [] [.ptr (st.heap.length+1) 0,.ptr (st.heap.length+2) 0])) (((st.push (.var (sgL n H G S R))).push (.var (sgL n H G S R))).push (.var [iv 3])):=by
 refine cF1 pr44 fn44 (fun tm hl h0=>?_)
 refine go2 (bw hl h0) (bw (c94 hH) fnil) ?_
 unfold FnQ
 refine ⟨.func 127 [] [.ptr (st.heap.length+1) 0,.ptr (st.heap.length+2) 0],results_one (by rw [rdRes_tmp];simp only [↓reduceIte,go_sem,hl]),_,?_,rfl⟩
 unfold finishCall
 rw [if_pos (by simp only [lo_push];omega)]
 have:letGo st.heap.length (((({ heap:=st.heap,lo:=st.heap.length }:St).push (.var (sgL n H G S R))).push (.var (sgL n H G S R))).push (.var [iv 3])).heap (.func 127 [] [.ptr (st.heap.length+1) 0,.ptr (st.heap.length+2) 0])=none:=by
  simp [letGo,freeze1,retag1,PV.low,lowL]
 rw [this]
 rfl
theorem c96 (st:St):Cl EE (.func 96 [] []) [] st (.ret (.agg [.func 129 [] [],.func 130 [] [],.func 131 [] []])) st:=by
 refine cF0 pr96 fn96 (fun tm hl=>?_)
 refine go2 hl fnil ?_
 refine fnq_low (.inl rfl) (results_one ?_) (by simp only [lo_push,lo_setVar];omega) rfl
 rw [rdRes_hp (l:=st.heap.length) (off:=0) (sG hl)]
 simp only [↓reduceIte,go_sem,hl]
 first|done|rfl
theorem c141 {n:Nat} {H G S R:PV} (x:Int) (st:St):Cl EE (.func 141 [] []) [sgPV n H G S R,iv x] st (.ret (.bool (decide (x<n)))) st:=by
 refine cF2 pr141 fn141 (fun tm hl h0 h1=>?_)
 refine go2 (bw3 hl h0 h1) fnil ?_
 exact fQ hl
theorem c95 {n:Nat} {H G S R:PV} (hn:n<1000) (hH:H.cells=[H]) (hHs:H.slen=some n) (x:Int) (hx:0≤x∧x<n) (st:St) (b:Nat) (hb:hp st b=some (.var (sgL n H G S R))):Cl EE (.func 95 [] [.ptr b 0]) [iv x] st (.ret (.bool false)) st:=by
 have lb:=hp_lt hb
 have hb':hp { heap:=st.heap,lo:=st.heap.length } b=some (.var (sgL n H G S R)):=hb
 have hw:IntKind.wrap .i64 ((n:Int) - 1)=(n:Int) - 1:=wrap_in (by unfold inI;omega)
 have e1:inB x 0 ((n:Int) - 1)=true:=by simp [inB];omega
 refine cF2 pr95 fn95 (fun tm hl h0 h1=>?_)
 refine go2 (bw9 hl h0 h1 hb' (n4 lb) hH hHs hw e1) (bw c84 fnil) ?_
 exact fQ hl
theorem c45 {n:Nat} {H G S R:PV} (hn:n<1000) (hHc:H.cells=[H]) (hHs:H.slen=some n) (hRc:R.cells=[R]) (hRs:R.slen=some n) (F:PV) (p:List Int) (hF:SlOf 1 encI F p) (hp0:p.length=n) (hp1:∀ x∈p,0≤x∧x<n) (st:St):Cl EE (.func 45 [] []) [sgPV n H G S R,F] st (.ret (.bool true)) st:=by
 have hFs:=hF.slen
 rw [hp0] at hFs
 have e1:((n:Int)==(n:Int))=true:=by simp
 have k1:∀ st',st'.heap=(({ heap:=st.heap,lo:=st.heap.length }:St).push (.var (sgL n H G S R))).heap→Cl EE (.func 71 [] []) [F,.func 95 [] [.ptr st.heap.length 0]] st' (.ret (.bool false)) st':=fun st' he=>by
  have:=c71 F p hF (by omega) 95 [] [.ptr st.heap.length 0] (fun _=>false) st' (fun st2 h2 a ha=>c95 hn hHc hHs a (hp1 a ha) st2 _ (by show st2.heap[_]? = _;rw [h2,he];exact (by simp only [↓reduceIte,go_sem]:hp (({ heap:=st.heap,lo:=st.heap.length }:St).push (.var (sgL n H G S R))) st.heap.length=some (.var (sgL n H G S R)))))
  rwa [any_no] at this
 refine cF2 pr45 fn45 (fun tm hl h0 h1=>?_)
 refine go2 (bw7 hl h0 h1 hFs hRc hRs e1) (bw (k1 _ rfl) fnil) ?_
 exact fQ hl
end Go.Den.Tp
end
section
namespace Go.Den.Tp
open Go.Den.Ch (Fig CL Flt inB figB listB packB layerL layersL key brk disB disA disorder fullL gapL fault)
theorem wrap_pred (k:Nat) (h:k<1000):IntKind.wrap .i64 (((k+1:Nat):Int) - 1)=(k:Int):=by
 rw [show ((k+1:Nat):Int) - 1=(k:Int) by omega];exact wrap_nat (by omega)
set_option maxHeartbeats 1000000 in
theorem c130 {n:Nat} {rk:List Int} {H G S R:PV} (hk:OkS n rk) (hs:SgOk n rk H G R) (F:PV) (p:List Int) (k:Nat) (hF:SlOf 1 encI F p) (hp0:p.length=k+1) (hkn:k<n) (hp1:∀ x∈p,0≤x∧x<n) (st:St):Cl EE (.func 130 [] []) [sgPV n H G S R,F] st (.ret (.bool true)) st:=by
 have l4:=hk.n4
 have hl:=hk.len
 have vH:=hs.h
 have vG:=hs.g
 have vR:=hs.r
 have hFs:=hF.slen
 rw [hp0] at hFs
 have hkp:k<p.length:=by omega
 obtain ⟨x,hx⟩:∃ x,p[k]=x:=⟨_,rfl⟩
 have hx1:=hp1 p[k] (List.getElem_mem hkp)
 rw [hx] at hx1
 obtain ⟨hx0,hxn⟩:=hx1
 have a1:x.toNat<(hsL n).length:=by rw [hsL_len];omega
 have a2:k<(restL n).length:=by rw [restL_len];omega
 have a3:k<(sfL rk).length:=by rw [sfL_len];omega
 have hkr:k<rk.length:=by omega
 have e1:(hsL n)[x.toNat]=n - x:=hsL_at hx0 hxn a1
 have e2:(restL n)[k]=(k:Int):=restL_at a2
 have e3:(sfL rk)[k]=⟨1,rk[k]+4,1⟩:=sfL_at a3 hkr
 have hw:=wrap_pred k (by omega)
 have hr:=hk.rng rk[k] (List.getElem_mem hkr)
 have e4:decide ((n:Int) - x≤rk[k]+4)=true:=by simp;omega
 clear hp1 hr
 refine cF2 pr130 fn130 (fun tm hl h0 h1=>?_)
 refine go2 (bw10 hl h0 h1 hFs hw hx e1 e2 e3 e4) fnil ?_
 exact fQ hl
theorem undef_e:undef = .tuple []:=rfl
abbrev esI (l:List Int):List (PV×PV):=l.map fun a=>(iv a,.agg [])
theorem findI_no {a:Int}:∀ {l:List Int} {i:Nat},a∉l→findKeyI a (esI l) i=some none
 | [],i,h=>rfl
 | b::l,i,h=>by
  simp only [List.mem_cons,not_or] at h
  simp only [List.map_cons,findKeyI]
  rw [if_neg (fun e=>h.1 e.symm)]
  exact findI_no h.2
theorem findI_yes {a:Int}:∀ {l:List Int} {i:Nat},a∈l→∃ j,j<l.length∧findKeyI a (esI l) i=some (some (i+j))
 | [],i,h=>by cases h
 | b::l,i,h=>by
  simp only [List.map_cons,findKeyI]
  by_cases hb:b=a
  ·rw [if_pos hb];exact ⟨0,by simp,rfl⟩
  ·rw [if_neg hb]
   rcases List.mem_cons.1 h with h1|h1
   ·exact absurd h1.symm hb
   ·obtain ⟨j,h2,h3⟩:=findI_yes (i:=i+1) h1
    exact ⟨j+1,by simp;omega,by rw [h3];congr 2;omega⟩
section
variable {E:Env} {rec:Rec} {tm:List PV} {st:St} {m k v:Opd} {l:Nat} {a:Int} {s:List Int}
theorem step_updI (hm:m.ev tm = .map l) (hk:k.ev tm=iv a) (hv:v.ev tm = .agg []) (hh:hp st l=some (.map (esI s))) (ha:a∉s):stepOp E rec tm st (.updateI m k v)=some (.val undef (setVar st l (.map (esI (s++[a]))))):=by
 have hh':st.heap[l]? = some (.map (esI s)):=hh
 simp only [stepOp,hm,hk,hv,hh',findI_no ha,List.map_append,List.map_cons,List.map_nil]
theorem step_lookI (hm:m.ev tm = .map l) (hk:k.ev tm=iv a) (hh:hp st l=some (.map (esI s))):stepOp E rec tm st (.lookupI (.agg []) m k true)=some (.val (.tuple [.agg [],.bool (hasI s a)]) st):=by
 have hh':st.heap[l]? = some (.map (esI s)):=hh
 by_cases ha:a∈s
 ·obtain ⟨j,h1,h2⟩:=findI_yes (i:=0) ha
  have e1:hasI s a=true:=by simp [hasI,ha]
  have e2:(esI s)[0+j]? = some (iv s[j],.agg []):=by rw [Nat.zero_add,List.getElem?_map,List.getElem?_eq_getElem h1];rfl
  simp only [stepOp,hm,hk,hh',h2,e2,Option.map_some,if_true,e1]
 ·have e1:hasI s a=false:=by simp only [hasI,List.any_eq_false,beq_iff_eq];rintro y hy rfl;exact ha hy
  simp only [stepOp,hm,hk,hh',findI_no ha,if_true,e1]
end
set_option maxHeartbeats 2000000 in
theorem c129 {n:Nat} {rk:List Int} {H G S R:PV} (hk:OkS n rk) (hs:SgOk n rk H G R) (F:PV) (p:List Int) (k:Nat) (hF:SlOf 1 encI F p) (hp0:p.length=k+1) (hkn:k<n) (hp1:∀ x∈p,0≤x∧x<n) (hnd:∀ i (hi:i<k),p[i]'(by omega)∉p.take i) (st:St):Cl EE (.func 129 [] []) [sgPV n H G S R,F] st (.ret (.bool (!hasI (p.take k) (p[k]'(by omega))))) st:=by
 have l4:=hk.n4
 have hl9:=hk.len
 have vG:=hs.g
 have vR:=hs.r
 have hFs:=hF.slen
 rw [hp0] at hFs
 have hkp:k<p.length:=by omega
 obtain ⟨x,hx⟩:∃ x,p[k]=x:=⟨_,rfl⟩
 have hx1:=hp1 p[k] (List.getElem_mem hkp)
 rw [hx] at hx1 ⊢
 obtain ⟨hx0,hxn⟩:=hx1
 have a2:k<(restL n).length:=by rw [restL_len];omega
 have a3:k<(sfL rk).length:=by rw [sfL_len];omega
 have hkr:k<rk.length:=by omega
 have e2:(restL n)[k]=(k:Int):=restL_at a2
 have e3:(sfL rk)[k]=⟨1,rk[k]+4,1⟩:=sfL_at a3 hkr
 have hw:=wrap_pred k (by omega)
 have e6:decide (x<(n:Int))=true:=by simp;omega
 have b1:((1:Int)==3)=false:=by decide
 have b2:((1:Int)==1)=true:=by decide
 refine cF2 pr129 fn129 (fun tm hl h0 h1=>?_)
 refine go2 (bw5 hl h0 h1 hFs hw) fnil ?_
 refine wp_range 0 [] (fun i vs st'=>st'=(({ heap:=st.heap,lo:=st.heap.length }:St).push (.var (sgL n H G S R))).push (.map [])) (by omega) (sG hl) (sG hl) (sG hl) (by decide) rfl (fun i hi=>absurd hi (by omega)) ?_
 rintro tm1 st1 rfl hS
 have hl1:tm1.length=80:=lN hS hl;have i1:tg tm1 1=F:=tQ hS (bw3 hl h0 h1);have i2:tg tm1 2 = .ptr st.heap.length 0:=tQ hS (bw3 hl h0 h1);have i5:tg tm1 5 = .map (st.heap.length+1):=tQ hS (bw3 hl h0 h1);clear hS
 refine go2 (bw6 hl1 i1 i2 i5 hFs hw) fnil ?_
 refine wops_slice rfl rfl (sR hl1) hF (m:=k) (n:=0) (by simp only [bound];simp only [↓reduceIte,go_sem,hl1];simp) (by rfl) (by omega) (by omega) ?_
 intro F2 hF2
 have eF2:List.take (k - 0) (List.drop 0 p)=p.take k:=by simp
 rw [eF2] at hF2
 have hF2s:=hF2.slen
 have hlt:(p.take k).length=k:=by simp;omega
 rw [hlt] at hF2s
 refine go2 (bw5 hl1 i1 i2 i5 hF2s) fnil ?_
 refine wp_range k [] (fun i vs st'=>hp st' (st.heap.length+1)=some (.map (esI (p.take i)))∧hp st' st.heap.length=some (.var (sgL n H G S R))∧st.heap.length≤st'.lo∧st'.lo≤st'.heap.length) (by omega) (sG hl1) (sG hl1) (sG hl1) (by decide) ⟨(sR fnil),(sG fnil),by simp only [lo_push];omega,by simp only [lo_push,len_push];omega⟩ ?_ ?_
 ·rintro i hi tm2 st2 ⟨hm,hv,hlo,hwf⟩ hS2 hia
  have hl2:tm2.length=80:=lN hS2 hl1;have j5:tg tm2 5 = .map (st.heap.length+1):=tQ hS2 (bw hl1 i5);have j32:tg tm2 32=F2:=tQ hS2 (bw hl1 i5);clear hS2
  have hi2:i<(p.take k).length:=by omega
  have ei:(p.take k)[i]=p[i]:=by simp
  refine go2 (bw5 hl2 j5 j32 hia ei) fnil ?_
  refine wops_one (v:=undef) (st1:=setVar st2 (st.heap.length+1) (.map (esI (p.take i++[p[i]])))) rfl (fun rec=>?_) ?_
  ·exact step_updI (sG (bw hl2 j5)) (sG hl2) (sG hl2) hm (hnd i hi)
  refine go2 (bw hl2 j5) fnil ?_
  have lm:=hp_lt hm
  refine ⟨?_,?_,by simp only [lo_setVar];omega,by simp only [lo_setVar,len_setVar];omega⟩
  ·rw [hp_setVar,if_pos rfl,if_pos lm,List.take_succ_eq_append_getElem (by omega)]
  ·rw [hp_setVar,if_neg (by omega)];exact hv
 ·rintro tm2 st2 ⟨hm,hv,hlo,hwf⟩ hS2
  have hl2:tm2.length=80:=lN hS2 hl1;have j1:tg tm2 1=F:=tQ hS2 (bw4 hl1 i1 i2 i5);have j2:tg tm2 2 = .ptr st.heap.length 0:=tQ hS2 (bw4 hl1 i1 i2 i5);have j5:tg tm2 5 = .map (st.heap.length+1):=tQ hS2 (bw4 hl1 i1 i2 i5);have j8:tg tm2 8=iv k:=tQ hS2 (bw4 hl1 i1 i2 i5);clear hS2
  have lv:=hp_lt hv
  refine go2 (bw6 hl2 j1 j2 j5 j8 hx) fnil ?_
  refine wops_one (v := .tuple [.agg [],.bool (hasI (p.take k) x)]) (st1:=st2) rfl (fun rec=>?_) ?_
  ·exact step_lookI (sG (bw hl2 j5)) (sG hl2) hm
  generalize hasI (p.take k) x=b
  cases b
  ·refine go2 (bw14 hl2 j1 j2 j5 j8 hx hv (n4 lv) e2 e3 e6 b1 b2 undef_e) (bw c141 fnil) ?_
   exact fQ hl2
  ·refine go2 (bw14 hl2 j1 j2 j5 j8 hx hv (n4 lv) e2 e3 e6 b1 b2 undef_e) fnil ?_
   exact fQ hl2
end Go.Den.Tp
end
section
namespace Go.Den.Tp
open Go.Den.Ch (Fig CL Flt inB figB listB packB layerL layersL key brk disB disA disorder fullL gapL fault)
def badR (n:Nat) (rk p:List Int) (k i:Nat):Bool:=(decide (rk.getD i 0+4<rk.getD k 0+4)&&decide ((n:Int) - p.getD i 0>n - p.getD k 0)) || (decide (rk.getD k 0+4<rk.getD i 0+4)&&decide ((n:Int) - p.getD k 0>n - p.getD i 0))
def rankB (n:Nat) (rk p:List Int) (k:Nat):Bool:=(List.range k).all fun i=>!badR n rk p k i
theorem rankB_yes {n:Nat} {rk p:List Int} {k:Nat} (h:∀ i,i<k→badR n rk p k i=false):rankB n rk p k=true:=by
 simp only [rankB,List.all_eq_true,List.mem_range]
 intro i hi
 rw [h i hi];rfl
theorem rankB_no {n:Nat} {rk p:List Int} {k i:Nat} (hi:i<k) (h:badR n rk p k i=true):rankB n rk p k=false:=by
 simp only [rankB,List.all_eq_false,List.mem_range]
 exact ⟨i,hi,by rw [h];decide⟩
set_option maxHeartbeats 4000000 in
theorem c131 {n:Nat} {rk:List Int} {H G S R:PV} (hk:OkS n rk) (hs:SgOk n rk H G R) (F:PV) (p:List Int) (k:Nat) (hF:SlOf 1 encI F p) (hp0:p.length=k+1) (hkn:k<n) (hp1:∀ x∈p,0≤x∧x<n) (st:St):Cl EE (.func 131 [] []) [sgPV n H G S R,F] st (.ret (.bool (rankB n rk p k))) st:=by
 have l4:=hk.n4
 have hl9:=hk.len
 have vH:=hs.h
 have vG:=hs.g
 have vR:=hs.r
 have hFs:=hF.slen
 rw [hp0] at hFs
 have hkp:k<p.length:=by omega
 obtain ⟨x,hx⟩:∃ x,p[k]=x:=⟨_,rfl⟩
 have hx1:=hp1 p[k] (List.getElem_mem hkp)
 have hxg:p.getD k 0=x:=by rw [← hx];simp [List.getD_eq_getElem?_getD,hkp]
 rw [hx] at hx1
 obtain ⟨hx0,hxn⟩:=hx1
 have a1:x.toNat<(hsL n).length:=by rw [hsL_len];omega
 have a2:k<(restL n).length:=by rw [restL_len];omega
 have a3:k<(sfL rk).length:=by rw [sfL_len];omega
 have hkr:k<rk.length:=by omega
 obtain ⟨rk0,hrk0⟩:∃ r,rk[k]=r:=⟨_,rfl⟩
 have hrkg:rk.getD k 0=rk0:=by rw [← hrk0];simp [List.getD_eq_getElem?_getD,hkr]
 have e1:(hsL n)[x.toNat]=n - x:=hsL_at hx0 hxn a1
 have e2:(restL n)[k]=(k:Int):=restL_at a2
 have e3:(sfL rk)[k]=⟨1,rk0+4,1⟩:=by rw [sfL_at a3 hkr,hrk0]
 have hw:=wrap_pred k (by omega)
 have e6:decide (x<(n:Int))=true:=by simp;omega
 refine cF2 pr131 fn131 (fun tm hl h0 h1=>?_)
 refine go2 (bw8 hl h0 h1 hFs hw hx e2 e3) fnil ?_
 refine wops_slice rfl rfl (sR hl) hF (m:=k) (n:=0) (by simp only [bound];simp only [↓reduceIte,go_sem,hl];simp) (by rfl) (by omega) (by omega) ?_
 intro F2 hF2
 have eF2:List.take (k - 0) (List.drop 0 p)=p.take k:=by simp
 rw [eF2] at hF2
 have hF2s:=hF2.slen
 have hlt:(p.take k).length=k:=by simp;omega
 rw [hlt] at hF2s
 refine go2 (bw4 hl h0 h1 hF2s) fnil ?_
 refine wp_range k [] (fun i vs st'=>(∀ j,j<i→badR n rk p k j=false)∧st'=({ heap:=st.heap,lo:=st.heap.length }:St).push (.var (sgL n H G S R))) (by omega) (sG hl) (sG hl) (sG hl) (by decide) ⟨fun j hj=>absurd hj (by omega),rfl⟩ ?_ ?_
 ·rintro i hi tm1 st1 ⟨hno,rfl⟩ hS hia
  have hl1:tm1.length=99:=lN hS hl;have i2:tg tm1 2 = .ptr st.heap.length 0:=tQ hS (bw3 hl h0 h1);have i6:tg tm1 6=iv (rk0+4):=tQ hS (bw3 hl h0 h1);have i7:tg tm1 7=iv x:=tQ hS (bw3 hl h0 h1);have i32:tg tm1 32=F2:=tQ hS (bw3 hl h0 h1);clear hS
  have hi2:i<(p.take k).length:=by omega
  have hip:i<p.length:=by omega
  have ei:(p.take k)[i]=p[i]:=by simp
  obtain ⟨y,hy⟩:∃ y,p[i]=y:=⟨_,rfl⟩
  have hyg:p.getD i 0=y:=by rw [← hy];simp [List.getD_eq_getElem?_getD,hip]
  have hy1:=hp1 p[i] (List.getElem_mem hip)
  rw [hy] at hy1 ei
  obtain ⟨hy0,hyn⟩:=hy1
  have d1:y.toNat<(hsL n).length:=by rw [hsL_len];omega
  have d2:i<(restL n).length:=by rw [restL_len];omega
  have d3:i<(sfL rk).length:=by rw [sfL_len];omega
  have hir:i<rk.length:=by omega
  obtain ⟨ri,hri⟩:∃ r,rk[i]=r:=⟨_,rfl⟩
  have hrig:rk.getD i 0=ri:=by rw [← hri];simp [List.getD_eq_getElem?_getD,hir]
  have f1:(hsL n)[y.toNat]=n - y:=hsL_at hy0 hyn d1
  have f2:(restL n)[i]=(i:Int):=restL_at d2
  have f3:(sfL rk)[i]=⟨1,ri+4,1⟩:=by rw [sfL_at d3 hir,hri]
  have f6:decide (y<(n:Int))=true:=by simp;omega
  have k141:∀ (z:Int) (st:St),Cl EE (.func 141 [] []) [sgPV n H G S R,iv z] st (.ret (.bool (decide (z<n)))) st:=fun z st=>c141 z st
  have t1:(true==true)=true:=rfl
  cases hA:decide (ri+4<rk0+4)
  ·cases hC:decide (rk0+4<ri+4)
   ·have hb:badR n rk p k i=false:=by simp only [badR,hrig,hrkg,hyg,hxg,hA,hC,Bool.false_and,Bool.or_self]
    refine go2 (bw17 hl1 i2 i6 i7 i32 hia ei f1 f2 f3 f6 e1 e6 hA hC undef_e t1) (bw k141 fnil) ?_
    exact ⟨fun j hj=>by rcases Nat.lt_or_ge j i with h|h;exact hno j h;exact (show j=i by omega) ▸ hb,rfl⟩
   ·cases hD:decide ((n:Int) - x>n - y)
    ·have hb:badR n rk p k i=false:=by simp only [badR,hrig,hrkg,hyg,hxg,hA,hC,hD,Bool.false_and,Bool.and_false,Bool.or_self]
     refine go2 (bw18 hl1 i2 i6 i7 i32 hia ei f1 f2 f3 f6 e1 e6 hA hC hD undef_e t1) (bw k141 fnil) ?_
     exact ⟨fun j hj=>by rcases Nat.lt_or_ge j i with h|h;exact hno j h;exact (show j=i by omega) ▸ hb,rfl⟩
    ·have hb:badR n rk p k i=true:=by simp only [badR,hrig,hrkg,hyg,hxg,hA,hC,hD,Bool.false_and,Bool.and_self,Bool.false_or]
     rw [rankB_no hi hb]
     refine go2 (bw18 hl1 i2 i6 i7 i32 hia ei f1 f2 f3 f6 e1 e6 hA hC hD undef_e t1) (bw k141 fnil) ?_
     exact fQ hl1
  ·cases hB:decide ((n:Int) - y>n - x)
   ·have hC:decide (rk0+4<ri+4)=false:=by
     have:=of_decide_eq_true hA
     simp;omega
    have hb:badR n rk p k i=false:=by simp only [badR,hrig,hrkg,hyg,hxg,hA,hB,hC,Bool.false_and,Bool.and_false,Bool.or_self]
    refine go2 (bw18 hl1 i2 i6 i7 i32 hia ei f1 f2 f3 f6 e1 e6 hA hB hC undef_e t1) (bw k141 fnil) ?_
    exact ⟨fun j hj=>by rcases Nat.lt_or_ge j i with h|h;exact hno j h;exact (show j=i by omega) ▸ hb,rfl⟩
   ·have hb:badR n rk p k i=true:=by simp only [badR,hrig,hrkg,hyg,hxg,hA,hB,Bool.and_self,Bool.true_or]
    rw [rankB_no hi hb]
    refine go2 (bw17 hl1 i2 i6 i7 i32 hia ei f1 f2 f3 f6 e1 e6 hA hB undef_e t1) (bw k141 fnil) ?_
    exact fQ hl1
 ·rintro tm1 st1 ⟨hno,rfl⟩ hS
  have hl1:tm1.length=99:=lN hS hl;clear hS
  rw [rankB_yes hno]
  refine go2 hl1 fnil ?_
  exact fQ hl1
end Go.Den.Tp
end
section
namespace Go.Den.Tp
open Go.Den.Ch (Fig CL Flt inB figB listB packB layerL layersL key brk disB disA disorder fullL gapL fault)
def okB (n:Nat) (rk p:List Int) (k:Nat):Bool:=!hasI (p.take k) (p.getD k 0)&&rankB n rk p k
def restsB (n:Nat) (rk p:List Int):Bool:=(List.range p.length).all fun k=>okB n rk p k
theorem getD_take {p:List Int} {k i:Nat} (h:i≤k):(p.take (k+1)).getD i 0=p.getD i 0:=by
 rw [List.getD_eq_getElem?_getD,List.getD_eq_getElem?_getD,List.getElem?_take,if_pos (by omega)]
theorem rankB_take (n:Nat) (rk p:List Int) (k:Nat):rankB n rk (p.take (k+1)) k=rankB n rk p k:=by
 unfold rankB
 rw [Bool.eq_iff_iff,List.all_eq_true,List.all_eq_true]
 have key:∀ i,i<k→badR n rk (p.take (k+1)) k i=badR n rk p k i:=fun i hi=>by
  unfold badR
  rw [getD_take (Nat.le_of_lt hi),getD_take (Nat.le_refl k)]
 exact ⟨fun h i hi=>by rw [← key i (List.mem_range.1 hi)];exact h i hi,fun h i hi=>by rw [key i (List.mem_range.1 hi)];exact h i hi⟩
theorem restsB_no {n:Nat} {rk p:List Int} {k:Nat} (hk:k<p.length) (h:okB n rk p k=false):restsB n rk p=false:=by
 simp only [restsB,List.all_eq_false,List.mem_range]
 exact ⟨k,hk,by rw [h];decide⟩
theorem okB_not {n:Nat} {rk p:List Int} {k:Nat} (hk:k<p.length) (h:okB n rk p k=true):p[k]∉p.take k:=by
 simp only [okB,Bool.and_eq_true,Bool.not_eq_true'] at h
 intro hm
 have e:p.getD k 0=p[k]:=by simp [List.getD_eq_getElem?_getD,hk]
 rw [e] at h
 have:hasI (p.take k) p[k]=true:=by simp only [hasI,List.any_eq_true];exact ⟨_,hm,by simp⟩
 rw [this] at h
 cases h.1
section
variable {n:Nat} {rk:List Int} {H G S R:PV}
theorem rules_of (hk:OkS n rk) (hs:SgOk n rk H G R) (F:PV) (p:List Int) (k:Nat) (hkp:k<p.length) (hF:SlOf 1 encI F (p.take (k+1))) (hkn:k<n) (hp1:∀ x∈p,0≤x∧x<n) (hnd:∀ i,i<k→okB n rk p i=true) :
  (∀ st,Cl EE (.func 129 [] []) [sgPV n H G S R,F] st (.ret (.bool (!hasI (p.take k) (p.getD k 0)))) st)∧(∀ st,Cl EE (.func 130 [] []) [sgPV n H G S R,F] st (.ret (.bool true)) st)∧(∀ st,Cl EE (.func 131 [] []) [sgPV n H G S R,F] st (.ret (.bool (rankB n rk p k))) st):=by
 have hl:(p.take (k+1)).length=k+1:=by simp;omega
 have h1:∀ x∈p.take (k+1),0≤x∧x<n:=fun x hx=>hp1 x (List.mem_of_mem_take hx)
 refine ⟨fun st=>?_,fun st=>c130 hk hs F _ k hF hl hkn h1 st,fun st=>?_⟩
 ·have:=c129 (S:=S) hk hs F _ k hF hl hkn h1 (fun i hi=>by
   have h2:=okB_not (by omega) (hnd i hi)
   rw [List.take_take,Nat.min_eq_left (by omega)]
   simpa using h2) st
  rw [List.take_take,Nat.min_eq_left (by omega)] at this
  have e:(p.take (k+1))[k]'(by omega)=p.getD k 0:=by simp [List.getD_eq_getElem?_getD,hkp]
  rw [e] at this
  exact this
 ·have:=c131 (S:=S) hk hs F _ k hF hl hkn h1 st
  rwa [rankB_take] at this
set_option maxHeartbeats 4000000 in
theorem c46 (hk:OkS n rk) (hs:SgOk n rk H G R) (F:PV) (p:List Int) (hF:SlOf 1 encI F p) (hp0:p.length=n) (hp1:∀ x∈p,0≤x∧x<n) (st:St):Cl EE (.func 46 [] []) [sgPV n H G S R,F] st (.ret (.bool (restsB n rk p))) st:=by
 have l4:=hk.n4
 have hFs:=hF.slen
 rw [hp0] at hFs
 refine cF2 pr46 fn46 (fun tm hl h0 h1=>?_)
 refine go2 (bw4 hl h0 h1 hFs) fnil ?_
 refine wp_range n [] (fun i vs st'=>(∀ j,j<i→okB n rk p j=true)∧st'=({ heap:=st.heap,lo:=st.heap.length }:St).push (.var (sgL n H G S R))) (by omega) (sG hl) (sG hl) (sG hl) (by decide) ⟨fun j hj=>absurd hj (by omega),rfl⟩ ?_ ?_
 ·rintro i hi tm1 st1 ⟨hno,rfl⟩ hS hia
  have hl1:tm1.length=27:=lN hS hl;have i1:tg tm1 1=F:=tQ hS (bw3 hl h0 h1);have i2:tg tm1 2 = .ptr st.heap.length 0:=tQ hS (bw3 hl h0 h1);clear hS
  have hw:=wS i (by omega)
  refine go2 (bw4 hl1 i1 i2 hia) (bw c96 fnil) ?_
  refine wp_range 3 [] (fun j vs st'=>(0<j→hasI (p.take i) (p.getD i 0)=false)∧(2<j→rankB n rk p i=true)∧st'=({ heap:=st.heap,lo:=st.heap.length }:St).push (.var (sgL n H G S R))) (by omega) (sG hl1) (sR hl1) (sG hl1) (by decide) ⟨fun h=>absurd h (by omega),fun h=>absurd h (by omega),rfl⟩ ?_ ?_
  ·rintro j hj tm2 st2 ⟨hj1,hj2,rfl⟩ hS2 hja
   have hl2:tm2.length=27:=lN hS2 hl1;have j1:tg tm2 1=F:=tQ hS2 (bw3 hl1 i1 i2);have j2:tg tm2 2 = .ptr st.heap.length 0:=tQ hS2 (bw3 hl1 i1 i2);have j5:tg tm2 5=iv i:=tQ hS2 (bw3 hl1 i1 i2);have j13:tg tm2 13 = .agg [.func 129 [] [],.func 130 [] [],.func 131 [] []]:=tQ hS2 (bw3 hl1 i1 i2);clear hS2
   have r0:(p.length:Int)=n:=by omega
   obtain rfl|rfl|rfl:j=0∨j=1∨j=2:=by omega
   ·refine go2 hl2 fnil ?_
    refine wops_one (v := .func 129 [] []) (st1:=({ heap:=st.heap,lo:=st.heap.length }:St).push (.var (sgL n H G S R))) rfl (fun rec=>?_) ?_
    ·simp only [stepOp,ev_t,j13,hja];rfl
    refine go2 (bw6 hl2 j1 j2 j5 hja hw) fnil ?_
    refine wopsD_slice (by simp only [lo_push,len_push];omega) rfl rfl (by skip;simp only [↓reduceIte,go_sem,hl2,j1];first|done|rfl) hF (m:=i+1) (n:=0) (by simp only [bound];simp only [↓reduceIte,go_sem,hl2];simp;omega) (by rfl) (by omega) (by omega) ?_
    intro F2 hF2
    have eF2:List.take (i+1 - 0) (List.drop 0 p)=p.take (i+1):=by simp
    rw [eF2] at hF2
    obtain ⟨k129,k130,k131⟩:=rules_of (S:=S) hk hs F2 p i (by omega) hF2 hi hp1 hno
    cases hb:hasI (p.take i) (p.getD i 0)
    ·rw [hb] at k129
     refine go2 (bw3 hl2 j1 j2) (bw k129 fnil) ?_
     exact ⟨fun _=>rfl,fun h=>absurd h (by omega),rfl⟩
    ·rw [hb] at k129
     rw [restsB_no (k:=i) (by omega) (by simp only [okB,hb,Bool.not_true,Bool.false_and])]
     refine go2 (bw3 hl2 j1 j2) (bw k129 fnil) ?_
     exact fQ hl2
   ·refine go2 hl2 fnil ?_
    refine wops_one (v := .func 130 [] []) (st1:=({ heap:=st.heap,lo:=st.heap.length }:St).push (.var (sgL n H G S R))) rfl (fun rec=>?_) ?_
    ·simp only [stepOp,ev_t,j13,hja];rfl
    refine go2 (bw6 hl2 j1 j2 j5 hja hw) fnil ?_
    refine wopsD_slice (by simp only [lo_push,len_push];omega) rfl rfl (by skip;simp only [↓reduceIte,go_sem,hl2,j1];first|done|rfl) hF (m:=i+1) (n:=0) (by simp only [bound];simp only [↓reduceIte,go_sem,hl2];simp;omega) (by rfl) (by omega) (by omega) ?_
    intro F2 hF2
    have eF2:List.take (i+1 - 0) (List.drop 0 p)=p.take (i+1):=by simp
    rw [eF2] at hF2
    obtain ⟨k129,k130,k131⟩:=rules_of (S:=S) hk hs F2 p i (by omega) hF2 hi hp1 hno
    refine go2 (bw3 hl2 j1 j2) (bw k130 fnil) ?_
    exact ⟨fun _=>hj1 (by omega),fun h=>absurd h (by omega),rfl⟩
   ·refine go2 hl2 fnil ?_
    refine wops_one (v := .func 131 [] []) (st1:=({ heap:=st.heap,lo:=st.heap.length }:St).push (.var (sgL n H G S R))) rfl (fun rec=>?_) ?_
    ·simp only [stepOp,ev_t,j13,hja];rfl
    refine go2 (bw6 hl2 j1 j2 j5 hja hw) fnil ?_
    refine wopsD_slice (by simp only [lo_push,len_push];omega) rfl rfl (by skip;simp only [↓reduceIte,go_sem,hl2,j1];first|done|rfl) hF (m:=i+1) (n:=0) (by simp only [bound];simp only [↓reduceIte,go_sem,hl2];simp;omega) (by rfl) (by omega) (by omega) ?_
    intro F2 hF2
    have eF2:List.take (i+1 - 0) (List.drop 0 p)=p.take (i+1):=by simp
    rw [eF2] at hF2
    obtain ⟨k129,k130,k131⟩:=rules_of (S:=S) hk hs F2 p i (by omega) hF2 hi hp1 hno
    cases hb:rankB n rk p i
    ·rw [hb] at k131
     rw [restsB_no (k:=i) (by omega) (by simp only [okB,hb,Bool.and_false])]
     refine go2 (bw3 hl2 j1 j2) (bw k131 fnil) ?_
     exact fQ hl2
    ·rw [hb] at k131
     refine go2 (bw3 hl2 j1 j2) (bw k131 fnil) ?_
     exact ⟨fun _=>hj1 (by omega),fun _=>rfl,rfl⟩
  ·rintro tm2 st2 ⟨hj1,hj2,rfl⟩ hS2
   have hl2:tm2.length=27:=lN hS2 hl1;clear hS2
   refine go2 hl2 fnil ?_
   refine ⟨fun j hj=>?_,rfl⟩
   rcases Nat.lt_or_ge j i with h|h
   ·exact hno j h
   ·obtain rfl:j=i:=by omega
    simp only [okB,hj1 (by omega),hj2 (by omega),Bool.not_false,Bool.and_self]
 ·rintro tm1 st1 ⟨hno,rfl⟩ hS
  have hl1:tm1.length=27:=lN hS hl;clear hS
  have e:restsB n rk p=true:=by
   simp only [restsB,List.all_eq_true,List.mem_range]
   intro k hk2
   exact hno k (by omega)
  rw [e]
  refine go2 hl1 fnil ?_
  exact fQ hl1
end
end Go.Den.Tp
end

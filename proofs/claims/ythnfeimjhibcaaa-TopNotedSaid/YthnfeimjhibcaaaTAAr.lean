/- Part of the proofs of laws of the package version. Texts: TqC, TqD, TqE, TqF, TqG, TqH. -/
import Derived.Test.YthnfeimjhibcaaaTAAq
import Derived.Test.YthnfeimjhibcaaaTAAl
set_option linter.unusedSimpArgs false
set_option linter.unusedVariables false
section
namespace Go.Den.Tq
open Go.Den.Tp Go.Den.Ve
theorem plays_take {T:List (List Mv)} {l:List Int} {i:Nat} (hi:i<l.length) (s:Int):plays T s (l.take (i+1))=plays T s (l.take i)++[(mvAt T (stTo T s (l.take i)) l[i]).tune]:=by
 rw [List.take_succ_eq_append_getElem hi,plays_snoc]
theorem stTo_take {T:List (List Mv)} {l:List Int} {i:Nat} (hi:i<l.length) (s:Int):stTo T s (l.take (i+1))=(mvAt T (stTo T s (l.take i)) l[i]).next:=by
 rw [List.take_succ_eq_append_getElem hi,stTo_snoc]
def InC (cues:Int) (l:List Int):Prop:=∀ c∈l,0≤c∧c<cues
theorem InC.take {cues:Int} {l:List Int} (h:InC cues l) (i:Nat):InC cues (l.take i):=fun c hc=>h c (List.mem_of_mem_take hc)
set_option maxHeartbeats 2000000 in
theorem c31 {cues tunes:Int} (x:VP) (hV:OkV cues tunes x) (L:PV) (l:List Int) (hL:SlOf 1 encI L l) (hN:l.length<1000) (hl0:InC cues l) (st:St):ClR EE (.func 31 [] []) [x.pv,L] st (fun v st'=>∃ P,v = .tuple [P,plPV x (stTo x.t 0 l)]∧P.sl=some (l.length,(plays x.t 0 l).flatMap encI)∧Keep st st'):=by
 have hLs:=hL.slen
 refine cG2 pr31 fn31 (fun tm hl h0 h1=>?_)
 refine go2 (bw4 hl h0 h1 hLs) fnil ?_
 refine wp_range l.length [7] (fun i vs st'=>∃ v,vs=[v]∧OwnS st.heap.length st' 1 v i ((plays x.t 0 (l.take i)).flatMap encI)∧st.heap.length≤st'.lo∧st'.lo≤st'.heap.length∧hp st' (st.heap.length+1)=some (.var [.nilslice,iv 0])∧hp st' (st.heap.length+1+1)=some (.var [x.v,iv (stTo x.t 0 (l.take i))])∧HExt st.heap st'.heap) (by omega) (sG hl) (sG hl) (sG hl) (by decide) ⟨_,(sG hl),.nil,by simp [lo_push,lo_setVar],by simp [lo_push,lo_setVar,len_push,len_setVar];omega,(sG hl),(sR hl),?_⟩ ?_ ?_
 ·exact ((((HExt.push ⟨st.heap,st.heap.length⟩ _).trans (.push _ _)).trans (.push _ _)).setVar (by simp only [len_push];omega))
 ·rintro i hi tm1 st1 ⟨v,hv,hO,hlo,hwf,hr,hp0,hx⟩ hS hia
  simp only [List.map_cons,List.map_nil,List.cons.injEq,and_true] at hv
  have hl1:tm1.length=34:=lN hS hl;have i6:tg tm1 6 = .ptr (st.heap.length+1+1) 0:=tQ hS (bw hl h1);have i14:tg tm1 14=L:=tQ hS (bw hl h1);clear hS
  have lr:=hp_lt hr
  have lp:=hp_lt hp0
  obtain ⟨hAt,hnx,htn⟩:=hV.at (hV.stTo _ (hl0.take i)) (hl0 _ (List.getElem_mem hi))
  have hcall:=c73 x _ _ _ hAt st1
  refine go2 (bw6 hl1 i6 i14 hia hp0 (n4 lp)) fnil ?_
  refine cR hl1 (hcall) ?_
  rintro u st2 ⟨rfl,hk⟩
  have hr2:=hk.hp hr
  have hp2:=hk.hp hp0
  have lr2:=hp_lt hr2
  have lp2:=hp_lt hp2
  have hlo2:st2.lo=st1.lo:=hk.2
  have hln:=hk.len
  refine go2 (bw7 hl1 i6 hv hr2 hp2 (n4 lr2) (n4 lp2)) fnil ?_
  have hO2:OwnS st.heap.length st2 1 v i ((plays x.t 0 (l.take i)).flatMap encI):=OwnS.hext hO hk.1
  refine aP (bw hl1 hv) ((own_var (y:=[x.v,iv (stTo x.t 0 (l.take i))]) (own_new hO2) (sG (bw hp2 (n4 lp2)))).push) ?_
  intro v' st3 hO3 hFr hk3
  have hlo3:=hFr.lo
  have hln3:=hFr.len
  have hup3:=hFr.up
  simp only [lo_push,lo_setVar,len_push,len_setVar] at hlo3 hln3 hup3
  refine go2 hl1 fnil ?_
  refine ⟨v',(sG hl1),?_,by omega,by omega,hk3 _ _ (sG (bw3 hr2 (n4 lr2) (n4 lp2))) (by simp),?_,?_⟩
  ·rw [plays_take hi,List.flatMap_append]
   exact hO3
  ·rw [stTo_take hi]
   exact hk3 _ _ (sG (bw3 hp2 (n4 lr2) (n4 lp2))) (by simp)
  ·exact (((((hx.trans hk.1).trans (.push _ _)).setVar (by omega)).setVar (by omega)).trans (.push _ _)).fr hFr
 ·rintro tm1 st1 ⟨v,hv,hO,hlo,hwf,hr,hp0,hx⟩ hS
  simp only [List.map_cons,List.map_nil,List.cons.injEq,and_true,List.take_length] at hv
  rw [List.take_length] at hO hp0
  have hl1:tm1.length=34:=lN hS hl;have i5:tg tm1 5 = .ptr (st.heap.length+1) 0:=tQ hS hl;have i6:tg tm1 6 = .ptr (st.heap.length+1+1) 0:=tQ hS hl;clear hS
  have lr:=hp_lt hr
  have lp:=hp_lt hp0
  refine go2 (bw8 hl1 i5 i6 hv hr hp0 (n4 lr) (n4 lp)) fnil ?_
  refine fX (.tuple [v,plPV x (stTo x.t 0 l)]) (bw4 hl1 i5 hr (n4 lr)) ?_
  obtain ⟨v',e1,e2,e3⟩:=finish_slA (st:=st) (st1:=setVar st1 (st.heap.length+1) (.var [x.v,iv (stTo x.t 0 l)])) (Z:=plPV x (stTo x.t 0 l)) hO.sl (by rfl) (by rw [lo_setVar];omega) (fun m=>ints_low _ m) (hx.setVar (by omega))
  exact ⟨v',e1,e2,e3⟩
def notedB (t h:List Int):Bool:=(List.range h.length).all fun i=>!(decide (0≤h.getD i 0)&&t.getD i 0 != h.getD i 0)
theorem c78 (T H:PV) (t h:List Int) (hT:SlOf 1 encI T t) (hH:SlOf 1 encI H h) (hN:h.length<1000) (hlen:t.length=h.length) (st:St):Cl EE (.func 78 [] []) [T,H] st (.ret (.bool (notedB t h))) st:=by
 have hTs:=hT.slen
 have hHs:=hH.slen
 refine cF2 pr78 fn78 (fun tm hl h0 h1=>?_)
 refine go2 (bw5 hl h0 h1 hTs hHs) fnil ?_
 refine wp_range h.length [] (fun i vs st'=>st'={ heap:=st.heap,lo:=st.heap.length }∧∀ k (hk:k<i),(decide (0≤h.getD k 0)&&t.getD k 0 != h.getD k 0)=false) (by omega) (sG hl) (sG hl) (sG hl) (by decide) ⟨rfl,fun k hk=>absurd hk (by omega)⟩ ?_ ?_
 ·rintro i hi tm1 st1 ⟨rfl,hno⟩ hS hia
  have hl1:tm1.length=25:=lN hS hl;have i0:tg tm1 0=T:=tQ hS (bw3 hl h0 h1);have i7:tg tm1 7=H:=tQ hS (bw3 hl h0 h1);clear hS
  have hi2:i<t.length:=by omega
  have eh:h.getD i 0=h[i]:=by rw [List.getD_eq_getElem?_getD,List.getElem?_eq_getElem hi];rfl
  have et:t.getD i 0=t[i]:=by rw [List.getD_eq_getElem?_getD,List.getElem?_eq_getElem hi2];rfl
  have hstep:∀ b,(decide (0≤h[i])&&t[i] != h[i])=b→b=false→∀ k,k<i+1→(decide (0≤h.getD k 0)&&t.getD k 0 != h.getD k 0)=false:=by
   intro b hb hf k hk
   by_cases hki:k=i
   ·subst hki;rw [eh,et,hb,hf]
   ·exact hno k (by omega)
  have hstop:(decide (0≤h[i])&&t[i] != h[i])=true→notedB t h=false:=by
   intro hb
   unfold notedB
   rw [List.all_eq_false]
   exact ⟨i,by simpa using hi,by rw [eh,et,hb];simp⟩
  cases hA:decide (h[i]≥0)
  ·refine go2 (bw5 hl1 i0 i7 hia hA) fnil ?_
   exact ⟨rfl,hstep _ (by rw [show decide (0≤h[i])=false from hA];rfl) rfl⟩
  ·cases hB:(t[i] != h[i])
   ·refine go2 (bw6 hl1 i0 i7 hia hA hB) fnil ?_
    exact ⟨rfl,hstep _ (by rw [hB];simp) rfl⟩
   ·rw [hstop (by rw [show decide (0≤h[i])=true from hA,hB];rfl)]
    refine go2 (bw6 hl1 i0 i7 hia hA hB) fnil ?_
    exact fQ hl1
 ·rintro tm1 st1 ⟨rfl,hno⟩ hS
  have hl1:tm1.length=25:=lN hS hl;clear hS
  have e:notedB t h=true:=by
   unfold notedB
   rw [List.all_eq_true]
   intro k hk
   rw [hno k (by simpa using hk)]
   rfl
  rw [e]
  refine go2 hl1 fnil ?_
  exact fQ hl1
theorem c9 (b:QB) (hN:SmQ b) (hb:qbB b=true) (n:Nat) (hn:n<b.vs.length) (L:PV) (l:List Int) (hL:SlOf 1 encI L l) (h8:l.length≤8) (hl0:InC b.cues l) (st:St):ClR EE (.func 9 [] []) [b.pv,iv n,L] st (fun v st'=>∃ P,v = .tuple [P,iv 0]∧RetW st l.length ((plays (b.vs[n]).t 0 l).flatMap encI) P st'):=by
 have hLc:=hL.cells
 have hLi:=hL.isCell
 have hbh:=b.h
 have hq:=hb
 simp only [qbB,Bool.and_eq_true,List.all_eq_true] at hq
 obtain ⟨hc,ht,hv,hall⟩:=hq
 have hV:=okV_iff.1 (hall _ (List.getElem_mem hn))
 have k28:=fun st=>c28 b hN st
 have k29:=fun st=>c29 b hN n st
 have k30:=fun st=>c30 b hc L l hL st
 have hB:inN (n:Int) 0 ((b.vs.length:Int) - 1)=true:=by simp only [inN,Bool.and_eq_true,decide_eq_true_eq];omega
 have hC:cuesB b l=true:=by
  simp only [cuesB,Bool.and_eq_true,decide_eq_true_eq,List.all_eq_true,inN]
  exact ⟨h8,fun c hc=>by have:=hl0 c hc;omega⟩
 refine cG3 pr9 fn9 (fun tm hl h0 h1 h2=>?_)
 refine go2 (bw7 hl h0 h1 h2 hb hB hC) (bw4 k28 k29 k30 fnil) ?_
 have hcall:=fun st=>c31 b.vs[n] hV L l hL (by omega) hl0 st
 refine cR (bw3 hl h1 h2) (hcall _) ?_
 rintro u st2 ⟨P,rfl,hP,hk⟩
 have hlo2:st2.lo=st.heap.length:=hk.2
 refine go2 hl fnil ?_
 refine fX (.tuple [P,iv 0]) hl ?_
 have:=finish_slT (st:=st) (st1:=setVar (st2.push (.var [.nilslice,iv 0])) st2.heap.length (.var [(b.vs[n]).v,iv (stTo (b.vs[n]).t 0 l)])) (vs:=[iv 0]) hP (by rfl) (by simp only [lo_setVar,lo_push];have:=hk.len;simp only [len_push] at this;omega) (fun m=>ints_low _ m)
 exact this
end Go.Den.Tq
end
section
namespace Go.Den.Tq
open Go.Den.Tp Go.Den.Ve
theorem c22 (x lo hi:Int) (st:St):Cl EE (.func 22 [] []) [iv x,iv lo,iv hi] st (.ret (.bool (inN x lo hi))) st:=by
 refine cF3 pr22 fn22 (fun tm hl h0 h1 h2=>?_)
 have e:inN x lo hi=(decide (x≥lo)&&decide (x≤hi)):=rfl
 rw [e]
 cases hd:decide (x≥lo)
 ·refine go2 (bw5 hl h0 h1 h2 hd) fnil ?_
  exact fQ hl
 ·refine go2 (bw5 hl h0 h1 h2 hd) fnil ?_
  exact fQ hl
theorem c56 (b:QB) (hc:inN b.cues 1 4=true) (n:Int) (st:St):Cl EE (.func 56 [] []) [b.pv,iv n] st (.ret (.bool (inN n 0 (b.cues - 1)))) st:=by
 simp only [inN,Bool.and_eq_true,decide_eq_true_eq] at hc
 have hw:=wrapM hc.1 (by omega)
 refine cF2 pr56 fn56 (fun tm hl h0 h1=>?_)
 refine go2 (bw4 hl h0 h1 hw) (bw c22 fnil) ?_
 exact fQ hl
theorem c32 (b:QB) (ht:inN b.tunes 1 6=true) (n:Int) (st:St):Cl EE (.func 32 [] []) [b.pv,iv n] st (.ret (.bool (inN n 0 (b.tunes - 1)))) st:=by
 simp only [inN,Bool.and_eq_true,decide_eq_true_eq] at ht
 have hw:=wrapM ht.1 (by omega)
 refine cF2 pr32 fn32 (fun tm hl h0 h1=>?_)
 refine go2 (bw4 hl h0 h1 hw) (bw c22 fnil) ?_
 exact fQ hl
theorem c6 (b:QB) (hN:SmQ b) (n:Int) (st:St):Cl EE (.func 6 [] []) [b.pv,iv n] st (.ret (.bool (inN n 0 (b.vs.length - 1)))) st:=by
 have hw:=wrapL hN.n
 refine cF2 pr6 fn6 (fun tm hl h0 h1=>?_)
 refine go2 (bw4 hl h0 h1 hw) (bw c22 fnil) ?_
 exact fQ hl
theorem wrapS {n:Nat} (h:n<1000000):IntKind.wrap .i64 ((n:Int)+1)=((n+1:Nat):Int):=wrap_nat (n:=n+1) (by omega)
set_option maxHeartbeats 2000000 in
theorem c55 (b:QB) (ht:inN b.tunes 1 6=true) (x:VP) (hk:x.ss.length<1000000) (hm:∀ s∈x.ss,s.ms.length<1000000) (st:St):Cl EE (.func 55 [] []) [b.pv,x.pv] st (.ret (.bool (verB b.cues b.tunes x))) st:=by
 have hxh:=x.h
 have hw0:=wrapL hk
 have k32:=fun (n:Int) st=>c32 b ht n st
 refine cF2 pr55 fn55 (fun tm hl h0 h1=>?_)
 refine go2 (bw3 hl h0 h1) fnil ?_
 refine wp_for [5] (fun i vs s=>vs=[iv i]∧i≤x.ss.length∧(∀ k,∀ hk:k<x.ss.length,k<i→rowB b.cues b.tunes x.ss.length x.ss[k]=true)∧st.heap.length≤s.lo∧s.lo≤s.heap.length∧hp s st.heap.length=some (.var [iv b.cues,iv b.tunes,b.v])∧hp s (st.heap.length+1)=some (.var [x.v])) (fun i=>x.ss.length - i) ⟨(sR hl),Nat.zero_le _,fun k _ hk=>absurd hk (by omega),by simp [lo_push],by simp [lo_push,len_push];omega,(sG hl),(sG hl)⟩ ?_
 rintro i tm1 st1 ⟨hv,hi,hno,hlo,hwf,hb,hxv⟩ hS
 simp only [List.map_cons,List.map_nil,List.cons.injEq,and_true] at hv
 have hl1:tm1.length=61:=lN hS hl;have i2:tg tm1 2 = .ptr st.heap.length 0:=tQ hS (bw3 hl h0 h1);have i3:tg tm1 3 = .ptr (st.heap.length+1) 0:=tQ hS (bw3 hl h0 h1);clear hS
 have lb:=hp_lt hb
 have lx:=hp_lt hxv
 refine go2 (bw8 hl1 hv i2 i3 hb hxv (n4 lb) (n4 lx)) fnil ?_
 refine ⟨decide ((i:Int)<x.ss.length),(sG hl1),fun hd=>?_,fun hd=>?_⟩
 ·have hdf:=of_decide_eq_false hd
  have hin:i=x.ss.length:=by omega
  have e:verB b.cues b.tunes x=inN x.ss.length 1 4:=by
   unfold verB
   have:x.ss.all (rowB b.cues b.tunes x.ss.length)=true:=by
    rw [List.all_eq_true]
    intro s hs
    obtain ⟨k,hk,rfl⟩:=List.getElem_of_mem hs
    exact hno k hk (by omega)
   rw [this,Bool.and_true]
  rw [e]
  refine go2 (bw7 hl1 i2 i3 hb hxv (n4 lb) (n4 lx)) (bw c22 fnil) ?_
  exact fQ hl1
 ·have hlt:i<x.ss.length:=by have:=of_decide_eq_true hd;omega
  have hw1:=wrapS (n:=i) (by omega)
  have hsh:=(x.ss[i]).h
  have hsN:=hm _ (List.getElem_mem hlt)
  have hstop:rowB b.cues b.tunes x.ss.length x.ss[i]=false→verB b.cues b.tunes x=false:=by
   intro h
   unfold verB
   have:x.ss.all (rowB b.cues b.tunes x.ss.length)=false:=by
    rw [List.all_eq_false]
    exact ⟨_,List.getElem_mem hlt,by rw [h];simp⟩
   rw [this,Bool.and_false]
  refine ⟨by omega,?_⟩
  cases hA:(((x.ss[i]).ms.length:Int) != b.cues)
  ·have hA2:((x.ss[i]).ms.length:Int)=b.cues:=by simpa using hA
   refine go2 (bw9 hl1 hv i2 i3 hb hxv hA (n4 lb) (n4 lx)) fnil ?_
   refine wp_for [6] (fun k vs s=>vs=[iv k]∧k≤(x.ss[i]).ms.length∧(∀ j,∀ hj:j<(x.ss[i]).ms.length,j<k→mvB b.tunes x.ss.length (x.ss[i]).ms[j]=true)∧st.heap.length≤s.lo∧s.lo≤s.heap.length∧hp s st.heap.length=some (.var [iv b.cues,iv b.tunes,b.v])∧hp s (st.heap.length+1)=some (.var [x.v])) (fun k=>(x.ss[i]).ms.length - k) ⟨(sR hl1),Nat.zero_le _,fun k _ hk=>absurd hk (by omega),hlo,hwf,hb,hxv⟩ ?_
   clear hb hxv hlo hwf lb lx
   rintro k tm2 st2 ⟨hv2,hk2,hno2,hlo,hwf,hb,hxv⟩ hS
   simp only [List.map_cons,List.map_nil,List.cons.injEq,and_true] at hv2
   have hl2:tm2.length=61:=lN hS hl1;have j2:tg tm2 2 = .ptr st.heap.length 0:=tQ hS (bw4 hl1 i2 i3 hv);have j3:tg tm2 3 = .ptr (st.heap.length+1) 0:=tQ hS (bw4 hl1 i2 i3 hv);have j5:tg tm2 5=iv i:=tQ hS (bw4 hl1 i2 i3 hv);clear hS
   have lb:=hp_lt hb
   have lx:=hp_lt hxv
   refine go2 (bw9 hl2 hv2 j2 j3 j5 hb hxv (n4 lb) (n4 lx)) fnil ?_
   refine ⟨decide ((k:Int)<(x.ss[i]).ms.length),(sG hl2),fun hd=>?_,fun hd=>?_⟩
   ·have hdf:=of_decide_eq_false hd
    have hkn:k=(x.ss[i]).ms.length:=by omega
    refine go2 (bw3 hl2 j5 hw1) fnil ?_
    refine ⟨(sG hl2),by omega,?_,hlo,hwf,hb,hxv⟩
    intro j hj hji
    by_cases hje:j=i
    ·subst hje
     unfold rowB
     rw [Bool.and_eq_true,decide_eq_true_eq,List.all_eq_true]
     refine ⟨hA2,fun m hm=>?_⟩
     obtain ⟨q,hq,rfl⟩:=List.getElem_of_mem hm
     exact hno2 q hq (by omega)
    ·exact hno j hj (by omega)
   ·have hlt2:k<(x.ss[i]).ms.length:=by have:=of_decide_eq_true hd;omega
    have hw2:=wrapS (n:=k) (by omega)
    have hstop2:mvB b.tunes x.ss.length (x.ss[i]).ms[k]=false→verB b.cues b.tunes x=false:=by
     intro h
     refine hstop ?_
     unfold rowB
     have:(x.ss[i]).ms.all (mvB b.tunes x.ss.length)=false:=by
      rw [List.all_eq_false]
      exact ⟨_,List.getElem_mem hlt2,by rw [h];simp⟩
     rw [this,Bool.and_false]
    refine ⟨by omega,?_⟩
    cases hB:inN ((x.ss[i]).ms[k]).next 0 ((x.ss.length:Int) - 1)
    ·rw [hstop2 (by unfold mvB;rw [hB];rfl)]
     refine go2 (bw11 hl2 hv2 j2 j3 j5 hb hxv hw0 hB (n4 lb) (n4 lx)) (bw c22 fnil) ?_
     exact fQ hl2
    ·cases hC:inN ((x.ss[i]).ms[k]).tune 0 (b.tunes - 1)
     ·rw [hstop2 (by unfold mvB;rw [hC,Bool.and_false])]
      refine go2 (bw12 hl2 hv2 j2 j3 j5 hb hxv hw0 hB hC (n4 lb) (n4 lx)) (bw3 c22 k32 fnil) ?_
      exact fQ hl2
     ·refine go2 (bw13 hl2 hv2 j2 j3 j5 hb hxv hw0 hw2 hB hC (n4 lb) (n4 lx)) (bw3 c22 k32 fnil) ?_
      refine ⟨(sG hl2),by omega,?_,by simp only [lo_push,lo_setVar];omega,by simp only [lo_push,lo_setVar,len_push,len_setVar];omega,(sG (bw hb (n4 lb))),(sG (bw hxv (n4 lx)))⟩
      intro j hj hjk
      by_cases hje:j=k
      ·subst hje;unfold mvB;rw [hB,hC];rfl
      ·exact hno2 j hj (by omega)
  ·have hA2:¬ ((x.ss[i]).ms.length:Int)=b.cues:=by simpa using hA
   rw [hstop (by unfold rowB;rw [decide_eq_false hA2,Bool.false_and])]
   refine go2 (bw9 hl1 hv i2 i3 hb hxv hA (n4 lb) (n4 lx)) fnil ?_
   exact fQ hl1
theorem c21 (b:QB) (hN:SmQ b) (st:St):Cl EE (.func 21 [] []) [b.pv] st (.ret (.bool (qbB b))) st:=by
 have hbh:=b.h
 unfold qbB
 refine cF1 pr21 fn21 (fun tm hl h0=>?_)
 cases hA:inN b.cues 1 4
 ·refine go2 (bw3 hl h0 hA) (bw c22 fnil) ?_
  exact fQ hl
 cases hC:inN b.tunes 1 6
 ·refine go2 (bw4 hl h0 hA hC) (bw c22 fnil) ?_
  exact fQ hl
 cases hD:inN (b.vs.length:Int) 1 4
 ·refine go2 (bw5 hl h0 hA hC hD) (bw c22 fnil) ?_
  exact fQ hl
 simp only [Bool.true_and]
 refine go2 (bw5 hl h0 hA hC hD) (bw c22 fnil) ?_
 refine wp_for [3] (fun i vs s=>vs=[iv i]∧i≤b.vs.length∧(∀ k,∀ hk:k<b.vs.length,k<i→verB b.cues b.tunes b.vs[k]=true)∧s=({ heap:=st.heap,lo:=st.heap.length }:St).push (.var [iv b.cues,iv b.tunes,b.v])) (fun i=>b.vs.length - i) ⟨(sR hl),Nat.zero_le _,fun k _ hk=>absurd hk (by omega),rfl⟩ ?_
 rintro i tm1 st1 ⟨hv,hi,hno,rfl⟩ hS
 simp only [List.map_cons,List.map_nil,List.cons.injEq,and_true] at hv
 have hl1:tm1.length=36:=lN hS hl;have i1:tg tm1 1 = .ptr st.heap.length 0:=tQ hS (bw hl h0);clear hS
 refine go2 (bw3 hl1 hv i1) fnil ?_
 refine ⟨decide ((i:Int)<b.vs.length),(sG hl1),fun hd=>?_,fun hd=>?_⟩
 ·have hdf:=of_decide_eq_false hd
  have e:b.vs.all (verB b.cues b.tunes)=true:=by
   rw [List.all_eq_true]
   intro s hs
   obtain ⟨k,hk,rfl⟩:=List.getElem_of_mem hs
   exact hno k hk (by omega)
  rw [e]
  refine go2 hl1 fnil ?_
  exact fQ hl1
 ·have hlt:i<b.vs.length:=by have:=of_decide_eq_true hd;omega
  have hNn:=hN.n
  have hw1:=wrapS (n:=i) (by omega)
  have hk:=fun st=>c55 b hC b.vs[i] (hN.k _ (List.getElem_mem hlt)) (hN.m _ (List.getElem_mem hlt)) st
  refine ⟨by omega,?_⟩
  cases hV:verB b.cues b.tunes b.vs[i]
  ·have e:b.vs.all (verB b.cues b.tunes)=false:=by
    rw [List.all_eq_false]
    exact ⟨_,List.getElem_mem hlt,by rw [hV];simp⟩
   rw [e]
   refine go2 (bw4 hl1 hv i1 hV) (bw hk fnil) ?_
   exact fQ hl1
  ·refine go2 (bw5 hl1 hv i1 hw1 hV) (bw hk fnil) ?_
   refine ⟨(sG hl1),by omega,?_,rfl⟩
   intro j hj hji
   by_cases hje:j=i
   ·subst hje;exact hV
   ·exact hno j hj (by omega)
end Go.Den.Tq
end
section
namespace Go.Den.Tq
open Go.Den.Tp Go.Den.Ve
theorem getD_at {l:List Int} {i:Nat} (hi:i<l.length):l.getD i 0=l[i]:=by rw [List.getD_eq_getElem?_getD,List.getElem?_eq_getElem hi];rfl
def inC (cues:Int) (l:List Int):Bool:=l.all (fun n=>inN n 0 (cues - 1))
theorem inC_iff {cues:Int} {l:List Int}:inC cues l=true↔InC cues l:=by
 simp only [inC,InC,List.all_eq_true,inN,Bool.and_eq_true,decide_eq_true_eq]
 exact ⟨fun h c hc=>by have:=h c hc;omega,fun h c hc=>by have:=h c hc;omega⟩
theorem c23 (b:QB) (hc:inN b.cues 1 4=true) (L:PV) (l:List Int) (hL:SlOf 1 encI L l) (hN:l.length<1000000) (st:St):Cl EE (.func 23 [] []) [b.pv,L] st (.ret (.bool (inC b.cues l))) st:=by
 have hLs:=hL.slen
 have hk:=fun (n:Int) st=>c56 b hc n st
 refine cF2 pr23 fn23 (fun tm hl h0 h1=>?_)
 refine go2 (bw3 hl h0 h1) fnil ?_
 refine wp_for [5] (fun i vs s=>vs=[iv i]∧i≤l.length∧(∀ k,∀ hk:k<l.length,k<i→inN l[k] 0 (b.cues - 1)=true)∧s=({ heap:=st.heap,lo:=st.heap.length }:St).push (.var [iv b.cues,iv b.tunes,b.v])) (fun i=>l.length - i) ⟨(sR hl),Nat.zero_le _,fun k _ hk=>absurd hk (by omega),rfl⟩ ?_
 rintro i tm1 st1 ⟨hv,hi,hno,rfl⟩ hS
 simp only [List.map_cons,List.map_nil,List.cons.injEq,and_true] at hv
 have hl1:tm1.length=19:=lN hS hl;have i1:tg tm1 1=L:=tQ hS (bw3 hl h0 h1);have i2:tg tm1 2 = .ptr st.heap.length 0:=tQ hS (bw3 hl h0 h1);clear hS
 refine go2 (bw5 hl1 hv i1 i2 hLs) fnil ?_
 refine ⟨decide ((i:Int)<l.length),(sG hl1),fun hd=>?_,fun hd=>?_⟩
 ·have hdf:=of_decide_eq_false hd
  have e:inC b.cues l=true:=by
   unfold inC
   rw [List.all_eq_true]
   intro s hs
   obtain ⟨k,hk,rfl⟩:=List.getElem_of_mem hs
   exact hno k hk (by omega)
  rw [e]
  refine go2 hl1 fnil ?_
  exact fQ hl1
 ·have hlt:i<l.length:=by have:=of_decide_eq_true hd;omega
  have hw1:=wrapS (n:=i) (by omega)
  refine ⟨by omega,?_⟩
  cases hV:inN l[i] 0 (b.cues - 1)
  ·have e:inC b.cues l=false:=by
    unfold inC
    rw [List.all_eq_false]
    exact ⟨_,List.getElem_mem hlt,by rw [hV];simp⟩
   rw [e]
   refine go2 (bw5 hl1 hv i1 i2 hV) (bw hk fnil) ?_
   exact fQ hl1
  ·refine go2 (bw6 hl1 hv i1 i2 hw1 hV) (bw hk fnil) ?_
   refine ⟨(sG hl1),by omega,?_,rfl⟩
   intro j hj hji
   by_cases hje:j=i
   ·subst hje;exact hV
   ·exact hno j hj (by omega)
theorem c7 (b:QB) (hc:inN b.cues 1 4=true) (L:PV) (l:List Int) (hL:SlOf 1 encI L l) (st:St):Cl EE (.func 7 [] []) [b.pv,L] st (.ret (.bool (decide (l.length≤8)&&inC b.cues l))) st:=by
 have hLs:=hL.slen
 refine cF2 pr7 fn7 (fun tm hl h0 h1=>?_)
 by_cases hA:l.length≤8
 ·have hA':decide ((l.length:Int)≤8)=true:=by simp;omega
  rw [decide_eq_true hA,Bool.true_and]
  have hk:=fun st=>c23 b hc L l hL (by omega) st
  refine go2 (bw5 hl h0 h1 hLs hA') (bw hk fnil) ?_
  exact fQ hl
 ·have hA':decide ((l.length:Int)≤8)=false:=by simp;omega
  rw [decide_eq_false hA,Bool.false_and]
  refine go2 (bw5 hl h0 h1 hLs hA') fnil ?_
  exact fQ hl
def tuneB (b:QB) (n:Int):Bool:=!(n != -1&&!inN n 0 (b.tunes - 1))
def tunesB (b:QB) (l:List Int):Bool:=l.all (tuneB b)&&decide (l.length≤8)
theorem c10 (b:QB) (ht:inN b.tunes 1 6=true) (L:PV) (l:List Int) (hL:SlOf 1 encI L l) (hN:l.length<1000000) (st:St):Cl EE (.func 10 [] []) [b.pv,L] st (.ret (.bool (tunesB b l))) st:=by
 have hLs:=hL.slen
 have hk:=fun (n:Int) st=>c32 b ht n st
 refine cF2 pr10 fn10 (fun tm hl h0 h1=>?_)
 refine go2 (bw3 hl h0 h1) fnil ?_
 refine wp_for [5] (fun i vs s=>vs=[iv i]∧i≤l.length∧(∀ k,∀ hk:k<l.length,k<i→tuneB b l[k]=true)∧s=({ heap:=st.heap,lo:=st.heap.length }:St).push (.var [iv b.cues,iv b.tunes,b.v])) (fun i=>l.length - i) ⟨(sR hl),Nat.zero_le _,fun k _ hk=>absurd hk (by omega),rfl⟩ ?_
 rintro i tm1 st1 ⟨hv,hi,hno,rfl⟩ hS
 simp only [List.map_cons,List.map_nil,List.cons.injEq,and_true] at hv
 have hl1:tm1.length=29:=lN hS hl;have i1:tg tm1 1=L:=tQ hS (bw3 hl h0 h1);have i2:tg tm1 2 = .ptr st.heap.length 0:=tQ hS (bw3 hl h0 h1);clear hS
 refine go2 (bw5 hl1 hv i1 i2 hLs) fnil ?_
 refine ⟨decide ((i:Int)<l.length),(sG hl1),fun hd=>?_,fun hd=>?_⟩
 ·have hdf:=of_decide_eq_false hd
  have e:tunesB b l=decide ((l.length:Int)≤8):=by
   unfold tunesB
   have:l.all (tuneB b)=true:=by
    rw [List.all_eq_true]
    intro s hs
    obtain ⟨k,hk,rfl⟩:=List.getElem_of_mem hs
    exact hno k hk (by omega)
   rw [this,Bool.true_and]
   congr 1
   apply propext
   omega
  rw [e]
  refine go2 (bw3 hl1 i1 hLs) fnil ?_
  exact fQ hl1
 ·have hlt:i<l.length:=by have:=of_decide_eq_true hd;omega
  have hw1:=wrapS (n:=i) (by omega)
  refine ⟨by omega,?_⟩
  have hgo:tuneB b l[i]=true→∀ k,∀ hk:k<l.length,k<i+1→tuneB b l[k]=true:=by
   intro h j hj hji
   by_cases hje:j=i
   ·subst hje;exact h
   ·exact hno j hj (by omega)
  cases hA:(l[i] != -1)
  ·have hT:tuneB b l[i]=true:=by unfold tuneB;rw [hA];rfl
   refine go2 (bw6 hl1 hv i1 i2 hw1 hA) fnil ?_
   exact ⟨(sG hl1),by omega,hgo hT,rfl⟩
  ·cases hV:inN l[i] 0 (b.tunes - 1)
   ·have e:tunesB b l=false:=by
     unfold tunesB
     have:l.all (tuneB b)=false:=by
      rw [List.all_eq_false]
      exact ⟨_,List.getElem_mem hlt,by unfold tuneB;rw [hA,hV];simp⟩
     rw [this,Bool.false_and]
    rw [e]
    refine go2 (bw6 hl1 hv i1 i2 hA hV) (bw hk fnil) ?_
    exact fQ hl1
   ·have hT:tuneB b l[i]=true:=by unfold tuneB;rw [hV];simp
    refine go2 (bw7 hl1 hv i1 i2 hw1 hA hV) (bw hk fnil) ?_
    exact ⟨(sG hl1),by omega,hgo hT,rfl⟩
def apart:List Int→List Int→Nat
 | a::l,b::m=>(if a=b then 0 else 1)+apart l m
 | _,_=>0
theorem apart_take:∀ {l m:List Int} {i:Nat} (h1:i<l.length) (h2:i<m.length),apart (l.take (i+1)) (m.take (i+1))=apart (l.take i) (m.take i)+if l[i]=m[i] then 0 else 1
 | a::l,b::m,0,_,_=>by simp [apart]
 | a::l,b::m,i+1,h1,h2=>by
  have:=apart_take (l:=l) (m:=m) (i:=i) (by simpa using h1) (by simpa using h2)
  simp only [List.take_succ_cons,apart,this,List.getElem_cons_succ]
  omega
theorem apart_le (l m:List Int):apart l m≤l.length:=by
 induction l generalizing m with
 | nil=>cases m <;> simp [apart]
 | cons a l ih =>
  cases m with
  | nil=>simp [apart]
  | cons b m =>
   have:=ih m
   simp only [apart,List.length_cons]
   split <;> omega
theorem c13 (A B:PV) (l m:List Int) (hA:SlOf 1 encI A l) (hB:SlOf 1 encI B m) (hlen:l.length=m.length) (hN:l.length<1000000) (st:St):Cl EE (.func 13 [] []) [A,B] st (.ret (iv (apart l m:Nat))) st:=by
 have hAs:=hA.slen
 have hBs:=hB.slen
 refine cF2 pr13 fn13 (fun tm hl h0 h1=>?_)
 refine go2 (bw3 hl h0 h1) fnil ?_
 refine wp_for [6,5] (fun i vs s=>vs=[iv i,iv (apart (l.take i) (m.take i):Nat)]∧i≤l.length∧s=({ heap:=st.heap,lo:=st.heap.length }:St)) (fun i=>l.length - i) ⟨(sR hl),Nat.zero_le _,rfl⟩ ?_
 rintro i tm1 st1 ⟨hv,hi,rfl⟩ hS
 simp only [List.map_cons,List.map_nil,List.cons.injEq,and_true] at hv
 obtain ⟨hv,hc⟩:=hv
 have hl1:tm1.length=31:=lN hS hl;have i0:tg tm1 0=A:=tQ hS (bw3 hl h0 h1);have i1:tg tm1 1=B:=tQ hS (bw3 hl h0 h1);clear hS
 have hap:=apart_le (l.take i) (m.take i)
 simp only [List.length_take] at hap
 cases hd:decide ((i:Int)<l.length)
 ·have hdf:=of_decide_eq_false hd
  have hin:i=l.length:=by omega
  refine go2 (bw8 hl1 hv hc i0 i1 hAs hBs hd) fnil ?_
  refine ⟨false,(sG hl1),?_,?_⟩
  rotate_left
  ·intro h
   exact absurd h (by decide)
  intro _
  have e1:l.take i=l:=List.take_of_length_le (by omega)
  have e2:m.take i=m:=List.take_of_length_le (by omega)
  rw [e1,e2] at hc
  refine go2 (bw hl1 hc) fnil ?_
  exact fQ hl1
 ·have hlt:i<l.length:=by have:=of_decide_eq_true hd;omega
  have hlt2:i<m.length:=by omega
  have hd2:decide ((i:Int)<m.length)=true:=by simp;omega
  have hw1:=wrapS (n:=i) (by omega)
  have hw2:=wrapS (n:=apart (l.take i) (m.take i)) (by omega)
  refine go2 (bw9 hl1 hv hc i0 i1 hAs hBs hd hd2) fnil ?_
  refine ⟨true,(sG hl1),?_,?_⟩
  ·intro h
   exact absurd h (by decide)
  intro _
  refine ⟨by omega,?_⟩
  cases hx:(l[i] != m[i])
  ·have he:l[i]=m[i]:=by simpa using hx
   refine go2 (bw7 hl1 hv hc i0 i1 hw1 hx) fnil ?_
   refine ⟨?_,by omega,rfl⟩
   rw [apart_take hlt hlt2,if_pos he]
   simp only [↓reduceIte,go_sem,hl1,hc,Nat.add_zero]
  ·have he:¬ l[i]=m[i]:=by simpa using hx
   refine go2 (bw8 hl1 hv hc i0 i1 hw1 hw2 hx) fnil ?_
   refine ⟨?_,by omega,rfl⟩
   rw [apart_take hlt hlt2,if_neg he]
   simp only [↓reduceIte,go_sem,hl1,hc]
end Go.Den.Tq
end
section
namespace Go.Den.Tq
open Go.Den.Tp Go.Den.Ve
def verS (x:VP):Bool:=(x.ss.take 6).all (fun s=>decide (s.ms.length≤6))&&decide (x.ss.length≤6)
def bookedB (b:QB):Bool:=(b.vs.take 6).all verS&&(decide (b.vs.length≤6)&&(decide (b.tunes≤3)&&qbB b))
theorem take6 {α:Type} {l:List α} {p:α→Bool} {i:Nat} (h0:i=l.length∨i=6) (h:∀ k,∀ hk:k<l.length,k<i→p l[k]=true):(l.take 6).all p=true:=by
 rw [List.all_eq_true]
 intro s hs
 obtain ⟨k,hk,rfl⟩:=List.getElem_of_mem hs
 have hk2:=hk
 rw [List.length_take] at hk2
 rw [List.getElem_take]
 exact h k (by omega) (by omega)
theorem take6_no {α:Type} {l:List α} {p:α→Bool} {i:Nat} (hi:i<l.length) (h6:i<6) (h:p l[i]=false):(l.take 6).all p=false:=by
 rw [List.all_eq_false]
 refine ⟨l[i],?_,by rw [h];simp⟩
 have e:l[i]=(l.take 6)[i]'(by rw [List.length_take];omega):=by rw [List.getElem_take]
 rw [e]
 exact List.getElem_mem _
theorem smQ_of {b:QB} (h1:(b.vs.take 6).all verS=true) (h2:b.vs.length≤6):SmQ b:=by
 rw [List.take_of_length_le h2] at h1
 simp only [List.all_eq_true,verS,Bool.and_eq_true,decide_eq_true_eq] at h1
 refine ⟨by omega,fun x hx=>by have:=(h1 x hx).2;omega,fun x hx s hs=>?_⟩
 have h3:=(h1 x hx).1
 rw [List.take_of_length_le (h1 x hx).2] at h3
 have:=h3 s hs
 omega
set_option maxHeartbeats 2000000 in
theorem c5 (b:QB) (st:St):Cl EE (.func 5 [] []) [b.pv] st (.ret (.bool (bookedB b))) st:=by
 have hbh:=b.h
 refine cF1 pr5 fn5 (fun tm hl h0=>?_)
 refine go2 (bw hl h0) fnil ?_
 refine wp_for [3] (fun i vs s=>vs=[iv i]∧i≤b.vs.length∧i≤6∧(∀ k,∀ hk:k<b.vs.length,k<i→verS b.vs[k]=true)∧st.heap.length≤s.lo∧s.lo≤s.heap.length∧hp s st.heap.length=some (.var [iv b.cues,iv b.tunes,b.v])) (fun i=>6 - i) ⟨(sR hl),Nat.zero_le _,Nat.zero_le _,fun k _ hk=>absurd hk (by omega),by simp [lo_push],by simp [lo_push,len_push],(sG hl)⟩ ?_
 rintro i tm1 st1 ⟨hv,hi,hi6,hno,hlo,hwf,hb⟩ hS
 simp only [List.map_cons,List.map_nil,List.cons.injEq,and_true] at hv
 have hl1:tm1.length=57:=lN hS hl;have i1:tg tm1 1 = .ptr st.heap.length 0:=tQ hS (bw hl h0);clear hS
 have lb:=hp_lt hb
 cases hd:decide ((i:Int)<b.vs.length)
 ·have hdf:=of_decide_eq_false hd
  have hin:i=b.vs.length:=by omega
  have hall:=take6 (p:=verS) (.inl hin) hno
  have h26:b.vs.length≤6:=by omega
  refine go2 (bw6 hl1 hv i1 hb hd (n4 lb)) fnil ?_
  refine ⟨false,(sG hl1),?_,?_⟩
  rotate_left
  ·intro h
   exact absurd h (by decide)
  intro _
  have hd6:decide ((b.vs.length:Int)≤6)=true:=by simp;omega
  have e:bookedB b=(decide (b.tunes≤3)&&qbB b):=by unfold bookedB;rw [hall,decide_eq_true h26];rfl
  rw [e]
  have hk:=fun st=>c21 b (smQ_of hall h26) st
  cases hT:decide (b.tunes≤3)
  ·refine go2 (bw7 hl1 hv i1 hb hd6 hT (n4 lb)) fnil ?_
   exact fQ hl1
  ·refine go2 (bw7 hl1 hv i1 hb hd6 hT (n4 lb)) (bw hk fnil) ?_
   exact fQ hl1
 ·have hlt:i<b.vs.length:=by have:=of_decide_eq_true hd;omega
  cases hd2:decide ((i:Int)<6)
  ·have hdf:=of_decide_eq_false hd2
   have hin:i=6:=by omega
   have hall:=take6 (p:=verS) (.inr hin) hno
   refine go2 (bw7 hl1 hv i1 hb hd hd2 (n4 lb)) fnil ?_
   refine ⟨false,(sG hl1),?_,?_⟩
   rotate_left
   ·intro h
    exact absurd h (by decide)
   intro _
   by_cases h26:b.vs.length≤6
   ·exfalso;omega
   ·have hd6:decide ((b.vs.length:Int)≤6)=false:=by simp;omega
    have e:bookedB b=false:=by unfold bookedB;rw [hall,decide_eq_false h26];rfl
    rw [e]
    refine go2 (bw6 hl1 hv i1 hb hd6 (n4 lb)) fnil ?_
    exact fQ hl1
  ·have hlt6:i<6:=by have:=of_decide_eq_true hd2;omega
   have hw1:=wrapS (n:=i) (by omega)
   have hxh:=(b.vs[i]).h
   have hstop:verS b.vs[i]=false→bookedB b=false:=by
    intro h
    unfold bookedB
    rw [take6_no hlt hlt6 h,Bool.false_and]
   refine go2 (bw7 hl1 hv i1 hb hd hd2 (n4 lb)) fnil ?_
   refine ⟨true,(sG hl1),?_,?_⟩
   ·intro h
    exact absurd h (by decide)
   intro _
   refine ⟨by omega,?_⟩
   refine go2 (bw5 hl1 hv i1 hb (n4 lb)) fnil ?_
   refine wp_for [5] (fun k vs s=>vs=[iv k]∧k≤(b.vs[i]).ss.length∧k≤6∧(∀ j,∀ hj:j<(b.vs[i]).ss.length,j<k→decide ((b.vs[i]).ss[j].ms.length≤6)=true)∧st.heap.length≤s.lo∧s.lo≤s.heap.length∧hp s st.heap.length=some (.var [iv b.cues,iv b.tunes,b.v])∧hp s st1.heap.length=some (.var [(b.vs[i]).v])) (fun k=>6 - k) ⟨(sR hl1),Nat.zero_le _,Nat.zero_le _,fun k _ hk=>absurd hk (by omega),by simp only [lo_push,lo_setVar];omega,by simp only [lo_push,lo_setVar,len_push,len_setVar];omega,(sG (bw hb (n4 lb))),(sG fnil)⟩ ?_
   clear hb hlo hwf lb
   rintro k tm2 st2 ⟨hv2,hk2,hk6,hno2,hlo,hwf,hb,hxv⟩ hS
   simp only [List.map_cons,List.map_nil,List.cons.injEq,and_true] at hv2
   have hl2:tm2.length=57:=lN hS hl1;have j1:tg tm2 1 = .ptr st.heap.length 0:=tQ hS (bw3 hl1 i1 hv);have j3:tg tm2 3=iv i:=tQ hS (bw3 hl1 i1 hv);have j4:tg tm2 4 = .ptr st1.heap.length 0:=tQ hS (bw3 hl1 i1 hv);clear hS
   have lb:=hp_lt hb
   have lx:=hp_lt hxv
   cases hd:decide ((k:Int)<(b.vs[i]).ss.length)
   ·have hdf:=of_decide_eq_false hd
    have hin:k=(b.vs[i]).ss.length:=by omega
    have hall:=take6 (p:=fun s:SP=>decide (s.ms.length≤6)) (.inl hin) hno2
    have h26:(b.vs[i]).ss.length≤6:=by omega
    have hV:verS b.vs[i]=true:=by unfold verS;rw [hall,decide_eq_true h26];rfl
    have hd6:decide (((b.vs[i]).ss.length:Int)>6)=false:=by simp;omega
    refine go2 (bw9 hl2 hv2 j1 j3 j4 hxv hd (n4 lb) (n4 lx)) fnil ?_
    refine ⟨false,(sG hl2),?_,?_⟩
    rotate_left
    ·intro h
     exact absurd h (by decide)
    intro _
    refine go2 (bw10 hl2 hv2 j1 j3 j4 hxv hd6 hw1 (n4 lb) (n4 lx)) fnil ?_
    refine ⟨(sG hl2),by omega,by omega,?_,hlo,hwf,hb⟩
    intro j hj hji
    by_cases hje:j=i
    ·subst hje;exact hV
    ·exact hno j hj (by omega)
   ·have hlt2:k<(b.vs[i]).ss.length:=by have:=of_decide_eq_true hd;omega
    cases hd2:decide ((k:Int)<6)
    ·have hdf:=of_decide_eq_false hd2
     have hin:k=6:=by omega
     have hd6:decide (((b.vs[i]).ss.length:Int)>6)=true:=by simp;omega
     have hV:verS b.vs[i]=false:=by
      unfold verS
      rw [show decide ((b.vs[i]).ss.length≤6)=false by simp;omega,Bool.and_false]
     rw [hstop hV]
     refine go2 (bw10 hl2 hv2 j1 j3 j4 hxv hd hd2 (n4 lb) (n4 lx)) fnil ?_
     refine ⟨false,(sG hl2),?_,?_⟩
     rotate_left
     ·intro h
      exact absurd h (by decide)
     intro _
     refine go2 (bw10 hl2 hv2 j1 j3 j4 hxv hd6 hw1 (n4 lb) (n4 lx)) fnil ?_
     exact fQ hl2
    ·have hlt6:k<6:=by have:=of_decide_eq_true hd2;omega
     have hw2:=wrapS (n:=k) (by omega)
     have hsh:=((b.vs[i]).ss[k]).h
     refine go2 (bw10 hl2 hv2 j1 j3 j4 hxv hd hd2 (n4 lb) (n4 lx)) fnil ?_
     refine ⟨true,(sG hl2),?_,?_⟩
     ·intro h
      exact absurd h (by decide)
     intro _
     refine ⟨by omega,?_⟩
     cases hM:decide ((((b.vs[i]).ss[k]).ms.length:Int)>6)
     ·refine go2 (bw10 hl2 hv2 j1 j3 j4 hxv hM hw2 (n4 lb) (n4 lx)) fnil ?_
      refine ⟨(sG hl2),by omega,by omega,?_,hlo,hwf,hb,hxv⟩
      intro j hj hjk
      by_cases hje:j=k
      ·subst hje
       have:=of_decide_eq_false hM
       simp;omega
      ·exact hno2 j hj (by omega)
     ·have hV:verS b.vs[i]=false:=by
       unfold verS
       rw [take6_no (p:=fun s:SP=>decide (s.ms.length≤6)) hlt2 hlt6 (by have:=of_decide_eq_true hM;simp;omega),Bool.false_and]
      rw [hstop hV]
      refine go2 (bw9 hl2 hv2 j1 j3 j4 hxv hM (n4 lb) (n4 lx)) fnil ?_
      exact fQ hl2
end Go.Den.Tq
end
section
namespace Go.Den.Tq
open Go.Den.Tp Go.Den.Ve
theorem wopsD_callF {E:Env} {QD:Ex→List PV→St→List Foot→Prop} {tm:List PV} {st:St} {f:Opd} {args:List Opd} {dst:Option Nat} {g:Option (Nat×Bool)} {os:List DOper} {b:Bool} {fv:PV} {P:PV→St→Prop} (hw:wants tm g=b) (hb:b=true) {as:List PV} (hf:f.ev tm=fv) (ha:evs tm args=as) (hc:ClR E fv as { st with lo:=st.heap.length } P)
  (h:∀ v st1,P v st1→WOpsD E os (fun e tm' st' fs=>QD e tm' st' (.ch st1.lo st.heap st1.heap::fs)) (put tm dst v) { st1 with lo:=min st.lo st1.lo }):WOpsD E (⟨.call f args,dst,g⟩::os) QD tm st:=by
 subst ha
 obtain ⟨v,st1,⟨N,hN⟩,hP⟩:=hc
 exact wopsD_fine (v:=v) (st1:=st1) (hw.trans hb) N (fun n hn=>by simp only [stepOp,hf,hN n hn]) (h v st1 hP)
theorem finish_none {st s1:St} {v:PV} (hlo:st.heap.length≤s1.lo) (h:letGo st.heap.length s1.heap v=none) (h2:letGo2 st.heap.length s1.heap v=none:=by rfl):finishCall st s1 v=(v,{ heap:=s1.heap,lo:=st.lo }):=by
 unfold finishCall
 rw [if_pos hlo,h,h2]
structure YldQ {α:Type} (E:Env) (y:PV) (X:List α) (Rep:PV→α→Prop) (W:Nat→Prop) (e u v w:Nat) (q:Nat→Bool) (I:Nat→List HObj→Prop) (S:List HObj→Prop):Prop where
 stab:∀ i h h',I i h→HExt h h'→I i h'
 eu:e≤u
 uv:u≤v
 vw:v≤w
 Ww:∀ l,W l→l≤w
 cell:y.isCell=true
 cells:y.cells=[y]
 step:∀ i (hi:i<X.length) x st,Rep x X[i]→I i st.heap→e≤st.lo→st.lo≤st.heap.length→w<st.heap.length→∃ b st',Cl E y [x] st (.ret (.bool b)) st'∧KeepV W st.heap st'.heap∧e≤st'.lo∧st'.lo≤v∧(b=true→I (i+1) st'.heap∧(q i=true→st'.lo≤u))∧(b=false→S st'.heap∧st'.lo≤u)
def IterQ {α:Type} (E:Env) (f:PV) (st0:St) (X:List α) (Rep:PV→α→Prop) (priv:Nat→Prop):Prop :=
 ∀ (y:PV) (W:Nat→Prop) (e u v w:Nat) (q:Nat→Bool) (I:Nat→List HObj→Prop) (S:List HObj→Prop),YldQ E y X Rep W e u v w q I S→(∀ l,priv l→¬ W l)→I 0 st0.heap→e≤st0.lo→st0.lo≤st0.heap.length→w<st0.heap.length →
  ∃ x st',Cl E f [y] st0 (.ret x) st'∧KeepV W st0.heap st'.heap∧e≤st'.lo∧st'.lo≤st'.heap.length∧((X.length=0∧st'=st0)∨st'.lo≤v)∧((I X.length st'.heap∧∀ i,i<X.length→q i=true→st'.lo≤u)∨(S st'.heap∧st'.lo≤u))
def Left (W:Nat→Prop) (e u v:Nat) (q:Nat→Bool) (I:Nat→List HObj→Prop) (S:List HObj→Prop) (i n:Nat) (st:St) (r:Bool) (st':St):Prop :=
 (r=true→I (i+n) st'.heap∧∀ j,i≤j→j<i+n→q j=true→st'.lo≤u)∧(r=false→S st'.heap∧st'.lo≤u)∧KeepV W st.heap st'.heap∧e≤st'.lo∧st'.lo≤st'.heap.length∧((n=0∧r=true∧st'=st)∨st'.lo≤v)
theorem left_fin {W:Nat→Prop} {e u v:Nat} {q:Nat→Bool} {I:Nat→List HObj→Prop} {S:List HObj→Prop} {i n:Nat} {st st1:St} {r:Bool} (h0:I i st.heap) (he:e≤st.lo) (hwf:st.lo≤st.heap.length) (hw:v<st.heap.length) (hk:KeepV W st.heap st1.heap) (he1:e≤st1.lo)
  (h:(st.heap.length≤st1.lo∧n=0∧r=true)∨(st1.lo≤v∧(r=true→I (i+n) st1.heap∧∀ j,i≤j→j<i+n→q j=true→st1.lo≤u)∧(r=false→S st1.heap∧st1.lo≤u))) :
  ∃ r',(finishCall st st1 (.bool r)).1 = .bool r'∧Left W e u v q I S i n st r' (finishCall st st1 (.bool r)).2:=by
 rcases h with ⟨h1,rfl,rfl⟩|⟨h1,h2,h3⟩
 ·rw [finish_flat h1 rfl]
  exact ⟨true,rfl,(fun _=>⟨h0,fun j h1 h2=>by omega⟩),(fun h=>by cases h),.refl _ _,he,hwf,.inl ⟨rfl,rfl,rfl⟩⟩
 ·unfold finishCall
  rw [if_neg (by omega)]
  exact ⟨r,rfl,fun hr=>⟨(h2 hr).1,fun j j1 j2 j3=>by have:=(h2 hr).2 j j1 j2 j3;show min st.lo st1.lo≤u;omega⟩,fun hr=>⟨(h3 hr).1,by have:=(h3 hr).2;show min st.lo st1.lo≤u;omega⟩,hk,by show e≤min st.lo st1.lo;omega,by show min st.lo st1.lo≤st1.heap.length;have:=hk.1;omega,.inr (by show min st.lo st1.lo≤v;omega)⟩
theorem c104 (F:PV) (l:List Int) (hF:SlOf 1 encI F l) (hN:l.length<1000) (st:St):ClR EE (.func 104 [] []) [F] st (RetS st 1 l.length (l.flatMap encI)):=by
 have h:=hF.sl
 refine cG1 pr104 fn104 (fun tm hl h0=>?_)
 cases F with
 | nilslice =>
  simp only [PV.sl,Option.some.injEq,Prod.mk.injEq] at h
  have:l=[]:=by simpa using h.1.symm
  subst this
  refine go2 (bw hl h0) fnil ?_
  exact fnr_ret (results_one (v := .nilslice) (by rw [rdRes_tmp];simp only [↓reduceIte,go_sem,hl])) (OwnS.nil.finish (by simp) (fun m c hc=>by cases hc))
 | slice o n cs =>
  simp only [PV.sl,Option.some.injEq,Prod.mk.injEq] at h
  obtain ⟨rfl,rfl⟩:=h
  refine go2 (bw hl h0) fnil ?_
  have hO:OwnS st.heap.length ((⟨st.heap,st.heap.length⟩:St).push (.tag true)) 1 (.slice (.tag st.heap.length 1) 0 []) 0 []:=⟨by simp,.inr ⟨_,rfl,Nat.le_refl _,by rw [hp_push,if_pos rfl]⟩⟩
  refine wops_append rfl rfl (sR hl) (sR (bw hl h0)) hO rfl (by simp only [len_push];omega) (by rw [flatMap_len (sz:=1) (fun _ _=>rfl)]) (by simp [encI_map,PV.isCell]) (by simp only [maxList];omega) ?_
  intro v' st2 hO' hFr hk
  refine go2 hl fnil ?_
  refine fnr_ret (results_one (v:=v') (by rw [rdRes_tmp];simp only [↓reduceIte,go_sem,hl])) (OwnS.finish (n:=l.length) (cs:=l.flatMap encI) ?_ ?_ (fun m c hc=>encI_low l m c hc))
  ·have:List.map PV.share (List.flatMap encI l)=List.flatMap encI l:=by simp [encI_map,PV.share]
   simpa [this] using hO'
  ·have:=hFr.lo
   simp only [lo_push] at this
   omega
 | _=>simp [PV.sl] at h
theorem wopsD_appendF {E:Env} {QD:Ex→List PV→St→List Foot→Prop} {tm:List PV} {st:St} {sz:Nat} {x y:Opd} {dst:Option Nat} {g:Option (Nat×Bool)} {os:List DOper} {b:Bool} {m n k:Nat} {v w:PV} {cs ys:List PV} (hlo:st.lo≤st.heap.length) (hw:wants tm g=b) (hb:b=true) (hx:x.ev tm=v) (hy:y.ev tm=w) (ho:OwnS m st sz v n cs) (hyl:w.sl=some (k,ys)) (hm:m≤st.heap.length) (hl:ys.length=k*sz) (hc:ys.all PV.isCell=true) (hn:n+k≤maxList)
  (h:∀ v' st' ft,(∀ l,l<m→clash l ft=false)→OwnS m st' sz v' (n+k) (cs++ys.map PV.share)→Fr m st st'→(∀ l o,hp st l=some o→(∀ b,o ≠ .tag b)→hp st' l=some o)→WOpsD E os (fun e tm' st'' fs=>QD e tm' st'' (ft::fs)) (put tm dst v') st'):WOpsD E (⟨.append false sz x y,dst,g⟩::os) QD tm st:=by
 have ho':OwnS m { st with lo:=st.heap.length } sz v n cs:=ho.keep fun _ _ h=>h
 obtain ⟨v',st1,h1,h2,h3,h4⟩:=ho'.append hm hl hc hn
 refine wopsD_cons (v:=v') (st1:=st1) (hw.trans hb) 0 (fun n _=>?_) ?_
 ·simp only [stepOp,hx,hy]
  cases w <;> simp only [PV.sl,Option.some.injEq,Prod.mk.injEq,reduceCtorEq] at hyl
  ·obtain ⟨rfl,rfl⟩:=hyl;exact h1
  ·obtain ⟨rfl,rfl⟩:=hyl;exact h1
 ·refine h v' { st1 with lo:=min st.lo st1.lo } _ (fun l hl=>?_) (h2.keep fun _ _ h=>h) ⟨h3.len,?_,h3.old,Nat.min_le_left _ _⟩ h4
  ·have:=h3.lo
   simp only at this
   simp only [footOf]
   split
   ·rfl
   ·simp only [clash,decide_eq_false_iff_not];omega
  ·have:=h3.lo
   simp only at this
   show min m st.lo≤min st.lo st1.lo
   omega
def RepL (v:PV) (x:List Int):Prop:=SlOf 1 encI v x∧v.share=elL x
def subL (w:Nat) (k:Nat) (now:List Int):List (List Int):=(listsL w k).map (now++·)
theorem subL_succ (w k:Nat) (now:List Int):subL w (k+1) now=(List.range w).flatMap fun (x:Nat)=>subL w k (now++[(x:Int)]):=by
 simp only [subL,listsL,List.map_flatMap,List.map_map]
 congr 1
 funext x
 congr 1
 funext l
 simp
theorem subL_zero (w:Nat) (now:List Int):subL w 0 now=[now]:=by simp [subL,listsL]
theorem subL_nil (w k:Nat):subL w k []=listsL w k:=by simp [subL]
section
variable {y T V:PV} {wd bW bL mY mS e u v0 w:Nat} {q:Nat→Bool} {X:List (List Int)} {W:Nat→Prop} {I:Nat→List HObj→Prop} {S:List HObj→Prop} {long:Nat}
set_option maxHeartbeats 4000000 in
theorem c120 (hwd:wd<1000) (hlong:long<100) (Y:YldQ EE y X RepL W e u v0 w q I S) (hWL:¬ W bL) (hWW:¬ W bW) (hWy:¬ W mY) (hWs:¬ W mS) :
  ∀ (k:Nat) (now:List Int) (v:PV) (st:St) (i:Nat),RepL v now→now.length+k=long→subL wd k now <+: X.drop i→I i st.heap→e≤st.lo→st.lo≤st.heap.length→w<st.heap.length →
   hp st bL=some (.var [iv long])→hp st bW=some (.var [iv wd,T,V])→hp st mY=some (.var [y])→hp st mS=some (.var [.func 120 [] [.ptr bL 0,.ptr mY 0,.ptr bW 0,.ptr mS 0]]) →
   ClR EE (.func 120 [] [.ptr bL 0,.ptr mY 0,.ptr bW 0,.ptr mS 0]) [v] st (fun x st'=>∃ r,x = .bool r∧Left W e u v0 q I S i (subL wd k now).length st r st')
 | 0,now,v,st,i,hv,hlen,hX,hI,helo,hwf,hw,hbL,hbW,hy,hs=>by
  have hvs:=hv.1.slen
  have hbL':hp { heap:=st.heap,lo:=st.heap.length } bL=some (.var [iv long]):=hbL
  have hy':hp { heap:=st.heap,lo:=st.heap.length } mY=some (.var [y]):=hy
  have hbe:((now.length:Int)==(long:Int))=true:=by simp;omega
  rw [subL_zero] at hX ⊢
  obtain ⟨t,ht⟩:=hX
  have hi:i<X.length:=by
   rcases Nat.lt_or_ge i X.length with h|h
   ·exact h
   ·rw [List.drop_eq_nil_of_le h] at ht;cases ht
  have hXi:X[i]=now:=by
   rw [List.drop_eq_getElem_cons hi] at ht
   simp only [List.singleton_append,List.cons.injEq] at ht
   exact ht.1.symm
  refine clr_fn (pr120 · _ _) fn120 5 rfl (by decide) (fun tm hl hg=>?_);have h0:tg tm 0=v:=(hg 0 (by decide));have h1:tg tm 1 = .ptr bL 0:=(hg 1 (by decide));have h2:tg tm 2 = .ptr mY 0:=(hg 2 (by decide));have h3:tg tm 3 = .ptr bW 0:=(hg 3 (by decide));have h4:tg tm 4 = .ptr mS 0:=(hg 4 (by decide));clear hg
  obtain ⟨r,st',hcl,hk,he',hw',hT,hS'⟩:=Y.step i hi v { heap:=st.heap,lo:=st.heap.length } (by rw [hXi];exact hv) hI (by show e≤st.heap.length;omega) (Nat.le_refl _) hw
  refine go2 (bw9 hl h0 h1 h2 h3 hbL' hy' hvs hbe) (bw hcl fnil) ?_
  refine fX (.bool r) hl ?_
  refine left_fin hI helo hwf (by have:=Y.vw;omega) hk he' (.inr ⟨hw',fun hr=>⟨(hT hr).1,fun j j1 j2 j3=>?_⟩,hS'⟩)
  have hj:j=i:=by simp only [List.length_singleton] at j2;omega
  subst hj
  exact (hT hr).2 j3
 | k+1,now,v,st,i,hv,hlen,hX,hI,helo,hwf,hw,hbL,hbW,hy,hs=>by
  have hvs:=hv.1.slen
  have hbL':hp { heap:=st.heap,lo:=st.heap.length } bL=some (.var [iv long]):=hbL
  have hbW':hp { heap:=st.heap,lo:=st.heap.length } bW=some (.var [iv wd,T,V]):=hbW
  have hbe:((now.length:Int)==(long:Int))=false:=by simp;omega
  have h4x:True:=trivial
  refine clr_fn (pr120 · _ _) fn120 5 rfl (by decide) (fun tm hl hg=>?_);have h0:tg tm 0=v:=(hg 0 (by decide));have h1:tg tm 1 = .ptr bL 0:=(hg 1 (by decide));have h2:tg tm 2 = .ptr mY 0:=(hg 2 (by decide));have h3:tg tm 3 = .ptr bW 0:=(hg 3 (by decide));have h4:tg tm 4 = .ptr mS 0:=(hg 4 (by decide));clear hg
  refine go2 (bw9 hl h0 h1 h2 h3 hbL' hbW' hvs hbe) fnil ?_
  have hsg:=subL_succ wd k now
  generalize hg:(fun (x:Nat)=>subL wd k (now++[(x:Int)]))=g at hsg
  have hgn:∀ n,g n=subL wd k (now++[(n:Int)]):=fun n=>by rw [← hg]
  rw [hsg] at hX ⊢
  refine wp_range wd [] (fun n vs st1=>I (i+((List.range n).flatMap g).length) st1.heap∧KeepV W st.heap st1.heap∧e≤st1.lo∧st1.lo≤st1.heap.length∧(∀ j,i≤j→j<i+((List.range n).flatMap g).length→q j=true→st1.lo≤u)∧((st.heap.length≤st1.lo∧((List.range n).flatMap g).length=0)∨st1.lo≤v0)) (by omega) (sG hl) (sG hl) (sG hl) (by decide) ⟨hI,.refl _ _,by show e≤st.heap.length;omega,Nat.le_refl _,(fun j j1 j2=>by simp at j2;omega),.inl ⟨Nat.le_refl _,rfl⟩⟩ ?_ ?_
  ·rintro n hn tm1 st1 ⟨hI1,hk1,he1,hwf1,hq1,hlo1⟩ hS hia
   have hl1:tm1.length=29:=lN hS hl;have i0:tg tm1 0=v:=tQ hS (bw3 hl h0 h4);have i4:tg tm1 4 = .ptr mS 0:=tQ hS (bw3 hl h0 h4);clear hS
   have hs1:hp st1 mS=some (.var [.func 120 [] [.ptr bL 0,.ptr mY 0,.ptr bW 0,.ptr mS 0]]):=hk1.hp hs hWs
   have ls1:=hp_lt hs1
   have hlk:=hk1.1
   refine go2 (bw5 hl1 i0 i4 hia hs1) fnil ?_
   refine wopsD_callS (by first|omega|(simp only [lo_push,lo_setVar,len_push,len_setVar];omega)) rfl rfl (by simp only [↓reduceIte,go_sem,hl1,i0];first|done|rfl) (fun st1 he=>by simp only [↓reduceIte,go_sem,hl1,i0];exact c104 v now hv.1 (by omega) _) ?_
   intro v1 st2 hR
   have hlen2:=hR.len
   have hlo2:=hR.lo
   refine go2 (bw hl1 hia) fnil ?_
   refine wopsD_appendF (by omega) rfl rfl (sR hl1) (sR hl1) (hR.own (Nat.le_refl _)) rfl (by omega) (by rfl) (by rfl) (by simp only [maxList];omega) ?_
   intro v' st3 ft hft hO' hFr hk3
   have hv':RepL v' (now++[(n:Int)]):=⟨SlOf.of_sl hO'.sl (by simp) (by simp [encI_map,share_int]) (fun _=>rfl),share_own hO' (by simp) (by simp [encI_map,share_int]) (by simp)⟩
   have hFr3:Fr st1.heap.length st1 st3:=hR.fr.trans hFr
   have hl13:=hFr3.len
   have hlo13:=hFr3.lo
   have hup13:=hFr3.up
   have hx3:HExt st1.heap st3.heap:=hFr3.hext
   have hk4:=hk1.trans (hx3.keep W)
   have hXn:subL wd k (now++[(n:Int)]) <+: X.drop (i+((List.range n).flatMap g).length):=by
    obtain ⟨r,hr⟩:=flatMap_range_split g hn
    rw [hr] at hX
    rw [← hgn,← List.drop_drop]
    exact prefix_drop hX
   have hrec:=c120 hwd hlong Y hWL hWW hWy hWs k (now++[(n:Int)]) v' { heap:=st3.heap,lo:=st3.heap.length } (i+((List.range n).flatMap g).length) hv' (by simp;omega) hXn (Y.stab _ _ _ hI1 hx3) (by show e≤st3.heap.length;omega) (Nat.le_refl _) (by show w<st3.heap.length;omega) (hk4.hp hbL hWL) (hk4.hp hbW hWW) (hk4.hp hy hWy) (hk4.hp hs hWs)
   refine wopsD_callF rfl rfl (sR hl1) (sR hl1) hrec ?_
   rintro u st5 ⟨r,rfl,hT,hS',hk5,he5,hwf5,hlo5⟩
   have hcnt:=flatMap_range_succ g n
   rw [hgn] at hcnt
   have hf0:=hft mS ls1
   have hk6:KeepV W st.heap st5.heap:=hk4.trans hk5
   cases r
   ·refine go2 (bw hl1 hf0) fnil ?_
    refine fX (.bool false) hl1 ?_
    refine left_fin hI helo hwf (by have:=Y.vw;omega) hk6 (by show e≤min st3.lo st5.lo;omega) (.inr ⟨?_,(fun h=>by cases h),fun hr=>⟨(hS' hr).1,by have:=(hS' hr).2;show min st3.lo st5.lo≤u;omega⟩⟩)
    rcases hlo5 with ⟨_,h2,_⟩|h2
    ·cases h2
    ·show min st3.lo st5.lo≤v0;omega
   ·refine go2 (bw hl1 hf0) fnil ?_
    refine ⟨by rw [hcnt,← Nat.add_assoc];exact (hT rfl).1,hk6,by show e≤min st3.lo st5.lo;omega,by show min st3.lo st5.lo≤st5.heap.length;omega,?_,?_⟩
    ·intro j j1 j2 j3
     show min st3.lo st5.lo≤u
     by_cases hj:j<i+((List.range n).flatMap g).length
     ·have:=hq1 j j1 hj j3
      omega
     ·have:=(hT rfl).2 j (by omega) (by rw [hcnt] at j2;omega) j3
      omega
    rcases hlo5 with ⟨h1,_,rfl⟩|h2
    ·rcases hlo1 with ⟨h3,h4⟩|h3
     ·exact .inl ⟨by show st.heap.length≤min st3.lo st3.heap.length;omega,by omega⟩
     ·exact .inr (by show min st3.lo st3.heap.length≤v0;omega)
    ·exact .inr (by show min st3.lo st5.lo≤v0;omega)
  ·rintro tm1 st1 ⟨hI1,hk1,he1,hwf1,hq1,hlo1⟩ hS
   have hl1:tm1.length=29:=by rw [hS.1];simp only [↓reduceIte,go_sem,hl]
   refine go2 hl1 fnil ?_
   refine fX (.bool true) hl1 ?_
   refine left_fin hI helo hwf (by have:=Y.vw;omega) hk1 he1 ?_
   rcases hlo1 with ⟨h1,h2⟩|h1
   ·exact .inl ⟨h1,h2,rfl⟩
   ·exact .inr ⟨h1,fun _=>⟨hI1,hq1⟩,fun h=>by cases h⟩
end
theorem c77 (b:QB) (long:Nat) (st:St):Cl EE (.func 77 [] []) [b.pv,iv long] st (.ret (.func 119 [] [.ptr (st.heap.length+1) 0,.ptr st.heap.length 0])) ((st.push (.var [iv b.cues,iv b.tunes,b.v])).push (.var [iv long])):=by
 refine cF2 pr77 fn77 (fun tm hl h0 h1=>?_)
 refine go2 (bw3 hl h0 h1) fnil ?_
 unfold FnQ
 refine ⟨.func 119 [] [.ptr (st.heap.length+1) 0,.ptr st.heap.length 0],results_one (by rw [rdRes_tmp];simp only [↓reduceIte,go_sem,hl]),_,?_,rfl⟩
 rw [finish_none (by simp only [lo_push];omega) (by simp [letGo,freeze1,retag1,PV.low,lowL])]
 rfl
set_option maxHeartbeats 1000000 in
theorem iter119 {wd long bL bW:Nat} {T V:PV} {st:St} (hwd:wd<1000) (hlong:long<100) (hbL:hp st bL=some (.var [iv long])) (hbW:hp st bW=some (.var [iv wd,T,V])):IterQ EE (.func 119 [] [.ptr bL 0,.ptr bW 0]) st (listsL wd long) RepL (fun l=>l=bL∨l=bW):=by
 intro y W e u v0 w q I S Y hWp hI he hwf hw
 have hyi:=Y.cell
 have hyc:=Y.cells
 have hew:=Y.eu
 have huv:=Y.uv
 have huw:=Y.vw
 have hWw:=Y.Ww
 have hWL:¬ W bL:=hWp bL (.inl rfl)
 have hWW:¬ W bW:=hWp bW (.inr rfl)
 have hWy:¬ W st.heap.length:=fun h=>by have:=hWw _ h;omega
 have hWs:¬ W (st.heap.length+1):=fun h=>by have:=hWw _ h;omega
 have hx0:HExt st.heap (setVar ((({ heap:=st.heap,lo:=st.heap.length }:St).push (.var [y])).push (.var [.nilfunc])) (st.heap.length+1) (.var [.func 120 [] [.ptr bL 0,.ptr st.heap.length 0,.ptr bW 0,.ptr (st.heap.length+1) 0]])).heap :=
  (show HExt ({ heap:=st.heap,lo:=st.heap.length }:St).heap _ from ((((Fr.refl st.heap.length { heap:=st.heap,lo:=st.heap.length }).push (Nat.le_refl _)).push (by simp only [len_push];omega)).setVar (by omega)).hext)
 have hrec:=c120 (X:=listsL wd long) (mY:=st.heap.length) (mS:=st.heap.length+1) hwd hlong Y hWL hWW hWy hWs long [] .nilslice (setVar ((({ heap:=st.heap,lo:=st.heap.length }:St).push (.var [y])).push (.var [.nilfunc])) (st.heap.length+1) (.var [.func 120 [] [.ptr bL 0,.ptr st.heap.length 0,.ptr bW 0,.ptr (st.heap.length+1) 0]])) 0 ⟨.nil,rfl⟩ (by simp) (by rw [subL_nil,List.drop_zero];exact List.prefix_refl _) (Y.stab _ _ _ hI hx0) (by simp only [lo_setVar,lo_push];omega) (by simp only [lo_setVar,lo_push,len_setVar,len_push];omega) (by simp only [len_setVar,len_push];omega)
  (hx0.hp hbL) (hx0.hp hbW) (sG fnil) (sG fnil)
 rw [subL_nil] at hrec
 have hgoal:ClR EE (.func 119 [] [.ptr bL 0,.ptr bW 0]) [y] st (fun v st'=>KeepV W st.heap st'.heap∧e≤st'.lo∧st'.lo≤st'.heap.length∧(((listsL wd long).length=0∧st'=st)∨st'.lo≤v0)∧((I (listsL wd long).length st'.heap∧∀ i,i<(listsL wd long).length→q i=true→st'.lo≤u)∨(S st'.heap∧st'.lo≤u))):=by
  refine cG3 pr119 fn119 (fun tm hl h0 h1 h2=>?_)
  refine go2 (bw6 hl h0 h1 h2 hyi hyc) fnil ?_
  refine cR (bw4 hl h0 h1 h2) (hrec) ?_
  rintro u st5 ⟨r,rfl,hT,hS',hk5,he5,hwf5,hlo5⟩
  rw [Nat.zero_add] at hT
  refine go2 hl fnil ?_
  refine fnr_normal results_nil ?_
  rcases hlo5 with ⟨h1,rfl,rfl⟩|h1
  ·rw [finish_tuple (by simp only [lo_setVar,lo_push];omega) (by rfl),h1]
   exact ⟨.refl _ _,he,hwf,.inl ⟨rfl,rfl⟩,.inl ⟨hI,fun i hi=>absurd hi (by omega)⟩⟩
  ·unfold finishCall
   rw [if_neg (by omega)]
   refine ⟨(hx0.keep W).trans hk5,?_,?_,.inr (by show min st.lo st5.lo≤v0;omega),?_⟩
   ·show e≤min st.lo st5.lo;omega
   ·show min st.lo st5.lo≤st5.heap.length;omega
   ·cases r
    ·exact .inr ⟨(hS' rfl).1,by have:=(hS' rfl).2;show min st.lo st5.lo≤u;omega⟩
    ·exact .inl ⟨(hT rfl).1,fun i hi hq=>by have:=(hT rfl).2 i (Nat.zero_le _) (by omega) hq;show min st.lo st5.lo≤u;omega⟩
 obtain ⟨v,st',h1,h2⟩:=hgoal
 exact ⟨v,st',h1,h2⟩
end Go.Den.Tq
end
section
namespace Go.Den.Tq
open Go.Den.Tp Go.Den.Ve
def BodyQ (W:Nat→Prop) (e u:Nat) (q:Bool) (s0:St) (J:List HObj→Prop) (D:Jump→List HObj→Prop):Ex→List PV→St→Prop:=fun ex _ s3 =>
 KeepV W s0.heap s3.heap∧e≤s3.lo∧s3.lo≤s3.heap.length∧match ex with
  | .normal=>J s3.heap∧(q=true→s3.lo≤u)
  | .ret=>D .ret s3.heap∧s3.lo≤u
  | .exit x=>D (.exit x) s3.heap∧s3.lo≤u
  | .panic _=>False
section
variable {E:Env} {Q:Ex→List PV→St→Prop} {tm:List PV} {st:St}
theorem wp_rangeQ {α:Type} {X:List α} {Rep:PV→α→Prop} {f:Opd} {g p:Nat} {fa fc:List PV} {assign body:DCode} {priv:Nat→Prop} (W:Nat→Prop) (e u:Nat) (q:Nat→Bool) (J:Nat→List HObj→Prop) (D:Jump→List HObj→Prop) (hf:f.ev tm = .func g fa fc) (hI:IterQ E (.func g fa fc) (st.push (.loop tm [p] assign body .ready none)) X Rep priv)
  (hW:∀ l,priv l→¬ W l∧l≠st.heap.length) (hWl:∀ l,W l→l<st.heap.length) (he:e≤st.lo) (hwf:st.lo≤st.heap.length) (heu:e≤u) (hu:u≤st.heap.length)
  (stab:∀ i h h',J i h→HExt h h'→J i h') (stabD:∀ j h h',D j h→HExt h h'→D j h') (stabL:∀ i h l o o',st.heap.length≤l→J i h→h[l]? = some o→isLoop o=true→isLoop o'=true→J i (h.set l o')) (stabDL:∀ j h l o o',st.heap.length≤l→D j h→h[l]? = some o→isLoop o=true→isLoop o'=true→D j (h.set l o'))
  (init:J 0 st.heap)
  (step:∀ i (hi:i<X.length) v st1,Rep v X[i]→J i st1.heap→e≤st1.lo→st1.lo≤st1.heap.length→st.heap.length<st1.heap.length→(∃ o,hp st1 st.heap.length=some o∧isLoop o=true)→Wp E assign (fun ex tm1 st2=>ex = .normal∧HExt st1.heap st2.heap∧e≤st2.lo∧st2.lo≤st2.heap.length ∧
   ∀ o,isLoop o=true→Wp E body (BodyQ W e u (q i) (setVar st2 st.heap.length o) (J (i+1)) D) tm1 (setVar st2 st.heap.length o)) (put tm (some p) v) st1)
  (done:∀ st',J X.length st'.heap→KeepV W st.heap st'.heap→e≤st'.lo→st'.lo≤st'.heap.length→((X.length=0∧st'.lo=st.lo)∨st'.lo≤st.heap.length)→(∀ i,i<X.length→q i=true→st'.lo≤u)→Q .normal tm st')
  (stop:∀ j st',D j st'.heap→KeepV W st.heap st'.heap→e≤st'.lo→st'.lo≤st'.heap.length→st'.lo≤u→Q (jumpEx j) tm st') :
  Wp E (.rangeFunc f [p] assign body) Q tm st:=by
 have hp0:hp (st.push (.loop tm [p] assign body .ready none)) st.heap.length=some (.loop tm [p] assign body .ready none):=by rw [hp_push,if_pos rfl]
 have hLn:¬ W st.heap.length:=fun h=>by have:=hWl _ h;omega
 have Y:YldQ E (.yield st.heap.length) X Rep (fun l=>W l∨l=st.heap.length) e u st.heap.length st.heap.length q (fun i h=>J i h∧h[st.heap.length]? = some (.loop tm [p] assign body .ready none)) (fun h=>∃ j,D j h∧h[st.heap.length]? = some (.loop tm [p] assign body .done (some j))):=by
  refine ⟨fun i h h' ⟨h1,h2⟩ hx=>⟨stab i h h' h1 hx,by rw [hx.2 _ (List.getElem?_eq_some_iff.1 h2).1];exact h2⟩,
   heu,hu,Nat.le_refl _,fun l hl=>by rcases hl with h|h;exact Nat.le_of_lt (hWl l h);exact Nat.le_of_eq h,rfl,rfl,?_⟩
  rintro i hi v st1 hv ⟨hJ,hLp⟩ helo hwf1 hwl
  have hA:=step i hi v st1 hv hJ helo hwf1 hwl ⟨_,hLp,rfl⟩
  unfold Wp at hA
  obtain ⟨N,ex,tm1,st2,hN,rfl,hx,he2,hwf2,hB⟩:=hA
  have hL2:hp st2 st.heap.length=some (.loop tm [p] assign body .ready none):=hx.hp hLp
  have hl2:=hp_lt hL2
  have hB1:=hB (.loop tm [p] assign body .busy none) rfl
  unfold Wp at hB1
  obtain ⟨M,ex,tm3,st3,hM,hk3,he3,hwf3,hD⟩:=hB1
  have hL3:hp st3 st.heap.length=some (.loop tm [p] assign body .busy none):=hk3.2 _ _ (by have:=hp_setVar st2 st.heap.length st.heap.length (.loop tm [p] assign body .busy none);rw [if_pos rfl,if_pos hl2] at this;exact this) rfl hLn
  have hkeep:∀ s q,KeepV (fun l=>W l∨l=st.heap.length) st1.heap (setVar st3 st.heap.length (.loop tm [p] assign body s q)).heap:=by
   intro s q
   refine (hx.keep _).trans ⟨by have:=hk3.1;rw [len_setVar] at this ⊢;exact this,fun l o ho hk hn=>?_⟩
   have h1:=hp_setVar st3 st.heap.length l (.loop tm [p] assign body s q)
   rw [if_neg (fun h=>hn (.inr h))] at h1
   have h2:=hp_setVar st2 st.heap.length l (.loop tm [p] assign body .busy none)
   rw [if_neg (fun h=>hn (.inr h))] at h2
   exact h1.trans (hk3.2 _ _ (h2.trans ho) hk (fun h=>hn (.inl h)))
  have hlo:∀ s q,(setVar st3 st.heap.length (.loop tm [p] assign body s q)).lo≤st.heap.length:=fun s q=>by rw [lo_setVar];omega
  have hlo2:∀ s q,st3.lo≤u→(setVar st3 st.heap.length (.loop tm [p] assign body s q)).lo≤u:=fun s q h=>by rw [lo_setVar];omega
  have hle:∀ s q,e≤(setVar st3 st.heap.length (.loop tm [p] assign body s q)).lo:=fun s q=>by rw [lo_setVar];omega
  have hat:∀ s q,(setVar st3 st.heap.length (.loop tm [p] assign body s q)).heap[st.heap.length]? = some (.loop tm [p] assign body s q):=fun s q=>by
   have:=hp_setVar st3 st.heap.length st.heap.length (.loop tm [p] assign body s q)
   rw [if_pos rfl,if_pos (hp_lt hL3)] at this
   exact this
  have hL1':st1.heap[st.heap.length]? = some (.loop tm [p] assign body .ready none):=hLp
  have hL2':st2.heap[st.heap.length]? = some (.loop tm [p] assign body .ready none):=hL2
  have hL3':st3.heap[st.heap.length]? = some (.loop tm [p] assign body .busy none):=hL3
  have mk:∀ (b:Bool) (s:LSt) (q:Option Jump),(∀ n,max N M≤n→round (run E n) st.heap.length [v] st1=some (.ret (.bool b),setVar st3 st.heap.length (.loop tm [p] assign body s q)))→Cl E (.yield st.heap.length) [v] st1 (.ret (.bool b)) (setVar st3 st.heap.length (.loop tm [p] assign body s q)):=by
   intro b s q h
   refine ⟨max N M+1,fun n hn=>?_⟩
   obtain ⟨m,rfl⟩:∃ m,n=m+1:=⟨n - 1,by omega⟩
   exact h m (by omega)
  cases ex with
  | normal =>
   refine ⟨true,_,mk true .ready none (fun n hn=>?_),hkeep _ _,hle _ _,hlo _ _,fun _=>⟨⟨stabL _ _ _ _ _ (Nat.le_refl _) hD.1 hL3' rfl rfl,hat _ _⟩,fun hq=>hlo2 _ _ (hD.2 hq)⟩,fun h=>by cases h⟩
   simp only [round,hL1',setParams_one,hN n (by omega),setLoop,hL2',id_eq,hM n (by omega),hL3',Option.map_some]
  | ret =>
   refine ⟨false,_,mk false .done (some .ret) (fun n hn=>?_),hkeep _ _,hle _ _,hlo _ _,(fun h=>by cases h),fun _=>⟨⟨.ret,stabDL _ _ _ _ _ (Nat.le_refl _) hD.1 hL3' rfl rfl,hat _ _⟩,hlo2 _ _ hD.2⟩⟩
   simp only [round,hL1',setParams_one,hN n (by omega),setLoop,hL2',id_eq,hM n (by omega),hL3',Option.map_some]
  | exit x =>
   refine ⟨false,_,mk false .done (some (.exit x)) (fun n hn=>?_),hkeep _ _,hle _ _,hlo _ _,(fun h=>by cases h),fun _=>⟨⟨.exit x,stabDL _ _ _ _ _ (Nat.le_refl _) hD.1 hL3' rfl rfl,hat _ _⟩,hlo2 _ _ hD.2⟩⟩
   simp only [round,hL1',setParams_one,hN n (by omega),setLoop,hL2',id_eq,hM n (by omega),hL3',Option.map_some]
  | panic v=>exact hD.elim
 obtain ⟨v,st1,⟨N,hN⟩,hk,he1,hwf1,hlo1,hfin⟩:=hI (.yield st.heap.length) (fun l=>W l∨l=st.heap.length) e u st.heap.length st.heap.length q _ _ Y
  (fun l hl h=>by obtain ⟨h1,h2⟩:=hW l hl;rcases h with h|h;exact h1 h;exact h2 h) ⟨stab 0 _ _ init (.push st _),hp0⟩ he (by rw [lo_push,len_push];omega) (by rw [len_push];omega)
 have hpush:({ heap:=st.heap++[.loop tm [p] assign body .ready none],lo:=st.lo }:St)=st.push (.loop tm [p] assign body .ready none):=rfl
 have hkeep:∀ s q,KeepV W st.heap (setVar st1 st.heap.length (.loop tm [p] assign body s q)).heap:=by
  intro s q
  have h1:=hk.1
  rw [len_push] at h1
  refine ⟨by rw [len_setVar];omega,fun l o ho hko hn=>?_⟩
  have hl:=(List.getElem?_eq_some_iff.1 ho).1
  have h2:=hk.2 l o (by have:=hp_push st (.loop tm [p] assign body .ready none) l;rw [if_neg (by omega)] at this;exact this.trans ho) hko (by rintro (h|h);exact hn h;omega)
  have:=hp_setVar st1 st.heap.length l (.loop tm [p] assign body s q)
  rw [if_neg (by omega)] at this
  exact this.trans h2
 have hlen:st.heap.length<st1.heap.length:=by have:=hk.1;rw [len_push] at this;omega
 have hlo:∀ s q,e≤(setVar st1 st.heap.length (.loop tm [p] assign body s q)).lo:=fun s q=>by rw [lo_setVar];omega
 have hwfs:∀ s q,(setVar st1 st.heap.length (.loop tm [p] assign body s q)).lo≤(setVar st1 st.heap.length (.loop tm [p] assign body s q)).heap.length:=fun s q=>by rw [lo_setVar,len_setVar];omega
 have hup2:∀ s q,st1.lo≤u→(setVar st1 st.heap.length (.loop tm [p] assign body s q)).lo≤u:=fun s q h=>by rw [lo_setVar];omega
 have hup:∀ s q,(X.length=0∧(setVar st1 st.heap.length (.loop tm [p] assign body s q)).lo=st.lo)∨(setVar st1 st.heap.length (.loop tm [p] assign body s q)).lo≤st.heap.length:=fun s q=>by
  rcases hlo1 with ⟨h1,h2⟩|h1
  ·left;refine ⟨h1,?_⟩;rw [lo_setVar,h2,lo_push];omega
  ·right;rw [lo_setVar];omega
 rcases hfin with ⟨⟨hJ,hL⟩,hqq⟩|⟨⟨j,hD,hL⟩,hlu⟩
 ·refine .of_step N (fun n hn=>?_) (done _ (stabL _ _ _ _ _ (Nat.le_refl _) hJ hL rfl rfl) (hkeep .over none) (hlo _ _) (hwfs _ _) (hup _ _) (fun i hi hq=>hup2 _ _ (hqq i hi hq)))
  simp only [stepCode,hf,hpush,hN n hn,setLoop,hL,id_eq]
 ·have hq:=stop j _ (stabDL _ _ _ _ _ (Nat.le_refl _) hD hL rfl rfl) (hkeep .over (some j)) (hlo _ _) (hwfs _ _) (hup2 _ _ hlu)
  cases j with
  | ret =>
   refine .of_step N (fun n hn=>?_) hq
   simp only [stepCode,hf,hpush,hN n hn,setLoop,hL,id_eq,jumpEx]
  | exit i =>
   refine .of_step N (fun n hn=>?_) hq
   simp only [stepCode,hf,hpush,hN n hn,setLoop,hL,id_eq,jumpEx]
end
end Go.Den.Tq
end

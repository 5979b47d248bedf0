/- Part of the proofs of laws of the package version. Texts: TsL, TsM, TsN, TsO. -/
import Derived.Test.YthnfeimjhibcaaaTBBa
import Derived.Test.YthnfeimjhibcaaaTBAl
import Derived.Test.YthnfeimjhibcaaaTBAx
set_option linter.unusedSimpArgs false
set_option linter.unusedVariables false
section
namespace Go.Den.Tp
open Go.Den.Ch (Fig CL Flt inB figB listB packB layerL layersL key brk disB disA disorder fullL gapL fault)
def Good (rk p:List Int):Prop:=p.Nodup∧∀ (a b:Nat) (x y r s:Int),p[a]? = some x→p[b]? = some y→rk[a]? = some r→rk[b]? = some s→x<y→s≤r
theorem getD_of {l:List Int} {i:Nat} {x:Int} (h:l[i]? = some x):l.getD i 0=x:=by rw [List.getD_eq_getElem?_getD,h];rfl
theorem has_iff {l:List Int} {x:Int}:hasI l x=false↔x∉l:=by
 simp only [hasI,List.any_eq_false,beq_iff_eq]
 constructor
 ·intro h hx;exact h x hx rfl
 ·rintro h y hy rfl;exact h hy
theorem mem_take_at {p:List Int} {k i:Nat} (hi:i<k) (hp:i<p.length):p[i]∈p.take k:=by
 have h:i<(p.take k).length:=by simp;omega
 have:(p.take k)[i]=p[i]:=by simp
 rw [← this]
 exact List.getElem_mem h
theorem rests_good {n:Nat} {rk p:List Int} (hl:rk.length=n) (hp:p.length=n):restsB n rk p=true↔Good rk p:=by
 simp only [restsB,List.all_eq_true,List.mem_range,okB,Bool.and_eq_true,Bool.not_eq_true',has_iff]
 constructor
 ·intro h
  have hb:∀ (i k:Nat) (x y r s:Int),i<k→p[i]? = some x→p[k]? = some y→rk[i]? = some r→rk[k]? = some s→¬ (r<s∧x<y)∧¬ (s<r∧y<x):=by
   intro i k x y r s hik hx hy hr hs
   have hk:k<p.length:=(List.getElem?_eq_some_iff.1 hy).1
   have h1:=(h k hk).2
   simp only [rankB,List.all_eq_true,List.mem_range,Bool.not_eq_true'] at h1
   have h2:=h1 i hik
   simp only [badR,getD_of hx,getD_of hy,getD_of hr,getD_of hs,Bool.or_eq_false_iff,Bool.and_eq_false_iff,decide_eq_false_iff_not] at h2
   omega
  refine ⟨?_,fun a b x y r s ha hb' hr hs hxy=>?_⟩
  ·rw [List.Nodup,List.pairwise_iff_getElem]
   intro i j hi hj hij e
   have h1:=(h j hj).1
   have e2:p.getD j 0=p[j]:=getD_of (List.getElem?_eq_getElem hj)
   rw [e2,← e] at h1
   exact h1 (mem_take_at hij hi)
  ·rcases Nat.lt_trichotomy a b with h1|h1|h1
   ·have:=hb a b x y r s h1 ha hb' hr hs;omega
   ·subst h1;rw [ha] at hb';cases hb';omega
   ·have:=hb b a y x s r h1 hb' ha hs hr;omega
 ·rintro ⟨hn,hg⟩ k hk
  have e2:p.getD k 0=p[k]:=getD_of (List.getElem?_eq_getElem hk)
  refine ⟨?_,?_⟩
  ·rw [e2]
   intro hm
   obtain ⟨i,hi,e⟩:=List.getElem_of_mem hm
   simp only [List.length_take] at hi
   rw [List.getElem_take] at e
   have:=List.pairwise_iff_getElem.1 hn i k (by omega) hk (by omega)
   exact this e
  ·simp only [rankB,List.all_eq_true,List.mem_range,Bool.not_eq_true']
   intro i hi
   have a1:p[i]? = some p[i]:=List.getElem?_eq_getElem (by omega)
   have a2:p[k]? = some p[k]:=List.getElem?_eq_getElem hk
   have a3:rk[i]? = some (rk[i]'(by omega)):=List.getElem?_eq_getElem (by omega)
   have a4:rk[k]? = some (rk[k]'(by omega)):=List.getElem?_eq_getElem (by omega)
   have g1:=hg i k _ _ _ _ a1 a2 a3 a4
   have g2:=hg k i _ _ _ _ a2 a1 a4 a3
   simp only [badR,getD_of a1,getD_of a2,getD_of a3,getD_of a4,Bool.or_eq_false_iff,Bool.and_eq_false_iff,decide_eq_false_iff_not]
   omega
theorem lay_count (x:Int):∀ {rk p:List Int},rk.length=p.length→layerL (rk.map fun r=>⟨1,r,0⟩) p x=List.replicate (p.count x) 1
 | [],[],_=>rfl
 | r::rk,y::p,h=>by
  have ih:=lay_count x (rk:=rk) (p:=p) (by simpa using h)
  simp only [List.map_cons,layerL,List.count_cons]
  by_cases e:y=x
  ·subst e
   simp only [if_true,ih,beq_self_eq_true]
   rw [List.replicate_succ]
  ·rw [if_neg e,ih,if_neg (by simp [e])];rfl
theorem sum_rep (k:Nat):(List.replicate k (1:Int)).sum=k:=by
 induction k with
 | zero=>rfl
 | succ k ih=>rw [List.replicate_succ,List.sum_cons,ih];omega
theorem sub_len:∀ {p l:List Int},p.Nodup→(∀ x∈p,x∈l)→p.length≤l.length
 | [],_,_,_=>Nat.zero_le _
 | x::p,l,hn,h=>by
  obtain ⟨h1,h2⟩:=List.nodup_cons.1 hn
  have hx:=h x (by simp)
  have:=sub_len (p:=p) (l:=l.erase x) h2 (fun y hy=>(List.mem_erase_of_ne (by rintro rfl;exact h1 hy)).2 (h y (by simp [hy])))
  rw [List.length_erase_of_mem hx] at this
  have h0:0<l.length:=List.length_pos_of_mem hx
  simp only [List.length_cons]
  omega
theorem all_in {n:Nat} {p:List Int} (hn:p.Nodup) (hp:p.length=n) (hr:∀ x∈p,0≤x∧x<n) {m:Int} (h0:0≤m) (h1:m<n):m∈p:=by
 refine Classical.byContradiction fun h=>?_
 have hm:m∈restL n:=by
  simp only [restL,List.mem_map,List.mem_range]
  exact ⟨m.toNat,by omega,by omega⟩
 have:=sub_len (p:=p) (l:=(restL n).erase m) hn (fun x hx=>(List.mem_erase_of_ne (by rintro rfl;exact h hx)).2 (by
  have:=hr x hx
  simp only [restL,List.mem_map,List.mem_range]
  exact ⟨x.toNat,by omega,by omega⟩))
 rw [List.length_erase_of_mem hm,restL_len] at this
 omega
theorem layersL_le {p:List Int} {n:Int} (h0:0≤n) (h:∀ x∈p,x<n):layersL p≤n:=by
 have:∀ (p:List Int) (a:Int),a≤n→(∀ x∈p,x<n)→p.foldl (fun n x=>max n (x+1)) a≤n:=by
  intro p
  induction p with
  | nil=>intro a ha _;exact ha
  | cons y p ih =>
   intro a ha hx
   have:=hx y (by simp)
   exact ih _ (Int.max_le.2 ⟨ha,by omega⟩) (fun z hz=>hx z (by simp [hz]))
 exact this p 0 h0 h
theorem layersL_ge {p:List Int} {x:Int} (h:x∈p):x+1≤layersL p:=by
 have mono:∀ (p:List Int) (a:Int),a≤p.foldl (fun n x=>max n (x+1)) a:=by
  intro p
  induction p with
  | nil=>intro a;exact Int.le_refl _
  | cons y p ih=>intro a;exact Int.le_trans (Int.le_max_left a _) (ih _)
 have:∀ (p:List Int) (a:Int),x∈p→x+1≤p.foldl (fun n x=>max n (x+1)) a:=by
  intro p
  induction p with
  | nil=>intro a h;cases h
  | cons y p ih =>
   intro a h
   rcases List.mem_cons.1 h with rfl|h
   ·exact Int.le_trans (Int.le_max_right a _) (mono p _)
   ·exact ih _ h
 exact this p 0 h
theorem layers_n {n:Nat} {p:List Int} (h1:1≤n) (hn:p.Nodup) (hp:p.length=n) (hr:∀ x∈p,0≤x∧x<n):layersL p=n:=by
 have a:=layersL_le (p:=p) (n:=n) (by omega) (fun x hx=>(hr x hx).2)
 have b:=layersL_ge (all_in hn hp hr (m:=(n:Int) - 1) (by omega) (by omega))
 omega
theorem fault_good {n:Nat} {rk p:List Int} (hl:rk.length=n) (hp:p.length=n) (hr:∀ x∈p,0≤x∧x<n):fault (shC n rk) p=none↔Good rk p:=by
 have hfig:∀ (a:Nat) (f:Fig),(shC n rk).figs[a]? = some f↔∃ r,rk[a]? = some r∧f=⟨1,r,0⟩:=fun a f=>by
  rw [sh_figs,List.getElem?_map,Option.map_eq_some_iff]
  exact ⟨fun ⟨r,h1,h2⟩=>⟨r,h1,h2.symm⟩,fun ⟨r,h1,h2⟩=>⟨r,h1,h2.symm⟩⟩
 constructor
 ·intro h
  have hd:=dis_none (fault_dis h)
  unfold fault at h
  rw [Option.or_eq_none_iff,Option.or_eq_none_iff] at h
  refine ⟨?_,fun a b x y r s ha hb hra hrb hxy=>?_⟩
  ·rw [List.Nodup,List.pairwise_iff_getElem]
   intro i j hi hj hij e
   have hx:=hr p[i] (List.getElem_mem hi)
   have h1:=List.findSome?_eq_none_iff.1 h.1 p[i].toNat (by rw [List.mem_range,sh_depth];omega)
   rw [Int.toNat_of_nonneg hx.1,sh_figs,sh_room,lay_count _ (by omega),sum_rep] at h1
   have h2:2≤p.count p[i]:=by
    have e3:p.count p[i]=(p.take j).count p[i]+(p.drop j).count p[i]:=by rw [← List.count_append,List.take_append_drop]
    have e4:0<(p.take j).count p[i]:=List.count_pos_iff.2 (mem_take_at hij hi)
    have e5:0<(p.drop j).count p[i]:=List.count_pos_iff.2 (by rw [e];exact List.mem_drop_iff_getElem.2 ⟨0,by omega,by simp⟩)
    omega
   rw [if_pos (by omega)] at h1
   cases h1
  ·have:=hd.1 a b x y ⟨1,r,0⟩ ⟨1,s,0⟩ ha hb ((hfig _ _).2 ⟨r,hra,rfl⟩) ((hfig _ _).2 ⟨s,hrb,rfl⟩) hxy
   simp only [key,if_true] at this
   omega
 ·rintro ⟨hn,hg⟩
  have e1:fullL (shC n rk) p=none:=by
   refine List.findSome?_eq_none_iff.2 fun m hm=>?_
   rw [sh_figs,sh_room,lay_count _ (by omega),sum_rep,if_neg]
   have:p.count (m:Int)≤1:=List.nodup_iff_count.1 hn m
   omega
  have e2:gapL (shC n rk) p=none:=by
   refine List.findSome?_eq_none_iff.2 fun m hm=>?_
   rw [List.mem_range] at hm
   have h1:=layersL_le (p:=p) (n:=n) (by omega) (fun x hx=>(hr x hx).2)
   rw [sh_figs,lay_count _ (by omega),List.length_replicate,if_neg]
   have:=List.count_pos_iff.2 (all_in hn hp hr (m:=(m:Int)) (by omega) (by omega))
   omega
  have e3:disorder (shC n rk) p=none:=by
   refine dis_of (fun a b x y f g ha hb hf hg' hxy=>?_) (fun a b x y f g ha hb hf hg' hxy=>?_)
   ·obtain ⟨r,hr1,rfl⟩:=(hfig _ _).1 hf
    obtain ⟨s,hs1,rfl⟩:=(hfig _ _).1 hg'
    have:=hg a b x y r s ha hb hr1 hs1 hxy
    simp only [key,if_true]
    omega
   ·obtain ⟨r,hr1,rfl⟩:=(hfig _ _).1 hf
    obtain ⟨s,hs1,rfl⟩:=(hfig _ _).1 hg'
    simp [key]
  unfold fault
  rw [e1,e2,e3];rfl
end Go.Den.Tp
end
section
namespace Go.Den.Tp
open Go.Den.Ch (Fig CL Flt inB figB listB packB layerL layersL key brk disB disA disorder fullL gapL fault)
theorem rights_arr {n:Nat} {rk:List Int} (hk:OkS n rk):rightsL (shC n rk)=arrL n rk:=by
 refine sorted_ext (searchL_sorted _ _) (arrS_sorted _ _) fun p=>?_
 rw [mem_rights,mem_arr]
 constructor
 ·rintro ⟨⟨h1,h2⟩,h3⟩
  rw [sh_figs,List.length_map,hk.len] at h1
  rw [sh_depth] at h2
  exact ⟨h1,h2,(rests_good hk.len h1).2 ((fault_good hk.len h1 h2).1 h3)⟩
 ·rintro ⟨h1,h2,h3⟩
  refine ⟨⟨by rw [sh_figs,List.length_map,hk.len];exact h1,by rw [sh_depth];exact h2⟩,(fault_good hk.len h1 h2).2 ((rests_good hk.len h1).1 h3)⟩
theorem least (Q:Nat→Prop):∀ m,Q m→∃ k,k≤m∧Q k∧(k=0∨¬ Q (k - 1))
 | 0,h=>⟨0,Nat.le_refl _,h,.inl rfl⟩
 | m+1,h=>by
  by_cases h1:Q m
  ·obtain ⟨k,h2,h3,h4⟩:=least Q m h1
   exact ⟨k,by omega,h3,h4⟩
  ·exact ⟨m+1,Nat.le_refl _,h,.inr h1⟩
theorem order_ex:∀ rk:List Int,∃ L:List (Int×Int),L.map (·.1)=rk∧(∀ e∈L,0≤e.2∧e.2<(L.length:Int))∧L.Pairwise (fun e f=>e.2≠f.2)∧∀ e∈L,∀ f∈L,e.2<f.2→f.1≤e.1
 | []=>⟨[],rfl,(fun _ h=>by cases h),List.Pairwise.nil,(fun _ h=>by cases h)⟩
 | r::rk=>by
  obtain ⟨L,h1,h2,h3,h4⟩:=order_ex rk
  obtain ⟨k,hk,hq,hm⟩:=least (fun y=>∀ e∈L,(y:Int)≤e.2→e.1≤r) L.length (fun e he h=>by have:=h2 e he;omega)
  have hlow:∀ e∈L,e.2<k→r≤e.1:=fun e he hlt=>by
   rcases hm with rfl|hm
   ·have:=h2 e he;omega
   ·have:∃ b∈L,((k - 1:Nat):Int)≤b.2∧r<b.1:=by
     refine Classical.byContradiction fun hc=>hm fun b hb hle=>?_
     refine Classical.byContradiction fun hd=>hc ⟨b,hb,hle,by omega⟩
    obtain ⟨b,hb,hb1,hb2⟩:=this
    have hbk:b.2<k:=by
     refine Classical.byContradiction fun hc=>?_
     have:=hq b hb (by omega)
     omega
    rcases Int.lt_or_le e.2 b.2 with h5|h5
    ·have:=h4 e he b hb h5;omega
    ·have h6:e.2=b.2:=by omega
     obtain ⟨i,hi,rfl⟩:=List.getElem_of_mem he
     obtain ⟨j,hj,rfl⟩:=List.getElem_of_mem hb
     rcases Nat.lt_trichotomy i j with h7|h7|h7
     ·exact absurd h6 (List.pairwise_iff_getElem.1 h3 i j hi hj h7)
     ·subst h7;omega
     ·exact absurd h6.symm (List.pairwise_iff_getElem.1 h3 j i hj hi h7)
  let F:Int×Int→Int×Int:=fun e=>(e.1,if e.2<k then e.2 else e.2+1)
  have hF:∀ e,(F e).2≠k:=fun e=>by simp only [F];split <;> omega
  have hF2:∀ e f,(F e).2<(F f).2→e.2<f.2:=fun e f h=>by simp only [F] at h;split at h <;> split at h <;> omega
  have hF3:∀ e f,(F e).2=(F f).2→e.2=f.2:=fun e f h=>by simp only [F] at h;split at h <;> split at h <;> omega
  refine ⟨(r,(k:Int))::L.map F,?_,?_,?_,?_⟩
  ·simp only [List.map_cons,List.map_map,List.cons.injEq,true_and]
   exact h1
  ·intro e he
   simp only [List.length_cons,List.length_map]
   rcases List.mem_cons.1 he with rfl|he
   ·simp only;omega
   ·obtain ⟨f,hf,rfl⟩:=List.mem_map.1 he
    have:=h2 f hf
    simp only [F];split <;> omega
  ·refine List.pairwise_cons.2 ⟨fun f hf=>?_,List.pairwise_map.2 (h3.imp fun {a b} hab h=>hab (hF3 a b h))⟩
   obtain ⟨g,_,rfl⟩:=List.mem_map.1 hf
   exact (hF g).symm
  ·intro e he f hf hlt
   rcases List.mem_cons.1 he with rfl|he
   ·rcases List.mem_cons.1 hf with rfl|hf
    ·exact absurd hlt (Int.lt_irrefl _)
    ·obtain ⟨g,hg,rfl⟩:=List.mem_map.1 hf
     refine hq g hg ?_
     simp only [F] at hlt
     split at hlt <;> omega
   ·obtain ⟨d,hd,rfl⟩:=List.mem_map.1 he
    rcases List.mem_cons.1 hf with rfl|hf
    ·refine hlow d hd ?_
     simp only [F] at hlt
     split at hlt <;> omega
    ·obtain ⟨g,hg,rfl⟩:=List.mem_map.1 hf
     exact h4 d hd g hg (hF2 d g hlt)
theorem good_ex (rk:List Int):∃ p:List Int,p.length=rk.length∧(∀ x∈p,0≤x∧x<(rk.length:Int))∧Good rk p:=by
 obtain ⟨L,h1,h2,h3,h4⟩:=order_ex rk
 have hl:L.length=rk.length:=by rw [← h1,List.length_map]
 refine ⟨L.map (·.2),by rw [List.length_map,hl],fun x hx=>?_,List.pairwise_map.2 h3,fun a b x y r s ha hb hr hs hxy=>?_⟩
 ·obtain ⟨e,he,rfl⟩:=List.mem_map.1 hx
  rw [← hl]
  exact h2 e he
 ·rw [← h1] at hr hs
  rw [List.getElem?_map,Option.map_eq_some_iff] at ha hb hr hs
  obtain ⟨e,e1,e2⟩:=ha
  obtain ⟨f,f1,f2⟩:=hb
  obtain ⟨e',e3,e4⟩:=hr
  obtain ⟨f',f3,f4⟩:=hs
  rw [e1] at e3;cases e3
  rw [f1] at f3;cases f3
  subst e2 f2 e4 f4
  exact h4 e (List.mem_of_getElem? e1) f (List.mem_of_getElem? f1) hxy
theorem arr_some {n:Nat} {rk:List Int} (hk:OkS n rk):∃ x xs,arrL n rk=x::xs:=by
 obtain ⟨p,h1,h2,h3⟩:=good_ex rk
 rw [hk.len] at h1 h2
 have hm:p∈arrL n rk:=mem_arr.2 ⟨h1,h2,(rests_good hk.len h1).2 h3⟩
 cases h:arrL n rk with
 | nil=>rw [h] at hm;cases hm
 | cons x xs=>exact ⟨x,xs,rfl⟩
theorem best_first {x:List Int} {xs:List (List Int)} (h:∀ y∈xs,layersL y=layersL x):bestF ltLay (x::xs)=some x:=by
 unfold bestF
 rw [List.foldl_cons]
 induction xs with
 | nil=>rfl
 | cons y ys ih =>
  have h1:=h y (by simp)
  have e:ltLay y x=false:=by simp [ltLay,h1]
  rw [List.foldl_cons]
  simp only [e,Bool.false_eq_true,if_false]
  exact ih fun z hz=>h z (by simp [hz])
theorem best_law {n:Nat} {rk x:List Int} {xs:List (List Int)} (hk:OkS n rk) (h:arrL n rk=x::xs):bestR (shC n rk)=(x,(n:Int),0):=by
 have hl:∀ y∈x::xs,layersL y=n:=fun y hy=>by
  rw [← h] at hy
  obtain ⟨h1,h2,h3⟩:=mem_arr.1 hy
  exact layers_n hk.n1 ((rests_good hk.len h1).1 h3).1 h1 h2
 have hb:bestF ltLay (rightsL (shC n rk))=some x:=by
  rw [rights_arr hk,h]
  exact best_first fun y hy=>by rw [hl y (by simp [hy]),hl x (by simp)]
 unfold bestR
 rw [if_pos (shC_list hk),hb]
 simp only [hl x (by simp)]
theorem wrong_law {n:Nat} {rk p:List Int} (hk:OkS n rk) (h1:p.length=n) (h2:∀ x∈p,0≤x∧x<n):(restsB n rk p=true∧wrongR (shC n rk) p=(none,5))∨(restsB n rk p=false∧∃ f,wrongR (shC n rk) p=(some f,0)):=by
 have hc:(listB (shC n rk)&&packB (shC n rk) p)=true:=by rw [shC_list hk,shC_pack hk h1 h2];rfl
 unfold wrongR
 rw [if_pos hc]
 cases hf:fault (shC n rk) p with
 | none=>exact .inl ⟨(rests_good hk.len h1).2 ((fault_good hk.len h1 h2).1 hf),rfl⟩
 | some f =>
  refine .inr ⟨?_,f,rfl⟩
  cases hr:restsB n rk p with
  | false=>rfl
  | true =>
   have:=(fault_good hk.len h1 h2).2 ((rests_good hk.len h1).1 hr)
   rw [this] at hf;cases hf
end Go.Den.Tp
end
section
namespace Go.Den.Tp
def tgs:List PV→List Nat
 | []=>[]
 | .slice (.tag t _) _ _::vs=>t::tgs vs
 | _::vs=>tgs vs
theorem tgs_app:∀ L M:List PV,tgs (L++M)=tgs L++tgs M
 | [],M=>rfl
 | v::L,M=>by
  cases v with
  | slice o n cs =>
   cases o with
   | tag t s=>simp only [List.cons_append,tgs,tgs_app L M]
   | shared=>simp only [List.cons_append,tgs,tgs_app L M]
  | _=>simp only [List.cons_append,tgs,tgs_app L M]
structure Tags (m:Nat) (st:St) (L:List PV):Prop where
 at':∀ t∈tgs L,hp st t=some (.tag true)
 up:∀ t∈tgs L,m≤t
 ord:(tgs L).Pairwise (·<·)
theorem Tags.keep {m:Nat} {st st':St} {L:List PV} (h:Tags m st L) (hk:∀ t,hp st t=some (.tag true)→hp st' t=some (.tag true)):Tags m st' L:=⟨fun t ht=>hk t (h.at' t ht),h.up,h.ord⟩
theorem Tags.push {m:Nat} {st:St} {L:List PV} {o:HObj} (h:Tags m st L):Tags m (st.push o) L:=h.keep fun t ht=>by
 rw [hp_push,if_neg (by have:=hp_lt ht;omega)];exact ht
theorem Tags.setVar {m:Nat} {st:St} {L:List PV} {l:Nat} {o:HObj} (h:Tags m st L) (hl:∀ b,hp st l≠some (.tag b)):Tags m (setVar st l o) L:=h.keep fun t ht=>by
 rw [hp_setVar,if_neg (by rintro rfl;exact hl _ ht)];exact ht
theorem doApp {m:Nat} {st:St} {sz n:Nat} {v:PV} {cs ys:List PV} {M:List PV} (h:OwnP m sz v n cs) (hT:Tags m st (v::M)) (hm:m≤st.heap.length) (hy:ys.length=sz) (hc:ys.all PV.isCell=true) (hn:n+1≤maxList) :
  ∃ v' st',doAppend false sz st v 1 ys=some (.val v' st')∧OwnP m sz v' (n+1) (cs++ys.map PV.share)∧Tags m st' (M++[v'])∧Fr m st st'∧(∀ l o,hp st l=some o→(∀ b,o ≠ .tag b)→hp st' l=some o):=by
 have hy1:ys.length=1*sz:=by omega
 obtain ⟨h0,⟨rfl,rfl⟩|⟨t,rfl,h3⟩⟩:=h
 ·refine ⟨.slice (.tag st.heap.length sz) 1 (ys.map PV.share),st.push (.tag true),?_,⟨?_,.inr ⟨st.heap.length,?_,hm⟩⟩,⟨fun t ht=>?_,fun t ht=>?_,?_⟩,(Fr.refl m st).push hm,fun l o hl ho=>?_⟩
  ·delta doAppend
   simp only [hy1,hc,and_self,if_true,Nat.one_ne_zero,if_false,Bool.false_eq_true]
   rw [if_pos (by omega)]
   rfl
  ·simp at h0;simp [h0,hy]
  ·simp at h0;simp [h0]
  ·rw [tgs_app] at ht
   rcases List.mem_append.1 ht with ht|ht
   ·rw [hp_push,if_neg (by have:=hp_lt (hT.at' t ht);omega)];exact hT.at' t ht
   ·simp only [tgs,List.mem_singleton] at ht;subst ht;rw [hp_push,if_pos rfl]
  ·rw [tgs_app] at ht
   rcases List.mem_append.1 ht with ht|ht
   ·exact hT.up t ht
   ·simp only [tgs,List.mem_singleton] at ht;subst ht;exact hm
  ·rw [tgs_app]
   refine List.pairwise_append.2 ⟨hT.ord,by simp [tgs],fun a ha b hb=>?_⟩
   simp only [tgs,List.mem_singleton] at hb;subst hb
   exact hp_lt (hT.at' a ha)
  ·rw [hp_push,if_neg (by have:=hp_lt hl;omega)];exact hl
 ·have h4:hp st t=some (.tag true):=hT.at' t (by simp [tgs])
  have ht:=hp_lt h4
  have hne:∀ a∈tgs M,t<a:=(List.pairwise_cons.1 hT.ord).1
  refine ⟨.slice (.tag st.heap.length sz) (n+1) (cs++ys.map PV.share),(Den.setVar st t (.tag false)).push (.tag true),?_,⟨?_,.inr ⟨st.heap.length,rfl,hm⟩⟩,⟨fun a ha=>?_,fun a ha=>?_,?_⟩,((Fr.refl m st).setVar h3).push (by rw [len_setVar];exact hm),fun l o hl ho=>?_⟩
  ·delta doAppend
   simp only [hy1,hc,and_self,if_true,Nat.one_ne_zero,if_false]
   rw [if_pos ⟨trivial,h0,hn⟩]
   have h5:st.heap[t]? = some (.tag true):=h4
   simp only [h5]
   rfl
  ·simp [h0,hy,Nat.add_mul]
  ·rw [tgs_app] at ha
   rcases List.mem_append.1 ha with ha|ha
   ·have h6:=hT.at' a (by simp [tgs,ha])
    have h7:=hne a ha
    rw [hp_push,if_neg (by have:=hp_lt h6;rw [len_setVar];omega),hp_setVar,if_neg (by omega)];exact h6
   ·simp only [tgs,List.mem_singleton] at ha;subst ha;rw [hp_push,if_pos (by rw [len_setVar])]
  ·rw [tgs_app] at ha
   rcases List.mem_append.1 ha with ha|ha
   ·exact hT.up a (by simp [tgs,ha])
   ·simp only [tgs,List.mem_singleton] at ha;subst ha;exact hm
  ·rw [tgs_app]
   refine List.pairwise_append.2 ⟨(List.pairwise_cons.1 hT.ord).2,by simp [tgs],fun a ha b hb=>?_⟩
   simp only [tgs,List.mem_singleton] at hb;subst hb
   exact hp_lt (hT.at' a (by simp [tgs,ha]))
  ·rw [hp_push,len_setVar,if_neg (by have:=hp_lt hl;omega),hp_setVar,if_neg (by rintro rfl;rw [h4] at hl;cases hl;exact ho _ rfl)]
   exact hl
section
variable {E:Env} {tm:List PV} {st:St} {sz:Nat} {x y:Opd} {dst:Option Nat} {g:Option (Nat×Bool)} {os:List DOper} {b:Bool} {m n:Nat} {v w:PV} {cs ys M:List PV}
theorem wops_appT {Q:Ex→List PV→St→Prop} (hw:wants tm g=b) (hb:b=true) (hx:x.ev tm=v) (hy:y.ev tm=w) (ho:OwnP m sz v n cs) (hT:Tags m st (v::M)) (hyl:w.sl=some (1,ys)) (hm:m≤st.heap.length) (hl:ys.length=sz) (hc:ys.all PV.isCell=true) (hn:n+1≤maxList)
  (h:∀ v' st',OwnP m sz v' (n+1) (cs++ys.map PV.share)→Tags m st' (M++[v'])→Fr m st st'→(∀ l o,hp st l=some o→(∀ b,o ≠ .tag b)→hp st' l=some o)→WOps E os Q (put tm dst v') st'):WOps E (⟨.append false sz x y,dst,g⟩::os) Q tm st:=by
 obtain ⟨v',st',h1,h2,h3,h4,h5⟩:=doApp ho hT hm hl hc hn
 refine wops_one (hw.trans hb) (fun rec=>?_) (h v' st' h2 h3 h4 h5)
 simp only [stepOp,hx,hy]
 cases w <;> simp only [PV.sl,Option.some.injEq,Prod.mk.injEq,reduceCtorEq] at hyl
 ·obtain ⟨rfl,rfl⟩:=hyl;exact h1
 ·exact absurd hyl.1 (by decide)
theorem wopsD_appT {QD:Ex→List PV→St→List Foot→Prop} (hlo:st.lo≤st.heap.length) (hw:wants tm g=b) (hb:b=true) (hx:x.ev tm=v) (hy:y.ev tm=w) (ho:OwnP m sz v n cs) (hT:Tags m st (v::M)) (hyl:w.sl=some (1,ys)) (hm:m≤st.heap.length) (hl:ys.length=sz) (hc:ys.all PV.isCell=true) (hn:n+1≤maxList)
  (h:∀ v' st' ft,(∀ l,l<m→clash l ft=false)→OwnP m sz v' (n+1) (cs++ys.map PV.share)→Tags m st' (M++[v'])→Fr m st st'→(∀ l o,hp st l=some o→(∀ b,o ≠ .tag b)→hp st' l=some o)→WOpsD E os (fun e tm' st'' fs=>QD e tm' st'' (ft::fs)) (put tm dst v') st'):WOpsD E (⟨.append false sz x y,dst,g⟩::os) QD tm st:=by
 have hT':Tags m { st with lo:=st.heap.length } (v::M):=hT.keep fun _ h=>h
 obtain ⟨v',st1,h1,h2,h3,h4,h5⟩:=doApp ho hT' hm hl hc hn
 refine wopsD_cons (v:=v') (st1:=st1) (hw.trans hb) 0 (fun n _=>?_) ?_
 ·simp only [stepOp,hx,hy]
  cases w <;> simp only [PV.sl,Option.some.injEq,Prod.mk.injEq,reduceCtorEq] at hyl
  ·obtain ⟨rfl,rfl⟩:=hyl;exact h1
  ·exact absurd hyl.1 (by decide)
 ·refine h v' { st1 with lo:=min st.lo st1.lo } _ (fun l hl=>?_) h2 (h3.keep fun _ h=>h) ⟨h4.len,?_,h4.old,Nat.min_le_left _ _⟩ h5
  ·have:=h4.lo
   simp only at this
   simp only [footOf]
   split
   ·rfl
   ·simp only [clash,decide_eq_false_iff_not];omega
  ·have:=h4.lo
   simp only at this
   show min m st.lo≤min st.lo st1.lo
   omega
end
end Go.Den.Tp
end
section
namespace Go.Den.Tp
open Go.Den.Ch (Fig CL Flt inB figB listB packB layerL layersL key brk disB disA disorder fullL gapL fault)
structure ShF (b n:Nat) (H G R C:PV) (s:St):Prop where
 a0:hp s b=some (.arr [.nilslice,R,iv 0,.nilslice])
 a1:hp s (b+1)=some (.var [iv n,H,G,.hslice b 4 1])
 a2:hp s (b+2)=some (.var [iv 1,iv n,C])
 lo:b≤s.lo
 wf:s.lo≤s.heap.length
 len:b+3≤s.heap.length
section
variable {b n:Nat} {H G R C H' G' R' C':PV} {s s':St}
theorem ShF.push (h:ShF b n H G R C s):ShF b n H G R C (s.push (.tag true)):=by
 have:=h.len
 have:=h.wf
 refine ⟨?_,?_,?_,h.lo,by rw [lo_push,len_push];omega,by rw [len_push];omega⟩
 ·rw [hp_push,if_neg (by omega)];exact h.a0
 ·rw [hp_push,if_neg (by omega)];exact h.a1
 ·rw [hp_push,if_neg (by omega)];exact h.a2
theorem ShF.app (h:ShF b n H G R C s) (hFr:Fr (b+3) s s') (hk:∀ l o,hp s l=some o→(∀ b,o ≠ .tag b)→hp s' l=some o):ShF b n H G R C s':=by
 have h1:=h.len
 have h2:=h.wf
 have h3:=h.lo
 have h4:=hFr.len
 have h5:=hFr.lo
 have h6:=hFr.up
 exact ⟨hk _ _ h.a0 (by rintro b h;cases h),hk _ _ h.a1 (by rintro b h;cases h),hk _ _ h.a2 (by rintro b h;cases h),by omega,by omega,by omega⟩
theorem ShF.setP (h:ShF b n H G R C s):ShF b n H' G' R C (setVar s (b+1) (.var [iv n,H',G',.hslice b 4 1])):=by
 have h1:=h.len
 have h2:=h.wf
 have h3:=h.lo
 exact ⟨hp_set_other h.a0 (by omega),by rw [hp_setVar,if_pos rfl,if_pos (by omega)],hp_set_other h.a2 (by omega),by rw [lo_setVar];omega,by rw [lo_setVar,len_setVar];omega,by rw [len_setVar];exact h1⟩
theorem ShF.setR (h:ShF b n H G R C s):ShF b n H G R' C (setVar s b (.arr [.nilslice,R',iv 0,.nilslice])):=by
 have h1:=h.len
 have h2:=h.wf
 have h3:=h.lo
 exact ⟨by rw [hp_setVar,if_pos rfl,if_pos (by omega)],hp_set_other h.a1 (by omega),hp_set_other h.a2 (by omega),by rw [lo_setVar];omega,by rw [lo_setVar,len_setVar];omega,by rw [len_setVar];exact h1⟩
theorem ShF.setC (h:ShF b n H G R C s):ShF b n H G R C' (setVar s (b+2) (.var [iv 1,iv n,C'])):=by
 have h1:=h.len
 have h2:=h.wf
 have h3:=h.lo
 exact ⟨hp_set_other h.a0 (by omega),hp_set_other h.a1 (by omega),by rw [hp_setVar,if_pos rfl,if_pos (by omega)],by rw [lo_setVar];omega,by rw [lo_setVar,len_setVar];omega,by rw [len_setVar];exact h1⟩
end
def ShJ (b n:Nat) (l p:List Int) (i:Nat) (s:St):Prop :=
 (∀ j (h1:j<l.length) (h2:j<p.length),j<i→(1≤l[j]∧l[j]≤5)∧0≤p[j]∧p[j]<n)∧∃ H G R C:PV,ShF b n H G R C s ∧
  OwnP (b+3) 1 H i (((hsL n).take i).flatMap encI)∧OwnP (b+3) 3 G i (((sfL l).take i).flatMap encF)∧OwnP (b+3) 1 R i (((restL n).take i).flatMap encI)∧OwnP (b+3) 3 C i ((((shC n l).figs).take i).flatMap encF)∧Tags (b+3) s [H,G,R,C]
theorem own_cells {m sz n:Nat} {v:PV} {cs:List PV} (h:OwnP m sz v n cs):v.cells=[v]∧v.isCell=true:=by
 obtain ⟨_,⟨_,rfl⟩|⟨t,rfl,_⟩⟩:=h <;> exact ⟨rfl,rfl⟩
theorem own_sl {α:Type} {m sz n:Nat} {v:PV} {l:List α} {enc:α→List PV} (h:OwnP m sz v n (l.flatMap enc)) (hn:l.length=n) (he:∀ a,(enc a).length=sz):SlOf sz enc v l:=by
 obtain ⟨h0,⟨h1,rfl⟩|⟨t,rfl,_⟩⟩:=h
 ·have:l=[]:=List.eq_nil_of_length_eq_zero (by omega)
  subst this
  exact .nil
 ·exact ⟨by simp only [PV.sl,hn],fun a _=>he a⟩
theorem own_low {m sz n:Nat} {v:PV} {cs M:List PV} {st:St} (h:OwnP m sz v n cs) (hc:∀ k,lowL k cs=true) (hT:∀ t∈tgs [v],hp st t=some (.tag true)):v.low st.heap.length=true:=by
 obtain ⟨_,⟨_,rfl⟩|⟨t,rfl,_⟩⟩:=h
 ·rfl
 ·simp only [PV.low,hc,Bool.and_true,decide_eq_true_eq]
  exact hp_lt (hT t (by simp [tgs]))
theorem take_flat {α:Type} {l:List α} {enc:α→List PV} {i:Nat} (h:i<l.length):(l.take (i+1)).flatMap enc=(l.take i).flatMap enc++enc l[i]:=by
 rw [List.take_succ_eq_append_getElem h,List.flatMap_append];simp
set_option maxHeartbeats 8000000 in
theorem c4 (F P:PV) (l p:List Int) (hF:SlOf 1 encI F l) (hP:SlOf 1 encI P p) (st:St):Cl EE (.func 4 [] []) [F,P] st (.ret (.bool true)) st:=by
 have hFs:=hF.slen
 have hPs:=hP.slen
 have k8:∀ st:St,Cl EE (.func 8 [] []) [] st (.ret (.bool true)) st:=Go.Den.Tz.c8
 refine cF2 pr4 fn4 (fun tm hl h0 h1=>?_)
 cases hA:decide ((l.length:Int)<1)
 case true =>
  refine go2 (bw7 hl h0 h1 hFs hPs hA undef_e) (bw k8 fnil) ?_
  exact fQ hl
 cases hB:decide ((l.length:Int)>4)
 case true =>
  refine go2 (bw8 hl h0 h1 hFs hPs hA hB undef_e) (bw k8 fnil) ?_
  exact fQ hl
 cases hC:((p.length:Int) != (l.length:Int))
 case true =>
  refine go2 (bw9 hl h0 h1 hFs hPs hA hB hC undef_e) (bw k8 fnil) ?_
  exact fQ hl
 have hpl:p.length=l.length:=by have:=bne_eq_false_iff_eq.1 hC;omega
 have hn1:1≤l.length:=by have:=of_decide_eq_false hA;omega
 have hn4:l.length≤4:=by have:=of_decide_eq_false hB;omega
 obtain ⟨n,hn⟩:∃ n,l.length=n:=⟨_,rfl⟩
 rw [hn] at hFs hpl hn1 hn4 hA hB hC
 rw [hpl] at hPs hC
 refine go2 (bw9 hl h0 h1 hFs hPs hA hB hC undef_e) fnil ?_
 refine wops_one (v := .hslice st.heap.length 4 1) (st1:=({ heap:=st.heap,lo:=st.heap.length }:St).push (.arr [.nilslice,.nilslice,iv 0,.nilslice])) rfl (fun rec=>?_) ?_
 ·simp only [stepOp,↓reduceIte,go_sem,hl];rfl
 refine go2 (bw3 hl h0 h1) fnil ?_
 obtain ⟨b,hbb⟩:∃ b,st.heap.length=b:=⟨_,rfl⟩
 refine wp_for [8] (fun i vs s=>vs=[iv i]∧i≤n∧ShJ b n l p i s) (fun i=>n - i) ⟨(sR hl),Nat.zero_le _,?_⟩ ?_
 ·refine ⟨fun j _ _ hj=>absurd hj (by omega),.nilslice,.nilslice,.nilslice,.nilslice,⟨?_,?_,?_,?_,?_,?_⟩,.nil,.nil,.nil,.nil,⟨?_,?_,?_⟩⟩
  ·subst hbb;simp only [↓reduceIte,go_sem]
  ·subst hbb;simp only [↓reduceIte,go_sem]
  ·subst hbb;simp only [↓reduceIte,go_sem]
  ·simp only [lo_push,lo_setVar];omega
  ·simp only [lo_push,lo_setVar,len_push,len_setVar];omega
  ·simp only [len_push,len_setVar];omega
  ·intro t ht;simp [tgs] at ht
  ·intro t ht;simp [tgs] at ht
  ·simp [tgs]
 rintro i tm1 st1 ⟨hv,hi,hno,H,G,R,C,hf,oH,oG,oR,oC,hT⟩ hS
 simp only [List.map_cons,List.map_nil,List.cons.injEq,and_true] at hv
 have hl1:tm1.length=198:=lN hS hl;have i0:tg tm1 0=F:=tQ hS (bw3 hl h0 h1);have i1:tg tm1 1=P:=tQ hS (bw3 hl h0 h1);have i5:tg tm1 5=iv n:=tQ hS (bw3 hl h0 h1);have i6:tg tm1 6 = .ptr (st.heap.length+1) 0:=tQ hS (bw3 hl h0 h1);have i7:tg tm1 7 = .ptr (st.heap.length+2) 0:=tQ hS (bw3 hl h0 h1);clear hS
 rw [hbb] at i6 i7
 refine go2 (bw3 hl1 hv i5) fnil ?_
 refine ⟨decide ((i:Int)<n),(sG hl1),fun hd=>?_,fun hd=>?_⟩
 ·have hin:i=n:=by have:=of_decide_eq_false hd;omega
  rw [hin] at oH oG oR oC hno
  have hk:OkS n l:=⟨hn1,hn4,hn,fun r hr=>by
   obtain ⟨j,hj,rfl⟩:=List.getElem_of_mem hr
   exact (hno j hj (by omega) (by omega)).1⟩
  have hp1:∀ x∈p,0≤x∧x<n:=fun x hx=>by
   obtain ⟨j,hj,rfl⟩:=List.getElem_of_mem hx
   exact (hno j (by omega) hj (by omega)).2
  rw [List.take_of_length_le (by rw [hsL_len];omega)] at oH
  rw [List.take_of_length_le (by rw [sfL_len];omega)] at oG
  rw [List.take_of_length_le (by rw [restL_len];omega)] at oR
  rw [List.take_of_length_le (by rw [sh_figs,List.length_map];omega)] at oC
  have hs:SgOk n l H G R:=⟨own_sl oH (hsL_len n) (fun _=>rfl),own_sl oG (by rw [sfL_len];omega) (fun _=>rfl),own_sl oR (restL_len n) (fun _=>rfl)⟩
  have hCs:SlOf 3 encF C (shC n l).figs:=own_sl oC (by rw [sh_figs,List.length_map];omega) (fun _=>rfl)
  have hlow:SgLow H G R st1.heap.length:=⟨own_low (M:=[]) oH (ints_low _) (fun t ht=>hT.at' t (by rw [show [H,G,R,C]=[H]++[G,R,C] from rfl,tgs_app];simp [ht])),own_low (M:=[]) oG (figs_low _) (fun t ht=>hT.at' t (by rw [show [H,G,R,C]=[H]++([G]++[R,C]) from rfl,tgs_app,tgs_app];simp [ht])),own_low (M:=[]) oR (ints_low _) (fun t ht=>hT.at' t (by rw [show [H,G,R,C]=[H]++([G]++([R]++[C])) from rfl,tgs_app,tgs_app,tgs_app];simp [ht]))⟩
  obtain ⟨x,xs,hX⟩:=arr_some hk
  have hXl:=arrL_len (rk:=l) hn4
  have flo:=hf.lo
  have fwf:=hf.wf
  have f1:=hf.a1
  have g1:=hp_lt f1
  have k14:=c14 hk hs hXl st1 hlow hf.a0
  refine go2 (bw4 hl1 i6 f1 (n4 g1)) (bw k14 fnil) ?_
  refine cR hl1 (c15 hk hs x xs hX st1 hlow hf.a0) ?_
  rintro v2 s2 ⟨P1,rfl,hW2⟩
  have hx2:=hW2.hext
  have hlo2:=hW2.lo
  have e0:=hx2.hp hf.a0
  have e1:=hx2.hp hf.a1
  have e2:=hx2.hp hf.a2
  have le1:=hp_lt e1
  have le2:=hp_lt e2
  have hlow2:SgLow H G R s2.heap.length:=hlow.up hs hx2.1
  have hwf2:s2.lo≤s2.heap.length:=by have:=hx2.1;omega
  have k16:=c16 hk hs P p hP hpl hp1 s2 hlow2 e0
  have k17:∀ st,Cl EE (.func 17 [] []) [.agg [iv 1,iv n,C]] st (.ret (.tuple [iv (arrL n l).length,iv 0])) st:=fun st=>by
   have h:=c17 (shC n l) C hCs (by rw [rights_arr hk];exact hXl) st
   rw [shC_list hk,rights_arr hk] at h
   exact h
  refine go2 (bw8 hl1 i1 i6 i7 e1 e2 (n4 le1) (n4 le2)) (bw3 k16 k17 fnil) ?_
  refine cR hl1 (c18 (shC n l) C hCs s2) ?_
  rintro v3 s3 ⟨P2,rfl,hW3⟩
  rw [best_law hk hX] at hW3 ⊢
  have hx3:=hW3.hext
  have hlo3:=hW3.lo
  have d2:=hx3.hp e2
  have ld2:=hp_lt d2
  have hwf3:s3.lo≤s3.heap.length:=by have:=hx3.1;omega
  have hP1:SlOf 1 encI P1 x:=SlOf.of_sl hW2.1 rfl rfl (fun _=>rfl)
  have hP2:SlOf 1 encI P2 x:=SlOf.of_sl hW3.1 rfl rfl (fun _=>rfl)
  have hxl:x.length<1000000:=by
   have hm:x∈arrL n l:=by rw [hX];simp
   have:=(mem_arr.1 hm).1
   omega
  have k20:∀ st,Cl EE (.func 20 [] []) [P1,P2] st (.ret (.bool true)) st:=fun st=>by
   have h:=Go.Den.Tq.c20 P1 P2 x x hP1 hP2 hxl st
   rw [beq_self_eq_true] at h
   exact h
  have z0:((0:Int) != 0)=false:=rfl
  have z5:((5:Int) != 0)=true:=rfl
  have z6:((5:Int) != 5)=false:=rfl
  have z7:((5:Int)==5)=true:=rfl
  have z8:((0:Int)==5)=false:=rfl
  have zn:((n:Int)==(n:Int))=true:=by simp
  have za:(((arrL n l).length:Int)==((arrL n l).length:Int))=true:=by simp
  have bT:(true==true)=true:=rfl
  have bF:(false==false)=true:=rfl
  have k19:=c19 (shC n l) C P p hCs hP
  rcases wrong_law hk hpl hp1 with ⟨hr,hw⟩|⟨hr,f,hw⟩
  ·rw [hw] at k19
   rw [hr]
   refine go2 (bw17 hl1 i1 i5 i7 d2 (n4 ld2) fltO_none fltO_some zeroF_e z0 z5 z6 z7 zn za bT undef_e) (bw4 k19 k20 k8 fnil) ?_
   exact fQ hl1
  ·rw [hw] at k19
   rw [hr]
   refine go2 (bw14 hl1 i1 i5 i7 d2 (n4 ld2) fltO_none fltO_some z0 z8 zn za bF undef_e) (bw4 k19 k20 k8 fnil) ?_
   exact fQ hl1
 ·have hlt:i<n:=by have:=of_decide_eq_true hd;omega
  refine ⟨by omega,?_⟩
  have hil:i<l.length:=by omega
  have hip:i<p.length:=by omega
  obtain ⟨r,hr⟩:∃ r,l[i]=r:=⟨_,rfl⟩
  obtain ⟨x,hx⟩:∃ x,p[i]=x:=⟨_,rfl⟩
  have flo:=hf.lo
  have fwf:=hf.wf
  cases c1:decide (r<1)
  case true =>
   refine go2 (bw9 hl1 hv i0 i1 i5 hr hx c1 undef_e) (bw k8 fnil) ?_
   exact fQ hl1
  cases c2:decide (r>5)
  case true =>
   refine go2 (bw10 hl1 hv i0 i1 i5 hr hx c1 c2 undef_e) (bw k8 fnil) ?_
   exact fQ hl1
  cases c3:decide (x<0)
  case true =>
   refine go2 (bw11 hl1 hv i0 i1 i5 hr hx c1 c2 c3 undef_e) (bw k8 fnil) ?_
   exact fQ hl1
  cases c4:decide (x≥(n:Int))
  case true =>
   refine go2 (bw12 hl1 hv i0 i1 i5 hr hx c1 c2 c3 c4 undef_e) (bw k8 fnil) ?_
   exact fQ hl1
  have hr1:1≤r:=by have:=of_decide_eq_false c1;omega
  have hr5:r≤5:=by have:=of_decide_eq_false c2;omega
  have hx0:0≤x:=by have:=of_decide_eq_false c3;omega
  have hxn:x<n:=by have:=of_decide_eq_false c4;omega
  have hw1:IntKind.wrap .i64 ((n:Int) - i)=((n - i:Nat):Int):=by
   rw [show (n:Int) - i=((n - i:Nat):Int) by omega];exact wrap_nat (by omega)
  have hw2:IntKind.wrap .i64 (r+4)=r+4:=wrap_in (by unfold inI;omega)
  have hw3:=wS i (by omega)
  have a1:=hf.a1
  have la1:=hp_lt a1
  refine go2 (bw16 hl1 hv i0 i1 i5 i6 hr hx c1 c2 c3 c4 undef_e a1 (n4 la1) hw1) fnil ?_
  refine wops_appT (w := .slice (.tag st1.heap.length 1) 1 [iv ((n - i:Nat):Int)]) (ys:=[iv ((n - i:Nat):Int)]) rfl rfl ?_ ?_ oH hT.push rfl (by have:=hf.len;rw [len_push];omega) rfl rfl (by simp only [maxList];omega) ?_
  ·simp only [↓reduceIte,go_sem,hl1]
  ·simp only [↓reduceIte,go_sem,hl1]
  intro H' s2 oH' hT2 hFr2 hk2
  have f2:=hf.push.app hFr2 hk2
  clear hFr2 hk2
  have b1:=f2.a1
  have lb1:=hp_lt b1
  have cH:=own_cells oH'
  have cHc:=cH.1
  have cHi:=cH.2
  have w2:=f2.wf
  have n2:=f2.len
  have cG:=own_cells oG
  have cGc:=cG.1
  have cGi:=cG.2
  refine go2 (bw12 hl1 hv i0 i6 b1 (n4 lb1) cHc cHi cGc cGi hr hw2) fnil ?_
  have f3:=f2.setP (H':=H') (G':=G)
  have hT3:Tags (b+3) (setVar s2 (b+1) (.var [iv n,H',G,.hslice b 4 1])) [G,R,C,H']:=hT2.setVar (by intro q h;rw [b1] at h;cases h)
  generalize setVar s2 (b+1) (.var [iv n,H',G,.hslice b 4 1])=s3 at f3 hT3 ⊢
  have w3:=f3.wf
  have n3:=f3.len
  have b3:=f3.a1
  have lb3:=hp_lt b3
  refine wopsD_appT (w := .slice (.tag s2.heap.length 3) 1 [iv 1,iv (r+4),iv 1]) (ys:=[iv 1,iv (r+4),iv 1]) (by rw [lo_push,len_push];omega) rfl rfl ?_ ?_ oG hT3.push rfl (by rw [len_push];omega) rfl rfl (by simp only [maxList];omega) ?_
  ·simp only [↓reduceIte,go_sem,hl1]
  ·simp only [↓reduceIte,go_sem,hl1]
  intro G' s4 ft4 hft4 oG' hT4 hFr4 hk4
  have f4:=f3.push.app hFr4 hk4
  clear hFr4 hk4
  have w4:=f4.wf
  have n4':=f4.len
  have b4:=f4.a1
  have lb4:=hp_lt b4
  have cG':=own_cells oG'
  have cGc':=cG'.1
  have cGi':=cG'.2
  refine go2 (bw10 hl1 i6 b4 (n4 lb4) cHc cHi cGc' cGi' @op_indexAddrM idx0) fnil ?_
  have f5:=f4.setP (H':=H') (G':=G')
  have hT5:Tags (b+3) (setVar s4 (b+1) (.var [iv n,H',G',.hslice b 4 1])) [R,C,H',G']:=hT4.setVar (by intro q h;rw [b4] at h;cases h)
  generalize setVar s4 (b+1) (.var [iv n,H',G',.hslice b 4 1])=s5 at f5 hT5 ⊢
  have w5:=f5.wf
  have n5:=f5.len
  have z5:=f5.a0
  have lz5:=hp_lt z5
  have cR:=own_cells oR
  refine wopsD_ldA (l:=b) (off:=1) (cs:=[.nilslice,R,iv 0,.nilslice]) (v:=R) w5 rfl rfl ?_ z5 rfl rfl ?_
  ·simp only [↓reduceIte,go_sem,hl1]
  refine go2 (bw hl1 hv) fnil ?_
  refine wopsD_appT (w := .slice (.tag s5.heap.length 1) 1 [iv i]) (ys:=[iv i]) (by rw [lo_push,len_push];omega) rfl rfl ?_ ?_ oR hT5.push rfl (by rw [len_push];omega) rfl rfl (by simp only [maxList];omega) ?_
  ·simp only [↓reduceIte,go_sem,hl1]
  ·simp only [↓reduceIte,go_sem,hl1]
  intro R' s6 ft6 hft6 oR' hT6 hFr6 hk6
  have f6:=f5.push.app hFr6 hk6
  clear hFr6 hk6
  have w6:=f6.wf
  have n6:=f6.len
  have z6:=f6.a0
  have cR':=own_cells oR'
  have cRc':=cR'.1
  have cRi':=cR'.2
  refine go2 (bw3 hl1 @op_indexAddrM idx0) fnil ?_
  refine wopsD_storeA (l:=b) (off:=1) (cs:=[.nilslice,R,iv 0,.nilslice]) (p:=[R']) (cs':=[.nilslice,R',iv 0,.nilslice]) w6 rfl rfl ?_ ?_ z6 ?_ rfl ?_
  ·simp only [↓reduceIte,go_sem,hl1]
  ·simp only [↓reduceIte,go_sem,hl1,cRc']
  ·simp [cRi']
  apply wopsD_nil
  refine ⟨?_,?_⟩
  ·have:=hft6 (b+1) (by omega)
   simp [footOk,this,clash_q]
  have f7:=f6.setR (R':=R')
  have hT7:Tags (b+3) (setVar s6 b (.arr [.nilslice,R',iv 0,.nilslice])) [C,H',G',R']:=hT6.setVar (by intro q h;rw [z6] at h;cases h)
  generalize setVar s6 b (.arr [.nilslice,R',iv 0,.nilslice])=s7 at f7 hT7 ⊢
  have w7:=f7.wf
  have n7:=f7.len
  have y7:=f7.a2
  have ly7:=hp_lt y7
  have cC:=own_cells oC
  have cCc:=cC.1
  have cCi:=cC.2
  refine go2 (bw7 hl1 hv i0 i7 y7 (n4 ly7) hr) fnil ?_
  refine wopsD_appT (w := .slice (.tag s7.heap.length 3) 1 [iv 1,iv r,iv 0]) (ys:=[iv 1,iv r,iv 0]) (by rw [lo_push,len_push];omega) rfl rfl ?_ ?_ oC hT7.push rfl (by rw [len_push];omega) rfl rfl (by simp only [maxList];omega) ?_
  ·simp only [↓reduceIte,go_sem,hl1]
  ·simp only [↓reduceIte,go_sem,hl1]
  intro C' s8 ft8 hft8 oC' hT8 hFr8 hk8
  have f8:=f7.push.app hFr8 hk8
  clear hFr8 hk8
  have w8:=f8.wf
  have n8:=f8.len
  have y8:=f8.a2
  have ly8:=hp_lt y8
  have cC':=own_cells oC'
  have cCc':=cC'.1
  have cCi':=cC'.2
  refine go2 (bw8 hl1 hv i7 y8 (n4 ly8) cCc' cCi' hw3) fnil ?_
  have f9:=f8.setC (C':=C')
  have hT9:Tags (b+3) (setVar s8 (b+2) (.var [iv 1,iv n,C'])) [H',G',R',C']:=hT8.setVar (by intro q h;rw [y8] at h;cases h)
  refine ⟨(sG hl1),by omega,fun j h1 h2 hj=>?_,H',G',R',C',f9,?_,?_,?_,?_,hT9⟩
  ·rcases Nat.lt_or_ge j i with h|h
   ·exact hno j h1 h2 h
   ·obtain rfl:j=i:=by omega
    rw [hr,hx]
    exact ⟨⟨hr1,hr5⟩,hx0,hxn⟩
  ·rw [take_flat (by rw [hsL_len];omega)]
   have e:(hsL n)[i]'(by rw [hsL_len];omega)=((n - i:Nat):Int):=by simp [hsL]
   rw [e];exact oH'
  ·rw [take_flat (by rw [sfL_len];omega),sfL_at (by rw [sfL_len];omega) hil,hr];exact oG'
  ·rw [take_flat (by rw [restL_len];omega),restL_at];exact oR'
  ·have hcl:i<(shC n l).figs.length:=by rw [sh_figs,List.length_map];exact hil
   have e:(shC n l).figs[i]=⟨1,r,0⟩:=by simp [shC,hr]
   rw [take_flat hcl,e];exact oC'
end Go.Den.Tp
end

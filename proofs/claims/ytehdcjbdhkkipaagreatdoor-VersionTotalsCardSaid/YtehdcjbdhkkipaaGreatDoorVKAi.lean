/- Part of the proofs of laws of the package version. Texts: DenDrawE, DenDrawF, DenDrawG. -/
import Derived.Test.YtehdcjbdhkkipaaGreatDoorVKAh
set_option linter.unusedSimpArgs false
set_option linter.unusedVariables false
section
namespace Go.Den
def Don (listed:Array Bool) (i:Nat):Prop:=listed.getD i false=true
theorem Don.set{listed:Array Bool}{i:Nat}(hi:i<listed.size)(x:Nat):Don (listed.setIfInBounds i true) x↔x=i∨Don listed x:=by
 unfold Don
 by_cases h:x=i
 ·subst h
  simp[Array.getD_eq_getD_getElem?,hi]
 ·simp only[h,false_or]
  rw[Array.getD_eq_getD_getElem?,Array.getD_eq_getD_getElem?,Array.getElem?_setIfInBounds_ne (Ne.symm h)]
structure Pend (B0:Nat) (G:Gh) (w wS:World) (z:List PV) (b:Nat):Prop where
 cell:∃ (arr:Array Value) (T:TypeId),w.heap[b]? = some (Obj.cells arr T (0,0))∧∀ G w,VRL G w z arr.toList
 lowB:B0≤b
 low:wS.heap.size≤b
 be:∀ l,G.be l≠some b
 tg:∀ t e,G.tg t≠some (b,e)
 cm:G.cm b=none
theorem Pend.lt{B0 G w wS z b}(h:Pend B0 G w wS z b):b<w.heap.size:=by
 obtain⟨arr,T,h1,_⟩:=h.cell
 exact lt_of_heap h1
theorem Pend.ext{B0 G w wS z b h h' G' w' lo}(p:Pend B0 G w wS z b)(x:Ext G h w G' h' w' lo):Pend B0 G' w' wS z b:=by
 have hlt:=p.lt
 refine⟨?_,p.lowB,p.low,fun l e=>?_,fun t e he=>?_,?_⟩
 ·obtain⟨arr,T,h1,h2⟩:=p.cell
  exact⟨arr,T,by rw[x.frame hlt p.be p.tg p.cm];exact h1,h2⟩
 ·cases hb:G.be l with
  | none=>have:=(x.nbe e hb).2;omega
  | some b'=>have:=x.pres.be hb;rw[e] at this;cases this;exact p.be l hb
 ·cases hb:G.tg t with
  | none =>
   rcases (x.ntg he hb).2 with h8|⟨t',e',h8⟩
   ·omega
   ·exact p.tg t' e' h8
  | some q=>have:=x.pres.tg hb;rw[he] at this;cases this;exact p.tg t e hb
 ·cases hc:G'.cm b with
  | none=>rfl
  | some k =>
   rcases x.ncm hc p.cm with h8|⟨t',e',h8⟩
   ·omega
   ·exact absurd h8 (p.tg t' e')
theorem Pend.upd{B0 G w wS z b l0 b' w'}(p:Pend B0 G w wS z b)(hne:b≠b')(hw:w'.heap[b]? = w.heap[b]?):Pend B0 { G with be:=upd G.be l0 (some b') } w' wS z b:=by
 refine⟨?_,p.lowB,p.low,fun l e=>?_,p.tg,p.cm⟩
 ·obtain⟨arr,T,h1,h2⟩:=p.cell
  exact⟨arr,T,by rw[hw];exact h1,h2⟩
 ·have e':Den.upd G.be l0 (some b') l=some b:=e
  by_cases hl:l=l0
  ·subst hl;rw[upd_same] at e';cases e';exact hne rfl
  ·rw[upd_ne _ _ hl] at e';exact p.be l e'
theorem Pend.alloc{B0 G w wS z b}(p:Pend B0 G w wS z b)(o:Obj):Pend B0 G (w.alloc o) wS z b:=by
 obtain⟨arr,T,h1,h2⟩:=p.cell
 exact⟨⟨arr,T,by rw[heap_alloc_lt _ _ p.lt];exact h1,h2⟩,p.lowB,p.low,p.be,p.tg,p.cm⟩
section
variable(P:Program)(B0:Nat)(w0:World)(B:Nat)(ds:List DOper)(pl:List (List Nat))(tm:List PV)(st:St)(K:Nat)(tms:Nat→List PV)(sts:Nat→St)(vs:Nat→PV)(GS:Gh)(wS:World)(lo:Nat)
def IsP (tms:Nat→List PV) (c i:Nat) (d:DOper):Prop:=c≤i∧weight d.op=3∧wants (tms i) d.guard=true
structure Inv0 (listed:Array Bool) (a:Act) (w:World) (c:Nat) (G:Gh) (tmS:List PV) (pb:Nat→Nat):Prop where
 sz:listed.size=ds.length
 closed:Closed pl (Don listed)
 cK:c≤K
 cD:∀ (i:Nat) (d:DOper),i<c→ds[i]? = some d→weight d.op=2→Don listed i
 SK:∀ i,Don listed i→i<K
 wr:WR P B0 w0 G (sts c).heap w
 hole:∀ (i:Nat) (d:DOper),i<c→ds[i]? = some d→weight d.op=3→wants (tms i) d.guard=true→¬ Don listed i→G.be (sts i).heap.length=none∧G.tg (sts i).heap.length=none
 ext:Ext GS st.heap wS G (sts c).heap w lo
 tl:tmS.length=tm.length
 tv:VRL G w tmS a.tmps.toList
 tn:∀ (i:Nat) (d:DOper) (t:Nat),Don listed i→ds[i]? = some d→d.dst=some t→t<tm.length→¬ IsP tms c i d→tmS[t]? = some (vs i)
 tp:∀ (i:Nat) (d:DOper) (t:Nat),Don listed i→ds[i]? = some d→d.dst=some t→t<tm.length→IsP tms c i d→a.tmps.toList[t]? = some (.pointer (some ⟨pb i,0,none⟩))
 pend:∀ (i:Nat) (d:DOper),Don listed i→ds[i]? = some d→IsP tms c i d→∃ z,d.op = .alloc z∧Pend B0 G w wS z (pb i)
 pinj:∀ (i j:Nat) (d d':DOper),Don listed i→ds[i]? = some d→IsP tms c i d→Don listed j→ds[j]? = some d'→IsP tms c j d'→pb i=pb j→i=j
 told:∀ t,(∀ (i:Nat) (d:DOper),Don listed i→ds[i]? = some d→d.dst≠some t)→tmS[t]? = tm[t]?
 df:DefsOK B G w a.defers w.heap.size
structure Inv (listed:Array Bool) (a:Act) (w:World) (c:Nat) (G:Gh) (tmS:List PV) (pb:Nat→Nat):Prop extends Inv0 P B0 w0 B ds pl tm st K tms sts vs GS wS lo listed a w c G tmS pb where
 cN:c=K∨∃ d,c<K∧ds[c]? = some d∧weight d.op=2∧¬ Don listed c
end
section
variable{P:Program}{B0:Nat}{w0:World}{B:Nat}{ds:List DOper}{pl:List (List Nat)}{tm:List PV}{st:St}{K:Nat}{tms:Nat→List PV}{sts:Nat→St}{vs:Nat→PV}{GS:Gh}{wS:World}{lo:Nat}{E:Env}{rec:Rec}{fo:Nat→Foot}{mu:TypeId→Bool}{ops:Array Oper}{free:List (Nat×List Nat)}
 {listed:Array Bool} {a:Act} {w:World} {c:Nat} {G:Gh} {tmS:List PV} {pb:Nat→Nat}
theorem Inv.turn0(C:Checked P mu ops ds pl free)(I:Inv P B0 w0 B ds pl tm st K tms sts vs GS wS lo listed a w c G tmS pb){i:Nat}{d:DOper}(hi:ds[i]? = some d)(hiK:i≤K)(hw:weight d.op=2)(hp:∀ p∈pl.getD i [],Don listed p):i≤c:=by
 rcases Nat.lt_or_ge c i with h|h
 ·rcases I.cN with h1|⟨d',h1,h2,h3,h4⟩
  ·omega
  ·exact absurd (ordered_closed I.closed (C.heavy c i d' d h h2 hi (by unfold isHeavy;simp[h3]) (by unfold isHeavy;simp[hw]) (by omega)) hp) h4
 ·exact h
theorem Inv.agree(T:Trace E rec ds tm st K tms sts vs fo)(C:Checked P mu ops ds pl free)(I:Inv P B0 w0 B ds pl tm st K tms sts vs GS wS lo listed a w c G tmS pb){j:Nat}{d:DOper}(hj:ds[j]? = some d)(hK:j≤K)(hn:¬ Don listed j)(hp:∀ p∈pl.getD j [],Don listed p):Agree tmS (tms j) d.reads:=by
 intro t ht
 by_cases hwr:∃ (i:Nat) (di:DOper),ds[i]? = some di∧di.dst=some t
 ·obtain⟨i,di,hi,hd⟩:=hwr
  have uniq:∀ (x:Nat) (dx:DOper),x≠i→ds[x]? = some dx→dx.dst≠some t:=fun x dx hx hdx=>C.once i x di dx t (Ne.symm hx) hi hdx hd
  by_cases hij:i<j
  ·have hS:Don listed i:=ordered_closed I.closed ((C.data i j di d t (by omega) hi hj hd ht).1 hij) hp
   have hnp:¬ IsP tms c i di:=by
    rintro⟨h1,h2,h3⟩
    rcases C.rd i j di d t hi hj h2 hd ht with h4|h4
    ·have:=I.turn0 C hj hK h4 hp
     omega
    ·rcases I.cN with h5|⟨d',h5,h6,h7,h8⟩
     ·have:=I.SK i hS
      omega
     ·have hci:c≠i:=by rintro rfl;rw[hi] at h6;cases h6;omega
      exact h8 (ordered_in I.closed (h4 c d' (by omega) h6 h7) hS)
   by_cases htl:t<tm.length
   ·rw[I.tn i di t hS hi hd htl hnp,T.new (by omega) hi hd htl uniq (by omega) hK]
   ·rw[List.getElem?_eq_none (by rw[I.tl];omega),List.getElem?_eq_none (by rw[T.tlen hK];omega)]
  ·have hS:¬ Don listed i:=by
    intro h
    by_cases he:i=j
    ·subst he;exact hn h
    ·exact hn (ordered_in I.closed ((C.data i j di d t he hi hj hd ht).2 (by omega)) h)
   rw[I.told t (fun x dx h1 h2 h3=>by
    by_cases hx:x=i
    ·subst hx;exact hS h1
    ·exact uniq x dx hx h2 h3),T.old hK (fun x dx h1 h2=>uniq x dx (by omega) h2)]
 ·have h:∀ (x:Nat) (dx:DOper),ds[x]? = some dx→dx.dst≠some t:=fun x dx h1 h2=>hwr ⟨x,dx,h1,h2⟩
  rw[I.told t (fun x dx _ h2=>h x dx h2),T.old hK (fun x dx _ h2=>h x dx h2)]
theorem act_put_get{a:Act}{dst:Option Nat}{u:Value}{t:Nat}:(a.put dst u).tmps.toList[t]? = if dst=some t∧t<a.tmps.toList.length then some u else a.tmps.toList[t]? := by
 cases dst with
 | none=>simp[Act.put]
 | some d =>
  simp only[Act.put,Array.toList_setIfInBounds,Option.some.injEq]
  by_cases h:d=t
  ·subst h
   by_cases h2:d<a.tmps.toList.length
   ·rw[List.getElem?_set_self h2,if_pos ⟨rfl,h2⟩]
   ·rw[if_neg (fun h=>h2 h.2),List.getElem?_eq_none (by simpa using h2),List.getElem?_eq_none (by simpa using h2)]
  ·rw[List.getElem?_set_ne h,if_neg (fun h'=>h h'.1)]
theorem Inv0.put(C:Checked P mu ops ds pl free)(I:Inv0 P B0 w0 B ds pl tm st K tms sts vs GS wS lo listed a w c G tmS pb){i:Nat}{d:DOper}(hi:ds[i]? = some d)(hiK:i<K)(hn:¬ Don listed i)(hp:∀ p∈pl.getD i [],Don listed p)
  {c':Nat} {G':Gh} {w':World} {u:Value} {x:PV} (b:Nat) (hc1:c'≤K) (hcc:∀ (x:Nat) (d:DOper),ds[x]? = some d→weight d.op=3→(c'≤x↔c≤x)) (hc3:∀ (x:Nat) (d:DOper),x<c'→ds[x]? = some d→weight d.op=2→Don (listed.setIfInBounds i true) x)
  (hwr:WR P B0 w0 G' (sts c').heap w') (hhole:∀ (x:Nat) (d:DOper),x<c'→ds[x]? = some d→weight d.op=3→wants (tms x) d.guard=true→¬ Don (listed.setIfInBounds i true) x→G'.be (sts x).heap.length=none∧G'.tg (sts x).heap.length=none)
  (hext:Ext GS st.heap wS G' (sts c').heap w' lo) (hpres:Pres G w G' w') (hpe:∀ z b,Pend B0 G w wS z b→Pend B0 G' w' wS z b) (hv:VR G' w' x u) (hdf:DefsOK B G' w' a.defers w'.heap.size)
  (hx1:¬ IsP tms c i d→x=vs i) (hx2:IsP tms c i d→u = .pointer (some ⟨b,0,none⟩)∧(∃ z,d.op = .alloc z∧Pend B0 G' w' wS z b)∧w.heap.size≤b) :
  Inv0 P B0 w0 B ds pl tm st K tms sts vs GS wS lo (listed.setIfInBounds i true) (a.put d.dst u) w' c' G' (Den.put tmS d.dst x) (upd pb i b):=by
 have hlt:i<listed.size:=by rw[I.sz];exact (List.getElem?_eq_some_iff.1 hi).1
 have hD:=Don.set hlt
 have hIP:∀ {j:Nat} {dj:DOper},ds[j]? = some dj→(IsP tms c' j dj↔IsP tms c j dj):=fun {j dj} hj=>by
  unfold IsP
  constructor
  ·rintro⟨h1,h2,h3⟩;exact⟨(hcc j dj hj h2).1 h1,h2,h3⟩
  ·rintro⟨h1,h2,h3⟩;exact⟨(hcc j dj hj h2).2 h1,h2,h3⟩
 have hpl:∀ {j:Nat} {dj:DOper},j≠i→Don (listed.setIfInBounds i true) j→ds[j]? = some dj→IsP tms c' j dj→Don listed j∧IsP tms c j dj∧(∃ z,dj.op = .alloc z∧Pend B0 G w wS z (pb j)):=fun {j dj} hji hj hdj hpj=>by
  have h1:=((hD j).1 hj).resolve_left hji
  have h2:=(hIP hdj).1 hpj
  exact⟨h1,h2,I.pend j dj h1 hdj h2⟩
 refine⟨by rw[Array.size_setIfInBounds];exact I.sz,fun j hj p hpj=>?_,hc1,hc3,fun j hj=>?_,hwr,hhole,hext,by rw[put_length];exact I.tl,put_ok (VRL.mono hpres I.tv) hv _,fun j dj t hj hdj hdt htl hnp=>?_,fun j dj t hj hdj hdt htl hpj=>?_,fun j dj hj hdj hpj=>?_,fun j k dj dk hj hdj hpj hk hdk hpk he=>?_,fun t ht=>?_,by rw[put_defers];exact hdf⟩
 ·rw[hD]
  rcases (hD j).1 hj with rfl|hj
  ·exact .inr (hp p hpj)
  ·exact .inr (I.closed j hj p hpj)
 ·rcases (hD j).1 hj with rfl|hj
  ·exact hiK
  ·exact I.SK j hj
 ·rw[hIP hdj] at hnp
  by_cases hji:j=i
  ·subst hji
   rw[hi] at hdj;cases hdj
   rw[hdt]
   simp only[Den.put]
   rw[List.getElem?_set_self (by rw[I.tl];exact htl),hx1 hnp]
  ·have hj':=((hD j).1 hj).resolve_left hji
   have hne:=C.once j i dj d t hji hdj hi hdt
   rw[← I.tn j dj t hj' hdj hdt htl hnp]
   cases hd2:d.dst with
   | none=>rfl
   | some t' =>
    rw[hd2] at hne
    simp only[Den.put]
    rw[List.getElem?_set_ne (fun e=>hne (by rw[e]))]
 ·rw[act_put_get]
  by_cases hji:j=i
  ·subst hji
   rw[hi] at hdj;cases hdj
   rw[if_pos ⟨hdt,by rw[VRL.length I.tv,I.tl];exact htl⟩,(hx2 ((hIP hi).1 hpj)).1,upd_same]
  ·obtain⟨h1,h2,_⟩:=hpl hji hj hdj hpj
   rw[if_neg (fun h=>C.once j i dj d t hji hdj hi hdt h.1),upd_ne _ _ hji]
   exact I.tp j dj t h1 hdj hdt htl h2
 ·by_cases hji:j=i
  ·subst hji
   rw[hi] at hdj;cases hdj
   rw[upd_same]
   exact (hx2 ((hIP hi).1 hpj)).2.1
  ·obtain⟨_,_,z,h3,h4⟩:=hpl hji hj hdj hpj
   rw[upd_ne _ _ hji]
   exact⟨z,h3,hpe z _ h4⟩
 ·by_cases hji:j=i <;> by_cases hki:k=i
  ·omega
  ·exfalso
   subst hji
   rw[hi] at hdj;cases hdj
   obtain⟨_,_,z,h3,h4⟩:=hpl hki hk hdk hpk
   have h5:=(hx2 ((hIP hi).1 hpj)).2.2
   rw[upd_same,upd_ne _ _ hki] at he
   have:=h4.lt
   omega
  ·exfalso
   subst hki
   rw[hi] at hdk;cases hdk
   obtain⟨_,_,z,h3,h4⟩:=hpl hji hj hdj hpj
   have h5:=(hx2 ((hIP hi).1 hpk)).2.2
   rw[upd_same,upd_ne _ _ hji] at he
   have:=h4.lt
   omega
  ·obtain⟨h1,h2,_⟩:=hpl hji hj hdj hpj
   obtain⟨h3,h4,_⟩:=hpl hki hk hdk hpk
   rw[upd_ne _ _ hji,upd_ne _ _ hki] at he
   exact I.pinj j k dj dk h1 hdj h2 h3 hdk h4 he
 ·have hne:=ht i d ((hD i).2 (.inl rfl)) hi
  rw[← I.told t (fun x dx h1 h2=>ht x dx ((hD x).2 (.inr h1)) h2)]
  cases hd2:d.dst with
  | none=>rfl
  | some t' =>
   rw[hd2] at hne
   simp only[Den.put]
   rw[List.getElem?_set_ne (fun e=>hne (by rw[e]))]
theorem sub_not{i x:Nat}(hlt:i<listed.size)(h:¬ Don (listed.setIfInBounds i true) x):x≠i∧¬ Don listed x:=by
 have:=Don.set hlt x
 exact⟨fun e=>h (this.2 (.inl e)),fun e=>h (this.2 (.inr e))⟩
theorem made_lt(T:Trace E rec ds tm st K tms sts vs fo){x:Nat}{dx:DOper}(hx:x<K)(hdx:ds[x]? = some dx)(hwx:weight dx.op=3)(hwt:wants (tms x) dx.guard=true):(sts (x+1)).heap.length=(sts x).heap.length+1:=by
 rcases T.made hx hdx hwx with ⟨_,z,_,h,_⟩|⟨h,_⟩
 ·rw[h];simp
 ·rw[hwt] at h;cases h
theorem fill_tv{G:Gh}{w:World}{tmS:List PV}{vs:List Value}{dst:Option Nat}{p:PV}{u:Value}(h:VRL G w tmS vs)(hp:VR G w p u)(hu:∀ t,dst=some t→t<tmS.length→vs[t]? = some u):VRL G w (put tmS dst p) vs:=by
 cases dst with
 | none=>exact h
 | some t =>
  simp only[put]
  by_cases ht:t<tmS.length
  ·have h1:=hu t rfl ht
   have h2:=h.set (i:=t) hp
   have h3:vs.set t u=vs:=by
    refine List.ext_getElem? (fun i=>?_)
    by_cases hi:i=t
    ·subst hi
     rw[h1,List.getElem?_set_self (by rw[VRL.length h];exact ht)]
    ·rw[List.getElem?_set_ne (Ne.symm hi)]
   rw[h3] at h2
   exact h2
  ·rw[List.set_eq_of_length_le (by omega)]
   exact h
theorem Inv0.next(T:Trace E rec ds tm st K tms sts vs fo)(C:Checked P mu ops ds pl free)(hgr:GrowCall rec)(I:Inv0 P B0 w0 B ds pl tm st K tms sts vs GS wS lo listed a w c G tmS pb)(hcK:c<K){d:DOper}(hd:ds[c]? = some d)(hw2:weight d.op≠2) :
  ∃ G' tmS',Inv0 P B0 w0 B ds pl tm st K tms sts vs GS wS lo listed a w (c+1) G' tmS' pb:=by
 have hcD:∀ (i:Nat) (d:DOper),i<c+1→ds[i]? = some d→weight d.op=2→Don listed i:=fun i di h1 h2 h3=>by
  by_cases hic:i=c
  ·subst hic;rw[hd] at h2;cases h2;exact absurd h3 hw2
  ·exact I.cD i di (by omega) h2 h3
 by_cases hal:weight d.op=3∧wants (tms c) d.guard=true
 ·obtain⟨h3,hwt⟩:=hal
  obtain⟨z,hz,hh,hv⟩:∃ z,d.op = .alloc z∧(sts (c+1)).heap=(sts c).heap++[.var z]∧vs c = .ptr (sts c).heap.length 0:=by
   rcases T.made hcK hd h3 with ⟨_,h⟩|⟨h,_⟩
   ·exact h
   ·rw[hwt] at h;cases h
  have hwr':WR P B0 w0 G (sts (c+1)).heap w:=by rw[hh];exact I.wr.pad _
  have hext':Ext GS st.heap wS G (sts (c+1)).heap w lo:=by rw[hh];exact I.ext.pad _
  have hIP:∀ {j:Nat} {dj:DOper},j≠c→(IsP tms (c+1) j dj↔IsP tms c j dj):=fun {j dj} hj=>by
   unfold IsP
   constructor
   ·rintro⟨h1,h2⟩;exact⟨by omega,h2⟩
   ·rintro⟨h1,h2⟩;exact⟨by omega,h2⟩
  have hIc:∀ {dj:DOper},¬ IsP tms (c+1) c dj:=fun h=>by have:=h.1;omega
  have hbe0:=(I.wr.dom (Nat.le_refl (sts c).heap.length)).1
  by_cases hS:Don listed c
  · -- it has been made
   obtain⟨z',hz',hp⟩:=I.pend c d hS hd ⟨Nat.le_refl _,h3,hwt⟩
   rw[hz] at hz';cases hz'
   obtain⟨arr,T0,hcell,hzr⟩:=hp.cell
   have hget:(sts (c+1)).heap[(sts c).heap.length]? = some (.var z):=by rw[hh];simp
   obtain⟨k1,k2,k3⟩:=fillB_ok hwr' hbe0 (.var z) hget hp.lowB hp.lt hp.be hp.tg hp.cm (fun G' _ _=>⟨arr,T0,hcell,hzr _ _⟩)
   refine⟨{ G with be:=upd G.be (sts c).heap.length (some (pb c)) },Den.put tmS d.dst (vs c),I.sz,I.closed,hcK,hcD,I.SK,k1,fun x dx hx hdx hwx hwtx hnx=>?_,k3 _ _ _ _ hext' ?_ hp.low,by rw[put_length];exact I.tl,fill_tv (VRL.mono k2 I.tv) (u := .pointer (some ⟨pb c,0,none⟩)) ?_ (fun t ht htl=>?_),fun j dj t hj hdj hdt htl hnp=>?_,fun j dj t hj hdj hdt htl hpj=>?_,fun j dj hj hdj hpj=>?_,fun j k dj dk hj hdj hpj hk hdk hpk he=>?_,fun t ht=>?_,I.df.fill hcell⟩
   ·have hxc:x≠c:=fun e=>hnx (e ▸ hS)
    obtain⟨q1,q2⟩:=I.hole x dx (by omega) hdx hwx hwtx hnx
    refine⟨?_,q2⟩
    show upd _ _ _ _=_
    rw[upd_ne]
    ·exact q1
    ·have h4:=made_lt T (by omega) hdx hwx hwtx
     have h5:=(T.grow hgr (show x+1≤c by omega) I.cK).2.1
     omega
   ·have:=(T.grow hgr (Nat.zero_le c) I.cK).2.1;rw[T.z2] at this;exact this
   ·rw[hv]
    simp only[VR]
    exact⟨_,upd_same _ _ _,rfl⟩
   ·exact I.tp c d t hS hd ht (by rw[← I.tl];exact htl) ⟨Nat.le_refl _,h3,hwt⟩
   ·by_cases hjc:j=c
    ·subst hjc
     rw[hd] at hdj;cases hdj
     rw[hdt]
     simp only[Den.put]
     rw[List.getElem?_set_self (by rw[I.tl];exact htl)]
    ·rw[← I.tn j dj t hj hdj hdt htl (fun h=>hnp ((hIP hjc).2 h))]
     have hne:=C.once j c dj d t hjc hdj hd hdt
     cases hd2:d.dst with
     | none=>rfl
     | some t' =>
      rw[hd2] at hne
      simp only[Den.put]
      rw[List.getElem?_set_ne (fun e=>hne (by rw[e]))]
   ·have hjc:j≠c:=fun e=>hIc (e ▸ hpj)
    exact I.tp j dj t hj hdj hdt htl ((hIP hjc).1 hpj)
   ·have hjc:j≠c:=fun e=>hIc (e ▸ hpj)
    have hpj':=(hIP hjc).1 hpj
    obtain⟨z',h4,h5⟩:=I.pend j dj hj hdj hpj'
    refine⟨z',h4,h5.upd (fun e=>hjc (I.pinj j c dj d hj hdj hpj' hS hd ⟨Nat.le_refl _,h3,hwt⟩ e)) rfl⟩
   ·have hjc:j≠c:=fun e=>hIc (e ▸ hpj)
    have hkc:k≠c:=fun e=>hIc (e ▸ hpk)
    exact I.pinj j k dj dk hj hdj ((hIP hjc).1 hpj) hk hdk ((hIP hkc).1 hpk) he
   ·have hne:=ht c d hS hd
    rw[← I.told t ht]
    cases hd2:d.dst with
    | none=>rfl
    | some t' =>
     rw[hd2] at hne
     simp only[Den.put]
     rw[List.getElem?_set_ne (fun e=>hne (by rw[e]))]
  · -- its place is kept free
   refine⟨G,tmS,I.sz,I.closed,hcK,hcD,I.SK,hwr',fun x dx hx hdx hwx hwtx hnx=>?_,hext',I.tl,I.tv,fun j dj t hj hdj hdt htl hnp=>?_,fun j dj t hj hdj hdt htl hpj=>?_,fun j dj hj hdj hpj=>?_,fun j k dj dk hj hdj hpj hk hdk hpk he=>?_,I.told,I.df⟩
   ·by_cases hxc:x=c
    ·subst hxc;exact I.wr.dom (Nat.le_refl _)
    ·exact I.hole x dx (by omega) hdx hwx hwtx hnx
   ·have hjc:j≠c:=fun e=>hS (e ▸ hj)
    exact I.tn j dj t hj hdj hdt htl (fun h=>hnp ((hIP hjc).2 h))
   ·have hjc:j≠c:=fun e=>hS (e ▸ hj)
    exact I.tp j dj t hj hdj hdt htl ((hIP hjc).1 hpj)
   ·have hjc:j≠c:=fun e=>hS (e ▸ hj)
    exact I.pend j dj hj hdj ((hIP hjc).1 hpj)
   ·have hjc:j≠c:=fun e=>hS (e ▸ hj)
    have hkc:k≠c:=fun e=>hS (e ▸ hk)
    exact I.pinj j k dj dk hj hdj ((hIP hjc).1 hpj) hk hdk ((hIP hkc).1 hpk) he
 · -- nothing is made
  have hh:(sts (c+1)).heap=(sts c).heap:=by
   by_cases h3:weight d.op=3
   ·rcases T.made hcK hd h3 with ⟨h,_⟩|⟨_,h,_⟩
    ·exact absurd ⟨h3,h⟩ hal
    ·exact h
   ·exact T.calm hcK hd (by unfold isHeavy;simp[hw2,h3])
  have hIP:∀ {j:Nat} {dj:DOper},ds[j]? = some dj→(IsP tms (c+1) j dj↔IsP tms c j dj):=fun {j dj} hdj=>by
   unfold IsP
   constructor
   ·rintro⟨h1,h2⟩;exact⟨by omega,h2⟩
   ·rintro⟨h1,h2⟩
    have hjc:j≠c:=fun e=>by subst e;rw[hd] at hdj;cases hdj;exact hal h2
    exact⟨by omega,h2⟩
  refine⟨G,tmS,I.sz,I.closed,hcK,hcD,I.SK,by rw[hh];exact I.wr,fun x dx hx hdx hwx hwtx hnx=>?_,by rw[hh];exact I.ext,I.tl,I.tv,fun j dj t hj hdj hdt htl hnp=>?_,fun j dj t hj hdj hdt htl hpj=>?_,fun j dj hj hdj hpj=>?_,fun j k dj dk hj hdj hpj hk hdk hpk he=>?_,I.told,I.df⟩
  ·by_cases hxc:x=c
   ·subst hxc;rw[hd] at hdx;cases hdx;exact absurd ⟨hwx,hwtx⟩ hal
   ·exact I.hole x dx (by omega) hdx hwx hwtx hnx
  ·exact I.tn j dj t hj hdj hdt htl (fun h=>hnp ((hIP hdj).2 h))
  ·exact I.tp j dj t hj hdj hdt htl ((hIP hdj).1 hpj)
  ·exact I.pend j dj hj hdj ((hIP hdj).1 hpj)
  ·exact I.pinj j k dj dk hj hdj ((hIP hdj).1 hpj) hk hdk ((hIP hdk).1 hpk) he
theorem Inv0.run(T:Trace E rec ds tm st K tms sts vs fo)(C:Checked P mu ops ds pl free)(hgr:GrowCall rec):∀ (n:Nat) {c:Nat} {G:Gh} {tmS:List PV},Inv0 P B0 w0 B ds pl tm st K tms sts vs GS wS lo listed a w c G tmS pb→c+n≤K→(∀ y d,c≤y→y<c+n→ds[y]? = some d→weight d.op≠2) →
  ∃ G' tmS',Inv0 P B0 w0 B ds pl tm st K tms sts vs GS wS lo listed a w (c+n) G' tmS' pb
 | 0,c,G,tmS,I,_,_=>⟨G,tmS,I⟩
 | n+1,c,G,tmS,I,h1,h2=>by
  obtain⟨d,hd⟩:=T.get (show c<K by omega)
  obtain⟨G1,tm1,I1⟩:=I.next T C hgr (by omega) hd (h2 c d (Nat.le_refl _) (by omega) hd)
  have:=Inv0.run T C hgr n I1 (by omega) (fun y d h3 h4 h5=>h2 y d (by omega) (by omega) h5)
  rw[show c+(n+1)=c+1+n by omega]
  exact this
theorem Inv0.to(T:Trace E rec ds tm st K tms sts vs fo)(C:Checked P mu ops ds pl free)(hgr:GrowCall rec)(I:Inv0 P B0 w0 B ds pl tm st K tms sts vs GS wS lo listed a w c G tmS pb)(hN:∀ (x:Nat) (d:DOper),c≤x→x<K→ds[x]? = some d→weight d.op=2→¬ Don listed x) :
  ∃ c' G' tmS',Inv P B0 w0 B ds pl tm st K tms sts vs GS wS lo listed a w c' G' tmS' pb:=by
 obtain⟨c',h1,h2,h3,h4⟩:=T.next _ c rfl I.cK
 obtain⟨n,rfl⟩:∃ n,c'=c+n:=⟨c' - c,by omega⟩
 obtain⟨G',tmS',I'⟩:=I.run T C hgr n h2 h4
 refine⟨_,G',tmS',I',?_⟩
 rcases h3 with h3|⟨d,h5,h6,h7⟩
 ·exact .inl h3
 ·exact .inr ⟨d,h5,h6,h7,hN _ d (by omega) h5 h6 h7⟩
theorem Inv.advance(T:Trace E rec ds tm st K tms sts vs fo)(C:Checked P mu ops ds pl free)(I:Inv P B0 w0 B ds pl tm st K tms sts vs GS wS lo listed a w c G tmS pb){d:DOper}(hc:ds[c]? = some d)(hcK:c<K)(hw2:weight d.op=2)(hn:¬ Don listed c)(hp:∀ p∈pl.getD c [],Don listed p)
  {G':Gh} {w':World} {u:Value} (hwr:WR P B0 w0 G' (sts (c+1)).heap w') (hext:Ext GS st.heap wS G' (sts (c+1)).heap w' lo) (hpres:Pres G w G' w') (hpe:∀ z b,Pend B0 G w wS z b→Pend B0 G' w' wS z b) (hv:VR G' w' (vs c) u) (hdf:DefsOK B G' w' a.defers w'.heap.size) (hgr:GrowCall rec) :
  ∃ c' G' tmS' pb',Inv P B0 w0 B ds pl tm st K tms sts vs GS wS lo (listed.setIfInBounds c true) (a.put d.dst u) w' c' G' tmS' pb':=by
 have hlt:c<listed.size:=by rw[I.sz];exact (List.getElem?_eq_some_iff.1 hc).1
 have I1:=I.toInv0.put C hc hcK hn hp (c':=c+1) (G':=G') (w':=w') (u:=u) (x:=vs c) 0 hcK (fun x dx hdx hwx=>?_) (fun x dx hx hdx hwx=>?_) hwr (fun x dx hx hdx hwx hwt hnx=>?_) hext hpres hpe hv hdf (fun _=>rfl) (fun h=>by have:=h.2.1;omega)
 ·obtain⟨c',G'',tmS',I2⟩:=I1.to T C hgr (fun x dx h1 h2 h3 h4 hS=>by
   rcases (Don.set hlt x).1 hS with h8|h8
   ·omega
   ·exact hn (ordered_in I.closed (C.heavy c x d dx (by omega) hc h3 (by unfold isHeavy;simp[hw2]) (by unfold isHeavy;simp[h4]) (by omega)) h8))
  exact⟨c',G'',tmS',_,I2⟩
 ·have:x≠c:=fun e=>by subst e;rw[hc] at hdx;cases hdx;omega
  omega
 ·rw[Don.set hlt]
  by_cases hxe:x=c
  ·exact .inl hxe
  ·exact .inr (I.cD x dx (by omega) hdx hwx)
 ·obtain⟨h5,h6⟩:=sub_not hlt hnx
  exact absurd (ordered_closed I.closed (C.heavy x c dx d (by omega) hdx hc (by unfold isHeavy;simp[hwx]) (by unfold isHeavy;simp[hw2]) (by omega)) hp) h6
theorem Inv.cN'(I:Inv P B0 w0 B ds pl tm st K tms sts vs GS wS lo listed a w c G tmS pb){i:Nat}{d:DOper}(hi:ds[i]? = some d)(hw2:weight d.op≠2):c=K∨∃ d,c<K∧ds[c]? = some d∧weight d.op=2∧¬ Don (listed.setIfInBounds i true) c:=by
 have hlt:i<listed.size:=by rw[I.sz];exact (List.getElem?_eq_some_iff.1 hi).1
 rcases I.cN with h|⟨d',h1,h2,h3,h4⟩
 ·exact .inl h
 ·refine .inr ⟨d',h1,h2,h3,fun hS=>?_⟩
  rcases (Don.set hlt c).1 hS with h5|h5
  ·subst h5;rw[hi] at h2;cases h2;exact hw2 h3
  ·exact h4 h5
theorem Inv.stay(C:Checked P mu ops ds pl free)(I:Inv P B0 w0 B ds pl tm st K tms sts vs GS wS lo listed a w c G tmS pb){i:Nat}{d:DOper}(hi:ds[i]? = some d)(hiK:i<K)(hw2:weight d.op≠2)(hn:¬ Don listed i)(hp:∀ p∈pl.getD i [],Don listed p)(hnp:¬ IsP tms c i d)
  {G':Gh} {w':World} {u:Value} (hwr:WR P B0 w0 G' (sts c).heap w') (hhole:∀ (x:Nat) (dx:DOper),x<c→x≠i→ds[x]? = some dx→weight dx.op=3→wants (tms x) dx.guard=true→G.be (sts x).heap.length=none→G.tg (sts x).heap.length=none→G'.be (sts x).heap.length=none∧G'.tg (sts x).heap.length=none)
  (hext:Ext GS st.heap wS G' (sts c).heap w' lo) (hpres:Pres G w G' w') (hpe:∀ z b,Pend B0 G w wS z b→Pend B0 G' w' wS z b) (hv:VR G' w' (vs i) u) (hdf:DefsOK B G' w' a.defers w'.heap.size) :
  ∃ c' G' tmS' pb',Inv P B0 w0 B ds pl tm st K tms sts vs GS wS lo (listed.setIfInBounds i true) (a.put d.dst u) w' c' G' tmS' pb':=by
 have hlt:i<listed.size:=by rw[I.sz];exact (List.getElem?_eq_some_iff.1 hi).1
 refine⟨c,G',_,_,I.toInv0.put C hi hiK hn hp 0 I.cK (fun _ _ _ _=>Iff.rfl) (fun x dx hx hdx hwx=>(Don.set hlt x).2 (.inr (I.cD x dx hx hdx hwx))) hwr (fun x dx hx hdx hwx hwt hnx=>?_) hext hpres hpe hv hdf (fun _=>rfl) (fun h=>absurd h hnp),I.cN' hi hw2⟩
 obtain⟨h5,h6⟩:=sub_not hlt hnx
 obtain⟨h7,h8⟩:=I.hole x dx hx hdx hwx hwt h6
 exact hhole x dx hx h5 hdx hwx hwt h7 h8
theorem Inv.ahead(C:Checked P mu ops ds pl free)(I:Inv P B0 w0 B ds pl tm st K tms sts vs GS wS lo listed a w c G tmS pb){i:Nat}{d:DOper}(hi:ds[i]? = some d)(hiK:i<K)(hn:¬ Don listed i)(hp:∀ p∈pl.getD i [],Don listed p)(hip:IsP tms c i d)
  {z:List PV} (hz:d.op = .alloc z) {arr:Array Value} {T:TypeId} (hzr:∀ G w,VRL G w z arr.toList) :
  ∃ c' G' tmS' pb',Inv P B0 w0 B ds pl tm st K tms sts vs GS wS lo (listed.setIfInBounds i true) (a.put d.dst (.pointer (some ⟨w.heap.size,0,none⟩))) (w.alloc (.cells arr T (0,0))) c' G' tmS' pb':=by
 have hlt:i<listed.size:=by rw[I.sz];exact (List.getElem?_eq_some_iff.1 hi).1
 have hw2:weight d.op≠2:=by have:=hip.2.1;omega
 have hf:Foreign B0 G w (w.alloc (.cells arr T (0,0))) (fun _=>False):=Foreign.grow (by rw[size_alloc];omega) (fun b hb=>heap_alloc_lt _ _ hb) ⟨rfl,rfl⟩
 have hx:∀ lo,Ext G (sts c).heap w G (sts c).heap (w.alloc (.cells arr T (0,0))) lo:=fun lo=>Ext.grow I.wr hf
 refine⟨c,G,_,_,I.toInv0.put C hi hiK hn hp (x := .cptr []) w.heap.size I.cK (fun _ _ _ _=>Iff.rfl) (fun x dx hx hdx hwx=>(Don.set hlt x).2 (.inr (I.cD x dx hx hdx hwx))) (hf.wr I.wr) (fun x dx hx hdx hwx hwt hnx=>?_) (I.ext.trans (hx lo)) (hx 0).pres (fun z b h=>h.alloc _) ?_ ((I.df.ext (hx 0) (Nat.le_refl _)).le (hx 0).size) (fun h=>absurd hip h) (fun _=>⟨rfl,⟨z,hz,?_⟩,Nat.le_refl _⟩),I.cN' hi hw2⟩
 ·obtain⟨h5,h6⟩:=sub_not hlt hnx
  exact I.hole x dx hx hdx hwx hwt h6
 ·simp only[VR]
  exact⟨w.heap.size,0,rfl,fun h=>absurd rfl h,trivial⟩
 ·refine⟨⟨arr,T,heap_alloc_new _ _,hzr⟩,I.wr.low.1,I.ext.size,fun l e=>?_,fun t e he=>?_,?_⟩
  ·have:=(I.wr.obj e).2.1;omega
  ·have:=(I.wr.tag he).2.1;omega
  ·cases hc:G.cm w.heap.size with
   | none=>rfl
   | some n=>have:=I.wr.cmLt hc;omega
theorem Inv.turn(C:Checked P mu ops ds pl free)(I:Inv P B0 w0 B ds pl tm st K tms sts vs GS wS lo listed a w c G tmS pb){i:Nat}{d:DOper}(hi:ds[i]? = some d)(hiK:i<K)(hw:weight d.op=2)(hn:¬ Don listed i)(hp:∀ p∈pl.getD i [],Don listed p):i=c:=by
 have h1:=I.turn0 C hi (Nat.le_of_lt hiK) hw hp
 rcases Nat.lt_or_ge i c with h|h
 ·exact absurd (I.cD i d h hi hw) hn
 ·omega
end
end Go.Den
end
section
namespace Go.Den
section
variable{P:Program}{B0:Nat}{w0:World}{B:Nat}{ds:List DOper}{pl:List (List Nat)}{tm tm2:List PV}{st:St}{K:Nat}{tms:Nat→List PV}{sts:Nat→St}{vs:Nat→PV}{GS:Gh}{wS:World}{E:Env}{rec:Rec}{fo:Nat→Foot}{mu:TypeId→Bool}{ops:Array Oper}{free:List (Nat×List Nat)}
 {listed:Array Bool} {a:Act} {w:World} {c:Nat} {G:Gh} {tmS:List PV} {pb:Nat→Nat} {e:Ex} {tm':List PV} {st':St} {fs:List Foot}
theorem foot_congr{d:DOp}(h:Agree tm tm2 d.reads)(hw:weight d=1)(m lo m' lo':Nat):footOf tm d m lo=footOf tm2 d m' lo':=by
 cases d <;> simp only[weight] at hw <;> first|(cases hw;done)|skip
 all_goals simp only[DOp.reads,Agree.append] at h
 all_goals simp only[footOf]
 ·rw[h.ev]
 ·rw[h.ev]
 ·rw[h.1.ev]
theorem look_some{d:DOp}{m lo l:Nat}{r:OpR}(h:stepOp E rec tm st d=some r)(hf:footOf tm d m lo = .ld l):l<st.heap.length:=by
 have hw:=foot_ld hf
 cases d <;> simp only[weight] at hw <;> first|(cases hw;done)|skip
 all_goals
  simp only[footOf] at hf
  simp only[stepOp] at h
  split at hf
 all_goals first|(cases hf;done)|skip
 all_goals
  rename_i hev
  cases hf
  rw[hev] at h
  try simp only at h
  repeat' (split at h)
 all_goals first
  | (cases h;done)
  | (rename_i hh _;exact (List.getElem?_eq_some_iff.1 hh).1)
  | (rename_i hh _ _;exact (List.getElem?_eq_some_iff.1 hh).1)
  | (simp only[reduceCtorEq] at h;done)
  | skip
 all_goals
  injections
  subst_vars
 all_goals exact (List.getElem?_eq_some_iff.1 ‹st.heap[_]? = some (HObj.map _)›).1
theorem ordered_lt(C:Checked P mu ops ds pl free)(hpl:pl.length=ops.size){i j:Nat}(h:ordered (masks pl []) i j=true):i<j:=by
 have key:∀ j,∀ p∈pl.getD j [],p<j:=fun j p hp=>by
  by_cases hj:j<ops.size
  ·exact C.preds j hj p hp
  ·rw[List.getD_eq_getElem?_getD,List.getElem?_eq_none (by omega)] at hp
   simp at hp
 exact ordered_closed (S:=fun y=>y<j) (fun y hy p hp=>Nat.lt_trans (key y p hp) hy) h (fun p hp=>key j p hp)
theorem step_ok(hE:EnvOK P E)(hgr:GrowCall rec)(hrec:SoundCall P B0 w0 rec)(T:Trace E rec ds tm st K tms sts vs fo)(C:Checked P mu ops ds pl free)(hpl:pl.length=ops.size)(hend:TEnd E rec ds K tms sts e tm' st')(hfo:footOk fs free=true)(hfs:∀ j,j<K→fs[j]? = some (fo j))(hlo:st.lo≤st.heap.length)
  {F:Fence} {n:Nat} (hF:IsWide F) (I:Inv P B0 w0 B ds pl tm st K tms sts vs GS wS st'.lo listed a w c G tmS pb) {i:Nat} (hi:i∈Region.ready .any ops listed) :
  wpOpIn F n P ops (Post P B0 w0 B GS st wS e tm' st') i (fun a' w'=>∃ c' G' tmS' pb',Inv P B0 w0 B ds pl tm st K tms sts vs GS wS st'.lo (listed.setIfInBounds i true) a' w' c' G' tmS' pb') a w:=by
 obtain⟨hl0,o,ho,hpr⟩:=mem_ready.1 hi
 obtain⟨d,hd,hdst,hgd,hop⟩:=C.op i o ho
 have hiS:i<ops.size:=(Array.getElem?_eq_some_iff.1 ho).1
 have hilt:i<listed.size:=by rw[I.sz,C.len];exact hiS
 have hn:¬ Don listed i:=by
  unfold Don
  rw[Array.getD_eq_getD_getElem?,Array.getElem?_eq_getElem hilt] at hl0 ⊢
  simp only[Option.getD_some] at hl0 ⊢
  rw[hl0];simp
 have hp:∀ p∈pl.getD i [],Don listed p:=by
  intro p hp
  rw[C.plOf i o ho] at hp
  unfold preds at hp
  obtain⟨ed,h1,rfl⟩:=List.mem_map.1 hp
  obtain⟨h2,h3⟩:=List.mem_filter.1 h1
  exact hpr ed (by simpa using h2) h3
 have hiK:i≤K:=by
  rcases hend with ⟨h1,_⟩|⟨h1,_⟩
  ·have:=C.len;omega
  ·have:=C.len;omega
 have hag:=I.agree T C hd hiK hn hp
 have hag1:Agree tmS (tms i) d.op.reads:=(Agree.append.1 hag).1
 have hwt:wants tmS d.guard=wants (tms i) d.guard:=wants_congr (Agree.append.1 hag).2
 have hlen0:∀ {x},x≤K→(sts x).lo≤(sts x).heap.length:=fun hx=>by
  have:=T.grow hgr (Nat.zero_le _) hx
  rw[T.z2] at this
  exact this.hlo hlo
 have hloK:st'.lo≤(sts K).lo:=by
  rcases hend with ⟨_,_,_,h⟩|⟨_,_,_,_,_,_,_,_,_,h⟩
  ·rw[h];exact Nat.le_refl _
  ·rw[h];exact Nat.min_le_left _ _
 have hlox:∀ {x},x≤K→st'.lo≤(sts x).lo:=fun hx=>Nat.le_trans hloK (T.grow hgr hx (Nat.le_refl _)).1
 have hholelt:∀ {x:Nat} {dx:DOper},x<K→ds[x]? = some dx→weight dx.op=3→wants (tms x) dx.guard=true→(sts (x+1)).heap.length=(sts x).heap.length+1:=by
  intro x dx hx hdx hwx hwtx
  rcases T.made hx hdx hwx with ⟨_,z,_,h,_⟩|⟨h,_⟩
  ·rw[h];simp
  ·rw[hwtx] at h;cases h
 have hholec:∀ {x:Nat} {dx:DOper},x<c→ds[x]? = some dx→weight dx.op=3→wants (tms x) dx.guard=true→(sts x).heap.length<(sts c).heap.length:=by
  intro x dx hx hdx hwx hwtx
  have h1:=hholelt (Nat.lt_of_lt_of_le hx I.cK) hdx hwx hwtx
  have h2:=(T.grow hgr (show x+1≤c by omega) I.cK).2.1
  omega
 unfold wpOpIn
 rw[ho]
 simp only
 rw[← wants_ok I.tv hgd,hwt]
 by_cases hwant:wants (tms i) d.guard=true
 ·rw[if_pos hwant]
  rcases Nat.lt_or_ge i K with hlt|hge
  · -- it runs,in the text
   rcases (T.step i d hlt hd).1 with ⟨_,st2,hs,hst,hfoi⟩|⟨h,_⟩
   ·have hs':=hs
    rw[← stepOp_congr hag1] at hs'
    have hlo2:st'.lo≤st2.lo:=by
     have:=hlox (show i+1≤K by omega)
     rw[hst] at this
     exact Nat.le_trans this (Nat.min_le_right _ _)
    by_cases h2:weight d.op=2
    · -- it writes
     have hic:=I.turn C hd hlt h2 hn hp
     subst hic
     have hopc:opC P mu o=some d.op:=by
      rcases hop with h|⟨_,_,_,_,_,h⟩
      ·exact h
      ·rw[h] at h2;cases h2
     obtain⟨_,h7⟩:=oper_ok (st:={ sts i with lo:=(sts i).heap.length }) hE hrec hopc (Nat.le_refl _) I.wr I.tv hs'
     refine h7 F n hF _ _ (fun G1 w1 u hw1 hx hv=>?_)
     have hh:(sts (i+1)).heap=st2.heap:=by rw[hst]
     rw[← hdst]
     exact I.advance T C hd hlt h2 hn hp (by rw[hh];exact hw1) (by rw[hh];exact I.ext.trans (hx.lo hlo2)) hx.pres (fun z b h=>h.ext hx) hv ((I.df.ext hx (Nat.le_refl _)).le hx.size) hgr
    ·by_cases h3:weight d.op=3
     · -- a variable
      rcases Nat.lt_or_ge i c with hic|hci
      rotate_left
      ·have hip:IsP tms c i d:=⟨hci,h3,hwant⟩
       rcases T.made hlt hd h3 with ⟨_,z,hz,_,_⟩|⟨h,_⟩
       ·have hopc:opC P mu o=some (.alloc z):=by
         rcases hop with h|⟨_,_,_,_,_,h⟩
         ·rw[h,hz]
         ·rw[h] at h3;cases h3
        obtain⟨u,t,hrun,hzu⟩:=alloc_run (a:=a) (w:=w) hopc
        refine⟨fun f _=>hF.fn f,?_⟩
        rw[Oper.semAt_eq _ _ _ (opC_defer hopc)]
        have hrun':(execOp a.eval o).run P w=_:=hrun
        rw[hrun']
        show ∃ c' G' tmS' pb',_
        rw[← hdst]
        exact I.ahead C hd hlt hn hp hip hz hzu
       ·rw[hwant] at h;cases h
      rcases T.made hlt hd h3 with ⟨_,z,hz,hhp,hvi⟩|⟨h,_⟩
      ·have hopc:opC P mu o=some (.alloc z):=by
        rcases hop with h|⟨_,_,_,_,_,h⟩
        ·rw[h,hz]
        ·rw[h] at h3;cases h3
       obtain⟨hb0,ht0⟩:=I.hole i d hic hd h3 hwant hn
       obtain⟨ex,hex⟩:=T.ext (i+1) (show i+1≤c by omega) I.cK (fun x dx h4 h5 h6 h7=>by
        have h8:=I.cD x dx h5 h6 h7
        exact hn (ordered_in I.closed (C.heavy i x d dx (by omega) hd h6 (by unfold isHeavy;simp[h3]) (by unfold isHeavy;simp[h7]) (by omega)) h8))
       have hget:(sts c).heap[(sts i).heap.length]? = some (.var z):=by rw[hex,hhp];simp
       obtain⟨u,t,hrun,hzu⟩:=alloc_run (a:=a) (w:=w) hopc
       obtain⟨k1,k2,k3⟩:=hole_ok I.wr hb0 ht0 (.var z) hget (.cells u t) (fun G' w' _ hh _=>⟨_,_,hh,hzu _ _⟩)
       refine⟨fun f _=>hF.fn f,?_⟩
       rw[Oper.semAt_eq _ _ _ (opC_defer hopc)]
       have hrun':(execOp a.eval o).run P w=_:=hrun
       rw[hrun']
       show ∃ c' G' tmS' pb',_
       rw[← hdst]
       refine I.stay C hd hlt h2 hn hp (fun h=>by have:=h.1;omega) k1 (fun x dx hx hxi hdx hwx hwtx q1 q2=>⟨?_,q2⟩) (k3 _ _ _ _ I.ext (by have:=(T.grow hgr (Nat.zero_le i) hiK).2.1;rw[T.z2] at this;exact this)) k2 (fun z b h=>h.upd (by have:=h.lt;omega) (heap_alloc_lt _ _ h.lt)) ?_ ((I.df.hole (Nat.le_refl _)).le (by rw[size_alloc];omega))
       ·show upd _ _ _ _=_
        rw[upd_ne]
        ·exact q1
        ·have e1:=hholelt (Nat.lt_of_lt_of_le hx I.cK) hdx hwx hwtx
         have e2:=hholelt hlt hd h3 hwant
         rcases Nat.lt_or_ge x i with h|h
         ·have:=(T.grow hgr (show x+1≤i by omega) hiK).2.1;omega
         ·have:=(T.grow hgr (show i+1≤x by omega) (Nat.le_trans (Nat.le_of_lt hx) I.cK)).2.1;omega
       ·rw[hvi]
        simp only[VR]
        exact⟨_,upd_same _ _ _,rfl⟩
      ·rw[hwant] at h;cases h
     · -- it does not write
      have hH:∀ {st3:St},st3.heap=(sts c).heap→stepOp E rec tmS st3 d.op=some (.val (vs i) st3):=by
       intro st3 hst3
       have hlt01:weight d.op=0∨weight d.op=1:=by
        have:weight d.op≤3:=by cases d.op <;> simp[weight]
        omega
       rcases hlt01 with h|h
       ·obtain⟨v,h4,h5⟩:=light_val h hs'
        cases h4
        exact h5 _
       ·obtain⟨v,h4,h5⟩:=look_val h hs'
        cases h4
        refine h5 _ (fun l m lo hfl=>?_)
        have hopc:opC P mu o=some d.op:=by
         rcases hop with h'|⟨_,_,_,_,_,h'⟩
         ·exact h'
         ·rw[h'] at h;cases h
        have hlc:=ld_live hopc I.wr I.tv hfl
        have hli:l<(sts i).heap.length:=look_some (st:={ sts i with lo:=(sts i).heap.length }) hs' hfl
        have hfi:fo i = .ld l:=by rw[hfoi,← foot_congr hag1 h m lo _ _,hfl];exact fine_ld'
        rw[hst3]
        show (sts c).heap[l]? = (sts i).heap[l]?
        rcases Nat.lt_or_ge i c with hic|hic
        ·refine T.same hgr hli (Nat.le_of_lt hic) I.cK (fun x dx h6 h7 h8 h9=>?_)
         refine C.free fs hfo i x d dx l (fo x) hd h8 h h9 ?_ ?_ (by rw[hfs i hlt,hfi]) (hfs x (Nat.lt_of_lt_of_le h7 I.cK))
         ·cases hor:ordered (masks pl []) i x with
          | false=>rfl
          | true=>exact absurd (ordered_in I.closed hor (I.cD x dx h7 h8 h9)) hn
         ·cases hor:ordered (masks pl []) x i with
          | false=>rfl
          | true=>have:=ordered_lt C hpl hor;omega
        ·refine (T.same hgr hlc hic hiK (fun x dx h6 h7 h8 h9=>?_)).symm
         have hx:¬ Don listed x:=by
          intro hx
          rcases I.cN with h10|⟨d',h10,h11,h12,h13⟩
          ·omega
          ·rcases Nat.lt_or_ge c x with h14|h14
           ·exact h13 (ordered_in I.closed (C.heavy c x d' dx h14 h11 h8 (by unfold isHeavy;simp[h12]) (by unfold isHeavy;simp[h9]) (by omega)) hx)
           ·have:x=c:=by omega
            subst this;exact h13 hx
         refine C.free fs hfo i x d dx l (fo x) hd h8 h h9 ?_ ?_ (by rw[hfs i hlt,hfi]) (hfs x (by omega))
         ·cases hor:ordered (masks pl []) i x with
          | false=>rfl
          | true=>have:=ordered_lt C hpl hor;omega
         ·cases hor:ordered (masks pl []) x i with
          | false=>rfl
          | true=>exact absurd (ordered_closed I.closed hor hp) hx
      have fin:∀ {G1:Gh} {w1:World} {u:Value},WR P B0 w0 G1 (sts c).heap w1→Ext G (sts c).heap w G1 (sts c).heap w1 (sts c).heap.length→VR G1 w1 (vs i) u →
        ∃ c' G' tmS' pb',Inv P B0 w0 B ds pl tm st K tms sts vs GS wS st'.lo (listed.setIfInBounds i true) (a.put o.dst u) w1 c' G' tmS' pb':=by
       intro G1 w1 u hw1 hx hv
       rw[← hdst]
       refine I.stay C hd hlt h2 hn hp (fun h=>h3 h.2.1) hw1 (fun x dx hx' hxi hdx hwx hwtx q1 q2=>⟨?_,?_⟩) (I.ext.trans (hx.lo (Nat.le_trans (hlox I.cK) (hlen0 I.cK)))) hx.pres (fun z b h=>h.ext hx) hv ((I.df.ext hx (Nat.le_refl _)).le hx.size)
       ·cases hb:G1.be (sts x).heap.length with
        | none=>rfl
        | some b=>have:=(hx.nbe hb q1).1;have:=hholec hx' hdx hwx hwtx;omega
       ·cases hb:G1.tg (sts x).heap.length with
        | none=>rfl
        | some b=>have:=(hx.ntg hb q2).1;have:=hholec hx' hdx hwx hwtx;omega
      rcases hop with hopc|⟨sz,nn,z,ps,hopc,hsh⟩
      ·obtain⟨_,h7⟩:=oper_ok (st:={ heap:=(sts c).heap,lo:=(sts c).heap.length }) hE hrec hopc (Nat.le_refl _) I.wr I.tv (hH rfl)
       exact h7 F n hF _ _ (fun G1 w1 u hw1 hx hv=>fin hw1 hx hv)
      ·have hs3:=hH (st3:={ heap:=(sts c).heap,lo:=(sts c).heap.length }) rfl
       rw[hsh] at hs3
       obtain⟨_,G1,w1,u,hrun,q1,q2,q3⟩:=ok_buildSliceS (st:={ heap:=(sts c).heap,lo:=(sts c).heap.length }) hopc I.wr I.tv hs3
       refine⟨fun f _=>hF.fn f,?_⟩
       rw[Oper.semAt_eq _ _ _ (opC_defer hopc)]
       have hrun':(execOp a.eval o).run P w=_:=hrun
       rw[hrun']
       exact fin q1 (q2 _) q3
   ·rw[hwant] at h;cases h
  · -- the panic
   have hik:i=K:=by omega
   subst hik
   rcases hend with ⟨h1,_⟩|⟨h1,d',v,st2,h2,h3,h4,h5,h6,h7⟩
   ·have:=C.len;omega
   ·rw[hd] at h2;cases h2
    have hw2:weight d.op=2:=by
     rcases stepOp_panic h4 with h|⟨x,h⟩
     ·revert h;cases d.op <;> simp[DOp.isCall,weight]
     ·rw[h];rfl
    have hopc:opC P mu o=some d.op:=by
     rcases hop with h|⟨_,_,_,_,_,h⟩
     ·exact h
     ·rw[h] at hw2;cases hw2
    have hck:c=i:=by
     rcases I.cN with h|⟨d',h8,h9,h10,h11⟩
     ·exact h
     ·exact absurd (ordered_closed I.closed (C.heavy c i d' d h8 h9 hd (by unfold isHeavy;simp[h10]) (by unfold isHeavy;simp[hw2]) (by omega)) hp) h11
    subst hck
    rw[← stepOp_congr hag1] at h4
    obtain⟨_,h8⟩:=oper_ok (st:={ sts c with lo:=(sts c).heap.length }) hE hrec hopc (Nat.le_refl _) I.wr I.tv h4
    refine h8 F n hF _ _ (fun G1 w1 u hw1 hx hv=>?_)
    have hlo2:st'.lo≤st2.lo:=by rw[h7];exact Nat.min_le_right _ _
    have hh:st'.heap=st2.heap:=by rw[h7]
    subst h5
    exact⟨G1,by rw[hh];exact hw1,by rw[hh];exact I.ext.trans (hx.lo hlo2),⟨u,rfl,hv⟩,.inl trivial,(I.df.ext hx (Nat.le_refl _)).le hx.size⟩
 · -- it is not wanted
  rw[if_neg hwant]
  refine⟨fun f _=>hF.fn f,?_⟩
  have hlt:i<K:=by
   rcases Nat.lt_or_ge i K with h|h
   ·exact h
   ·exfalso
    have hik:i=K:=by omega
    subst hik
    rcases hend with ⟨h1,_⟩|⟨h1,d',v,st2,h2,h3,_⟩
    ·have:=C.len;omega
    ·rw[hd] at h2;cases h2;exact hwant h3
  rcases (T.step i d hlt hd).1 with ⟨h,_⟩|⟨_,hvi,hst,_⟩
  ·exact absurd h hwant
  ·rw[← hdst]
   have hu:VR G w (vs i) Go.undef:=by rw[hvi];exact VR.undef
   by_cases h2:weight d.op=2
   ·have hic:=I.turn C hd hlt h2 hn hp
    subst hic
    exact I.advance T C hd hlt h2 hn hp (by rw[hst];exact I.wr) (by rw[hst];exact I.ext) (.refl _ _) (fun _ _ h=>h) hu I.df hgr
   ·exact I.stay C hd hlt h2 hn hp (fun h=>hwant h.2.2) I.wr (fun x dx _ _ _ _ _ q1 q2=>⟨q1,q2⟩) I.ext (.refl _ _) (fun _ _ h=>h) hu I.df
end
end Go.Den
end
section
namespace Go.Den
section
variable{P:Program}{B0:Nat}{w0:World}{B:Nat}{ds:List DOper}{pl:List (List Nat)}{tm:List PV}{st:St}{K:Nat}{tms:Nat→List PV}{sts:Nat→St}{vs:Nat→PV}{GS:Gh}{wS:World}{E:Env}{rec:Rec}{fo:Nat→Foot}{mu:TypeId→Bool}{ops:Array Oper}{free:List (Nat×List Nat)}
 {listed:Array Bool} {a:Act} {w:World} {c:Nat} {G:Gh} {tmS:List PV} {pb:Nat→Nat} {e:Ex} {tm':List PV} {st':St} {fs:List Foot}
theorem ready_nil(C:Checked P mu ops ds pl free)(hsz:listed.size=ds.length)(h:Region.ready .any ops listed=[]):∀ j,j<ops.size→Don listed j:=by
 intro j
 induction j using Nat.strongRecOn with
 | _ j ih =>
  intro hj
  by_cases hn:Don listed j
  ·exact hn
  ·exfalso
   have hjl:j<listed.size:=by rw[hsz,C.len];exact hj
   have:j∈Region.ready .any ops listed:=by
    refine mem_ready.2 ⟨?_,ops[j],Array.getElem?_eq_getElem hj,fun ed he hb=>?_⟩
    ·unfold Don at hn
     rw[Array.getD_eq_getD_getElem?,Array.getElem?_eq_getElem hjl] at hn ⊢
     simpa using hn
    ·have hm:ed.on∈pl.getD j []:=by
      rw[C.plOf j _ (Array.getElem?_eq_getElem hj)]
      unfold preds
      exact List.mem_map.2 ⟨ed,List.mem_filter.2 ⟨by simpa using he,hb⟩,rfl⟩
     have hlt:=C.preds j hj _ hm
     exact ih _ hlt (by omega)
   rw[h] at this
   cases this
theorem done_ok(T:Trace E rec ds tm st K tms sts vs fo)(C:Checked P mu ops ds pl free)(hend:TEnd E rec ds K tms sts e tm' st')(I:Inv P B0 w0 B ds pl tm st K tms sts vs GS wS st'.lo listed a w c G tmS pb)(hr:Region.ready .any ops listed=[]) :
  Post P B0 w0 B GS st wS e tm' st' .normal a w:=by
 have hall:=ready_nil C I.sz hr
 rcases hend with ⟨h1,h2,h3,h4⟩|⟨h1,_⟩
 ·have hcK:c=K:=by
   rcases I.cN with h|⟨d,h5,h6,h7,h8⟩
   ·exact h
   ·exact absurd (hall c (by have:=C.len;omega)) h8
  subst hcK
  subst h2
  have htm:tmS=tm':=by
   rw[h3]
   refine List.ext_getElem? (fun t=>?_)
   by_cases hwr:∃ (i:Nat) (di:DOper),ds[i]? = some di∧di.dst=some t
   ·obtain⟨i,di,hi,hd⟩:=hwr
    have hil:i<ds.length:=(List.getElem?_eq_some_iff.1 hi).1
    have uniq:∀ (x:Nat) (dx:DOper),x≠i→ds[x]? = some dx→dx.dst≠some t:=fun x dx hx hdx=>C.once i x di dx t (Ne.symm hx) hi hdx hd
    by_cases htl:t<tm.length
    ·rw[I.tn i di t (hall i (by have:=C.len;omega)) hi hd htl (fun h=>by have:=h.1;have:=C.len;omega),T.new (by omega) hi hd htl uniq (by omega) (Nat.le_refl _)]
    ·rw[List.getElem?_eq_none (by rw[I.tl];omega),List.getElem?_eq_none (by rw[T.tlen (Nat.le_refl _)];omega)]
   ·have h:∀ (x:Nat) (dx:DOper),ds[x]? = some dx→dx.dst≠some t:=fun x dx h1 h2=>hwr ⟨x,dx,h1,h2⟩
    rw[I.told t (fun x dx _ h2=>h x dx h2),T.old (Nat.le_refl _) (fun x dx _ h2=>h x dx h2)]
  exact⟨G,by rw[h4];exact I.wr,by have:=I.ext;rw[h4] at this ⊢;exact this,rfl,.inr (htm ▸ I.tv),I.df⟩
 ·exact absurd (I.SK K (hall K (by have:=C.len;omega))) (Nat.lt_irrefl _)
theorem any_ok(hE:EnvOK P E)(hgr:GrowCall rec)(hrec:SoundCall P B0 w0 rec)(T:Trace E rec ds tm st K tms sts vs fo)(C:Checked P mu ops ds pl free)(hpl:pl.length=ops.size)(hend:TEnd E rec ds K tms sts e tm' st')(hfo:footOk fs free=true)(hfs:∀ j,j<K→fs[j]? = some (fo j))(hlo:st.lo≤st.heap.length)
  {F:Fence} {n:Nat} (hF:IsWide F):∀ (fuel:Nat) {listed:Array Bool} {a:Act} {w:World} {c:Nat} {G:Gh} {tmS:List PV} {pb:Nat→Nat},Inv P B0 w0 B ds pl tm st K tms sts vs GS wS st'.lo listed a w c G tmS pb→listed.toList.count false≤fuel →
  wpAnyIn F n P .any ops (Post P B0 w0 B GS st wS e tm' st') fuel listed a w
 | 0,listed,a,w,c,G,tmS,pb,I,hc=>by
  have hr:Region.ready .any ops listed=[]:=by
   rw[List.eq_nil_iff_forall_not_mem]
   intro i hi
   obtain⟨h1,o,ho,_⟩:=mem_ready.1 hi
   have hlt:i<listed.size:=by rw[I.sz,C.len];exact (Array.getElem?_eq_some_iff.1 ho).1
   rw[Array.getD_eq_getD_getElem?,Array.getElem?_eq_getElem hlt] at h1
   have:false∈listed.toList:=by
    rw[← (show listed[i]=false by simpa using h1)]
    exact Array.mem_toList_iff.2 (Array.getElem_mem hlt)
   have:=List.count_pos_iff.2 this
   omega
  exact⟨hr,done_ok T C hend I hr⟩
 | fuel+1,listed,a,w,c,G,tmS,pb,I,hc=>by
  refine⟨fun hr=>done_ok T C hend I hr,fun i hi=>?_⟩
  refine wpOpIn_mono (fun a' w' h=>?_) (step_ok hE hgr hrec T C hpl hend hfo hfs hlo hF I hi)
  obtain⟨c',G',tmS',pb',I'⟩:=h
  refine any_ok hE hgr hrec T C hpl hend hfo hfs hlo hF fuel I' ?_
  obtain⟨h1,o,ho,_⟩:=mem_ready.1 hi
  have hlt:i<listed.size:=by rw[I.sz,C.len];exact (Array.getElem?_eq_some_iff.1 ho).1
  rw[Array.getD_eq_getD_getElem?,Array.getElem?_eq_getElem hlt] at h1
  have h2:listed[i]=false:=by simpa using h1
  rw[Array.toList_setIfInBounds,List.count_set (by simpa using hlt)]
  simp[h2]
  have:false∈listed.toList:=by rw[← h2];exact Array.mem_toList_iff.2 (Array.getElem_mem hlt)
  have:=List.count_pos_iff.2 this
  simp at this hc
  omega
theorem draw_ok(hm:P.follows .mixedOrders=true)(hE:EnvOK P E)(hgr:GrowCall rec)(hrec:SoundCall P B0 w0 rec):SoundDraw P B0 w0 E rec:=by
 intro mu id ops ds free hc tm st e tm' st' fs hs hfo hlo F n hF B G w a hw ht hd
 obtain⟨K,tms,sts,vs,fo,T,hend,hfs⟩:=trace_of hs
 have C:=checked hc
 refine wpIn_region_any hm ?_
 have hxs:∀ lo,Ext G st.heap w G st.heap { w with drawn:=w.drawn+1 } lo:=fun lo=>Ext.same rfl
 have hD:∀ i,¬ Don (Array.replicate ops.size false) i:=fun i=>by
  unfold Don
  rw[Array.getD_eq_getD_getElem?,Array.getElem?_replicate]
  split <;> simp
 have I0:Inv0 P B0 w0 B ds (ops.toList.map preds) tm st K tms sts vs G w st'.lo (Array.replicate ops.size false) a { w with drawn:=w.drawn+1 } 0 G tm (fun _=>0) :=
  ⟨by simp[C.len],fun j hj=>absurd hj (hD j),Nat.zero_le _,fun i d h5=>absurd h5 (Nat.not_lt_zero _),fun i hi=>absurd hi (hD i),by rw[T.z2];exact WR.same (w':={ w with drawn:=w.drawn+1 }) hw rfl,fun i d h5=>absurd h5 (Nat.not_lt_zero _),by rw[T.z2];exact hxs _,rfl,VRL.mono (hxs 0).pres ht,fun i d t hi=>absurd hi (hD i),fun i d t hi=>absurd hi (hD i),fun i d hi=>absurd hi (hD i),fun i j d d' hi=>absurd hi (hD i),fun t _=>rfl,hd.ext (hxs 0) (Nat.le_refl _)⟩
 obtain⟨c,G',tmS',I⟩:=I0.to T C hgr (fun x d _ _ _ _=>hD x)
 refine any_ok (fs:=fs) (free:=free) hE hgr hrec T C (by simp) hend hfo hfs hlo hF _ I ?_
 simp
end
theorem run_ok{P:Program}{B0:Nat}{w0:World}{E:Env}(hm:P.follows .mixedOrders=true)(hE:EnvOK P E)(hF:EnvFn P E)(hP:PrimOK P B0 w0 E)(hPg:PrimGrows E)(N:Nat):SoundCall P B0 w0 (run E N)∧SoundCode P B0 w0 (run E N) :=
 run_sound hE hF hP hPg (fun _ hgr hrec=>draw_ok hm hE hgr hrec) N
end Go.Den
end

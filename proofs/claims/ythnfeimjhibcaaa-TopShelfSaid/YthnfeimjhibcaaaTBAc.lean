/- Part of the proofs of laws of the package version. Texts: DenFinish, DenOpsA, DenOpsB. -/
import Derived.Test.YthnfeimjhibcaaaTBAb
import Derived.Laws.AppendOwn
import Derived.Laws.Append
import Derived.Laws.Cells
import Derived.Laws.CopyRow
import Derived.Laws.StructEq
import Derived.ChangeKeysEq
set_option linter.unusedSimpArgs false
set_option linter.unusedVariables false
section
namespace Go.Den
theorem VR.share {G w p v} (h:VR G w p v):VR G w p.share v:=by
 cases p <;> try exact h
 simp only [PV.share,VR] at h ⊢
 rcases h with ⟨b,off,cap,h1,h2,h3,_,h5⟩|⟨_,h⟩
 ·exact .inl ⟨b,off,cap,h1,h2,h3,trivial,h5⟩
 ·exact .inr ⟨trivial,h⟩
theorem VRL.share {G w}:∀ {ps:List PV} {vs:List Value},VRL G w ps vs→VRL G w (ps.map PV.share) vs
 | [],vs,h=>h
 | c::cs,vs,h=>by
  obtain ⟨v,vs',rfl,h1,h2⟩:=VRL.cons_iff.1 h
  exact VRL.cons h1.share (VRL.share h2)
theorem VRC.share {G w}:∀ {ps:List PV} {b off:Nat},VRC G w ps b off→VRC G w (ps.map PV.share) b off
 | [],_,_,_=>by simp only [List.map_nil,VRC]
 | c::cs,b,off,h=>by
  simp only [List.map_cons,VRC] at h ⊢
  obtain ⟨⟨v,h1,h2⟩,h3⟩:=h
  exact ⟨⟨v,h1,h2.share⟩,VRC.share h3⟩
structure Restr (m:Nat) (G G2:Gh):Prop where
 be:∀ {l b},l<m→G.be l=some b→G2.be l=some b
 tg:∀ {l x},l<m→G.tg l=some x→G2.tg l=some x
 cm:∀ {b n},G.cm b=some n→∃ n',n≤n'∧G2.cm b=some n'
mutual
theorem VR.restr {m G G2 w} (h:Restr m G G2):∀ {p:PV} {v:Value},p.low m=true→VR G w p v→VR G2 w p v
 | .bool b,v,_,r=>by simpa only [VR] using r
 | .int k n,v,_,r=>by simpa only [VR] using r
 | .str s,v,_,r=>by simpa only [VR] using r
 | .ptr l off,v,hl,r=>by
  simp only [VR] at r ⊢
  simp only [PV.low,decide_eq_true_eq] at hl
  obtain ⟨b,h1,h2⟩:=r
  exact ⟨b,h.be hl h1,h2⟩
 | .cptr cs,v,hl,r=>by
  simp only [VR] at r ⊢
  simp only [PV.low] at hl
  obtain ⟨b,off,h1,h2,h3⟩:=r
  refine ⟨b,off,h1,fun hne=>?_,VRC.restr h hl h3⟩
  obtain ⟨k,a1,a2⟩:=h2 hne
  obtain ⟨k',a3,a4⟩:=h.cm a1
  exact ⟨k',a4,by omega⟩
 | .nilptr,v,_,r=>by simpa only [VR] using r
 | .slice o n cs,v,hl,r=>by
  simp only [VR] at r ⊢
  rcases r with ⟨b,off,cap,h1,hc,h2,h4,h3⟩|r
  rotate_left
  ·exact .inr r
  have hl':lowL m cs=true∧(∀ t sz,o = .tag t sz→t<m):=by
   cases o with
   | shared=>simp only [PV.low] at hl;exact ⟨hl,fun _ _ e=>by cases e⟩
   | tag t sz=>simp only [PV.low,Bool.and_eq_true,decide_eq_true_eq] at hl;exact ⟨hl.2,fun _ _ e=>by cases e;exact hl.1⟩
  refine .inl ⟨b,off,cap,h1,hc,fun hne=>?_,?_,VRC.restr h hl'.1 h3⟩
  ·obtain ⟨k,a1,a2⟩:=h2 hne
   obtain ⟨k',a3,a4⟩:=h.cm a1
   exact ⟨k',a4,by omega⟩
  ·cases o with
   | shared=>trivial
   | tag t sz =>
    obtain ⟨x,q1,q2⟩:=h4
    exact ⟨x,h.tg (hl'.2 _ _ rfl) q1,q2⟩
 | .nilslice,v,_,r=>by simpa only [VR] using r
 | .hslice l sz n,v,hl,r=>by
  simp only [VR] at r ⊢
  simp only [PV.low,decide_eq_true_eq] at hl
  obtain ⟨b,e,cap,h1,h2,h3,h4⟩:=r
  exact ⟨b,e,cap,h.tg hl h1,h2,h3,h4⟩
 | .vslice l sz n,v,hl,r=>by
  simp only [VR] at r ⊢
  simp only [PV.low,decide_eq_true_eq] at hl
  obtain ⟨b,cap,h1,h2,h3⟩:=r
  exact ⟨b,cap,h.be hl h1,h2,h3⟩
 | .aptr l off,v,hl,r=>by
  simp only [VR] at r ⊢
  simp only [PV.low,decide_eq_true_eq] at hl
  obtain ⟨b,e,h1,h2⟩:=r
  exact ⟨b,e,h.tg hl h1,h2⟩
 | .map l,v,hl,r=>by
  simp only [VR] at r ⊢
  simp only [PV.low,decide_eq_true_eq] at hl
  obtain ⟨b,h1,h2⟩:=r
  exact ⟨b,h.be hl h1,h2⟩
 | .nilmap,v,_,r=>by simpa only [VR] using r
 | .func f a c,v,hl,r=>by
  simp only [VR] at r ⊢
  simp only [PV.low,Bool.and_eq_true] at hl
  obtain ⟨a',c',h1,h2,h3⟩:=r
  exact ⟨a',c',h1,VRL.restr h hl.1 h2,VRL.restr h hl.2 h3⟩
 | .nilfunc,v,_,r=>by simpa only [VR] using r
 | .yield l,v,hl,r=>by
  simp only [VR] at r ⊢
  simp only [PV.low,decide_eq_true_eq] at hl
  obtain ⟨b,h1,h2⟩:=r
  exact ⟨b,h.be hl h1,h2⟩
 | .iface t x,v,hl,r=>by
  simp only [VR] at r ⊢
  simp only [PV.low] at hl
  obtain ⟨y,h1,h2⟩:=r
  exact ⟨y,h1,VR.restr h hl h2⟩
 | .niliface,v,_,r=>by simpa only [VR] using r
 | .agg cs,v,hl,r=>by
  simp only [VR] at r ⊢
  simp only [PV.low] at hl
  obtain ⟨vs,h1,h2⟩:=r
  exact ⟨vs,h1,VRL.restr h hl h2⟩
 | .tuple cs,v,hl,r=>by
  simp only [VR] at r ⊢
  simp only [PV.low] at hl
  obtain ⟨vs,h1,h2⟩:=r
  exact ⟨vs,h1,VRL.restr h hl h2⟩
theorem VRL.restr {m G G2 w} (h:Restr m G G2):∀ {ps:List PV} {vs:List Value},lowL m ps=true→VRL G w ps vs→VRL G2 w ps vs
 | [],vs,_,r=>by simpa only [VRL] using r
 | c::cs,vs,hl,r=>by
  simp only [VRL] at r ⊢
  simp only [lowL,Bool.and_eq_true] at hl
  obtain ⟨v,vs',h1,h2,h3⟩:=r
  exact ⟨v,vs',h1,VR.restr h hl.1 h2,VRL.restr h hl.2 h3⟩
theorem VRC.restr {m G G2 w} (h:Restr m G G2):∀ {ps:List PV} {b off:Nat},lowL m ps=true→VRC G w ps b off→VRC G2 w ps b off
 | [],b,off,_,r=>by simp only [VRC]
 | c::cs,b,off,hl,r=>by
  simp only [VRC] at r ⊢
  simp only [lowL,Bool.and_eq_true] at hl
  obtain ⟨⟨v,h1,h2⟩,h3⟩:=r
  exact ⟨⟨v,h1,VR.restr h hl.1 h2⟩,VRC.restr h hl.2 h3⟩
end
section
variable {P:Program}
structure Fz (B0:Nat) (w0:World) (m:Nat) (G:Gh) (h:List HObj) (w:World) (G':Gh) (h':List HObj):Prop where
 wr:WR P B0 w0 G' h' w
 be:G'.be=G.be
 tg:G'.tg=G.tg
 cm:∀ {b n},G.cm b=some n→G'.cm b=some n
 ncm:∀ {b n},G'.cm b=some n→G.cm b=none→∃ t e,G.tg t=some (b,e)
 len:h'.length=h.length
 pre:∀ {l},l<m→h'[l]? = h[l]?
theorem Fz.pres {B0 w0 m G h w G' h'} (f:Fz (P:=P) B0 w0 m G h w G' h'):Pres G w G' w :=
 ⟨fun x=>by rw [f.be];exact x,fun x=>by rw [f.tg];exact x,fun x=>⟨_,Nat.le_refl _,f.cm x⟩,fun x=>⟨_,x,rfl⟩,fun _ _=>rfl⟩
theorem Fz.refl {B0 w0 m G h w} (r:WR P B0 w0 G h w):Fz (P:=P) B0 w0 m G h w G h:=⟨r,rfl,rfl,id,fun a b=>(by rw [a] at b;cases b),rfl,fun _=>rfl⟩
theorem Fz.trans {B0 w0 m G h w G1 h1 G2 h2} (f:Fz (P:=P) B0 w0 m G h w G1 h1) (g:Fz (P:=P) B0 w0 m G1 h1 w G2 h2):Fz (P:=P) B0 w0 m G h w G2 h2 :=
 ⟨g.wr,g.be.trans f.be,g.tg.trans f.tg,fun x=>g.cm (f.cm x),fun {b n} x y=>by
  cases hc:G1.cm b with
  | none=>rw [← f.tg];exact g.ncm x hc
  | some k=>exact f.ncm hc y,g.len.trans f.len,fun a=>(g.pre a).trans (f.pre a)⟩
theorem freeze_at {B0 w0 m G h w} (r:WR P B0 w0 G h w) {t sz n:Nat} {v:Value} {cs cs':List PV} (hh:h[t]? = some (.arr cs)) (htm:¬ t<m) (hv:VR G w (.hslice t sz n) v) (hlen:cs'.length=cs.length) (hC:∀ {b e},G.tg t=some (b,e)→VRC G w cs' b 0) :
  ∃ G',Fz (P:=P) B0 w0 m G h w G' (h.set t (.tag true))∧VR G' w (.slice (.tag t sz) n (cs'.map PV.share)) v:=by
 simp only [VR] at hv
 obtain ⟨b,e,cap,h1,rfl,h3,h4⟩:=hv
 obtain ⟨t1,t2,t3⟩:=r.tag h1
 rw [hh] at t3
 obtain ⟨c1,c2,⟨arr,T,fr,c3,c4,c5⟩,_⟩:=t3
 have c6:=hC h1
 have hll:t<h.length:=(List.getElem?_eq_some_iff.1 hh).1
 have hcne:∀ {k},k≠b→upd G.cm b (some e) k=G.cm k:=fun hk=>upd_ne _ _ hk
 have hnbe:∀ l,G.be l≠some b:=fun l x=>(r.obj x).2.2.2.1 t e h1
 have hp:Pres G w { G with cm:=upd G.cm b (some e) } w:=by
  refine ⟨id,id,fun {k n} x=>⟨n,Nat.le_refl _,?_⟩,fun x=>⟨_,x,rfl⟩,fun _ _=>rfl⟩
  show upd _ _ _ _=_
  rw [hcne]
  ·exact x
  ·intro e;subst e;rw [c1] at x;cases x
 refine ⟨{ G with cm:=upd G.cm b (some e) },⟨⟨fun {k} hk=>r.dom (by simpa using hk),fun {l b'} x=>?_,r.inj,fun {t' b' e'} x=>?_,fun {u1 u2 b' e1 e2} x y l1 l2=>?_,fun {k n} x=>?_,r.low,r.out⟩,
  rfl,rfl,fun {k n} x=>?_,fun {k n} x y=>?_,by simp,fun {l} hl=>?_⟩,?_⟩
 ·obtain ⟨a1,a2,a3,a4,o',a5,a6⟩:=r.obj x
  have hbb:b'≠b:=fun e=>hnbe l (e ▸ x)
  refine ⟨a1,a2,by show upd _ _ _ _=_;rw [hcne hbb];exact a3,a4,o',?_,a6.mono hp rfl⟩
  rw [getElem?_set' _ _ _ _ hll,if_neg]
  ·exact a5
  ·intro e2;subst e2;rw [hh] at a5;cases a5;exact a6.elim
 ·obtain ⟨a1,a2,a3⟩:=r.tag x
  refine ⟨a1,a2,?_⟩
  rw [getElem?_set' _ _ _ _ hll]
  by_cases ht:t'=t
  ·subst ht
   rw [h1] at x;cases x
   rw [if_pos rfl]
   exact ⟨upd_same _ _ _,arr,T,fr,c3,c5⟩
  ·rw [if_neg ht]
   by_cases hbb:b'=b
   ·subst hbb
    have:¬ Live h[t']? := fun hl=>ht (r.tinj x h1 hl (by rw [hh];trivial))
    match h2:h[t']? with
    | some (.tag true)=>rw [h2] at this;exact absurd trivial this
    | some (.arr cs)=>rw [h2] at this;exact absurd trivial this
    | some (.tag false)=>trivial
    | some (.var _)=>trivial
    | some (.map _)=>trivial
    | some (.loop ..)=>trivial
    | some (.iter ..)=>trivial
    | none=>trivial
   ·exact a3.mono hp (fun he=>by rw [he] at a3;show upd _ _ _ _=_;rw [hcne hbb];exact a3.1) (fun cs he=>by rw [he] at a3;exact ⟨by show upd _ _ _ _=_;rw [hcne hbb];exact a3.1,rfl⟩)
 ·have aux:∀ u:Nat,Live (h.set t (.tag true))[u]? → Live h[u]? := by
   intro u hl
   rw [getElem?_set' _ _ _ _ hll] at hl
   by_cases hu:u=t
   ·subst hu;rw [hh];trivial
   ·rwa [if_neg hu] at hl
  exact r.tinj x y (aux _ l1) (aux _ l2)
 ·have x':upd G.cm b (some e) k=some n:=x
  by_cases hk:k=b
  ·subst hk;rw [upd_same] at x';cases x';exact ⟨arr,T,fr,c3,c4⟩
  ·rw [hcne hk] at x';exact r.com x'
 ·show upd _ _ _ _=_
  rw [hcne]
  ·exact x
  ·intro e2;subst e2;rw [c1] at x;cases x
 ·have x':upd G.cm b (some e) k=some n:=x
  by_cases hk:k=b
  ·subst hk;exact ⟨t,e,h1⟩
  ·rw [hcne hk] at x';rw [x'] at y;cases y
 ·rw [getElem?_set' _ _ _ _ hll,if_neg (by omega)]
 ·simp only [VR]
  refine .inl ⟨b,0,cap,rfl,h3,fun _=>⟨e,upd_same _ _ _,by simp only [List.length_map];omega⟩,OwnR.of (by simp only [List.length_map];rw [h1,c2,hlen]) (by simpa using h4),?_⟩
  exact (c6.mono hp (fun _ _ _=>rfl)).share
theorem freeze1_ok {B0 w0 m G h w} (r:WR P B0 w0 G h w) {p:PV} {v:Value} (hv:VR G w p v) {p' h'} (hf:freeze1 m h p=(p',h')) :
  ∃ G',Fz (P:=P) B0 w0 m G h w G' h'∧VR G' w p' v:=by
 unfold freeze1 at hf
 split at hf
 ·rename_i t sz n
  split at hf
  ·cases hf;exact ⟨G,.refl r,hv⟩
  ·rename_i htm
   split at hf
   ·rename_i cs hh
    split at hf
    ·cases hf
     exact freeze_at r hh htm hv rfl (fun hb=>by
      obtain ⟨_,_,t3⟩:=r.tag hb
      rw [hh] at t3
      exact t3.2.2.2)
    ·cases hf;exact ⟨G,.refl r,hv⟩
   ·cases hf;exact ⟨G,.refl r,hv⟩
 ·cases hf;exact ⟨G,.refl r,hv⟩
theorem freezeL_ok {B0 w0 m}:∀ {ps:List PV} {vs:List Value} {G h w} (_:WR P B0 w0 G h w) (_:VRL G w ps vs) {ps' h'} (_:freezeL m h ps=(ps',h')),
  ∃ G',Fz (P:=P) B0 w0 m G h w G' h'∧VRL G' w ps' vs
 | [],vs,G,h,w,r,hv,ps',h',hf=>by
  simp only [freezeL] at hf;cases hf
  exact ⟨G,.refl r,hv⟩
 | p::ps,vs,G,h,w,r,hv,ps',h',hf=>by
  obtain ⟨v,vs',rfl,h1,h2⟩:=VRL.cons_iff.1 hv
  simp only [freezeL] at hf
  generalize hx:freeze1 m h p=x at hf
  obtain ⟨p1,hh1⟩:=x
  simp only at hf
  generalize hy:freezeL m hh1 ps=y at hf
  obtain ⟨ps1,hh2⟩:=y
  simp only at hf
  cases hf
  obtain ⟨G1,f1,r1⟩:=freeze1_ok r h1 hx
  obtain ⟨G2,f2,r2⟩:=freezeL_ok f1.wr (h2.mono f1.pres) hy
  exact ⟨G2,f1.trans f2,VRL.cons (r1.mono f2.pres) r2⟩
theorem freezeC_ok {B0 w0 m}:∀ {ps:List PV} {b off:Nat} {G h w} (_:WR P B0 w0 G h w) (_:VRC G w ps b off) {ps' h'} (_:freezeL m h ps=(ps',h')),
  ∃ G',Fz (P:=P) B0 w0 m G h w G' h'∧VRC G' w ps' b off∧ps'.length=ps.length
 | [],b,off,G,h,w,r,hv,ps',h',hf=>by
  simp only [freezeL] at hf;cases hf
  exact ⟨G,.refl r,by simp only [VRC],rfl⟩
 | p::ps,b,off,G,h,w,r,hv,ps',h',hf=>by
  simp only [VRC] at hv
  obtain ⟨⟨v,h1,h1'⟩,h2⟩:=hv
  simp only [freezeL] at hf
  generalize hx:freeze1 m h p=x at hf
  obtain ⟨p1,hh1⟩:=x
  simp only at hf
  generalize hy:freezeL m hh1 ps=y at hf
  obtain ⟨ps1,hh2⟩:=y
  simp only at hf
  cases hf
  obtain ⟨G1,f1,r1⟩:=freeze1_ok r h1' hx
  obtain ⟨G2,f2,r2,r3⟩:=freezeC_ok f1.wr (h2.mono f1.pres (fun _ _ _=>rfl)) hy
  refine ⟨G2,f1.trans f2,?_,by simp [r3]⟩
  simp only [VRC]
  exact ⟨⟨v,h1,r1.mono f2.pres⟩,r2⟩
theorem freeze2_ok {B0 w0 m G h w} (r:WR P B0 w0 G h w) {p:PV} {v:Value} (hv:VR G w p v) {p' h'} (hf:freeze2 m h p=(p',h')) :
  ∃ G',Fz (P:=P) B0 w0 m G h w G' h'∧VR G' w p' v:=by
 unfold freeze2 at hf
 split at hf
 ·rename_i t sz n
  split at hf
  ·cases hf;exact ⟨G,.refl r,hv⟩
  ·rename_i htm
   split at hf
   ·rename_i cs hh
    split at hf
    ·generalize hx:freezeL m h cs=x at hf
     obtain ⟨cs',h1⟩:=x
     simp only at hf
     split at hf
     ·rename_i cs1 hh1
      cases hf
      have hv0:=hv
      simp only [VR] at hv
      obtain ⟨b,e,cap,a1,_⟩:=hv
      obtain ⟨_,_,t3⟩:=r.tag a1
      rw [hh] at t3
      obtain ⟨G1,f1,r1,r2⟩:=freezeC_ok r t3.2.2.2 hx
      have a1':G1.tg t=some (b,e):=by rw [f1.tg];exact a1
      obtain ⟨_,_,t4⟩:=f1.wr.tag a1'
      rw [hh1] at t4
      have q1:=t3.2.1
      have q2:=t4.2.1
      obtain ⟨G2,f2,r3⟩:=freeze_at (m:=m) f1.wr hh1 htm (hv0.mono f1.pres) (cs':=cs') (by omega) (fun hb=>by rw [a1'] at hb;cases hb;exact r1)
      exact ⟨G2,f1.trans f2,r3⟩
     ·cases hf;exact ⟨G,.refl r,hv⟩
    ·cases hf;exact ⟨G,.refl r,hv⟩
   ·cases hf;exact ⟨G,.refl r,hv⟩
 ·cases hf;exact ⟨G,.refl r,hv⟩
theorem freeze2L_ok {B0 w0 m}:∀ {ps:List PV} {vs:List Value} {G h w} (_:WR P B0 w0 G h w) (_:VRL G w ps vs) {ps' h'} (_:freeze2L m h ps=(ps',h')),
  ∃ G',Fz (P:=P) B0 w0 m G h w G' h'∧VRL G' w ps' vs
 | [],vs,G,h,w,r,hv,ps',h',hf=>by
  simp only [freeze2L] at hf;cases hf
  exact ⟨G,.refl r,hv⟩
 | p::ps,vs,G,h,w,r,hv,ps',h',hf=>by
  obtain ⟨v,vs',rfl,h1,h2⟩:=VRL.cons_iff.1 hv
  simp only [freeze2L] at hf
  generalize hx:freeze2 m h p=x at hf
  obtain ⟨p1,hh1⟩:=x
  simp only at hf
  generalize hy:freeze2L m hh1 ps=y at hf
  obtain ⟨ps1,hh2⟩:=y
  simp only at hf
  cases hf
  obtain ⟨G1,f1,r1⟩:=freeze2_ok r h1 hx
  obtain ⟨G2,f2,r2⟩:=freeze2L_ok f1.wr (h2.mono f1.pres) hy
  exact ⟨G2,f1.trans f2,VRL.cons (r1.mono f2.pres) r2⟩
structure Seen (h:List HObj) (m:Nat) (S:List Nat):Prop where
 nodup:S.Nodup
 all:∀ t,t∈S→m≤t∧h[t]? = some (.tag true)
def cut (m:Nat) (G Gf:Gh) (S:List Nat):Gh:={ be:=G.be,tg:=fun l=>if l<m then G.tg l else (S[l - m]?).bind Gf.tg,cm:=Gf.cm }
theorem retag1_ok {h:List HObj} {m:Nat} {G Gf:Gh} {w:World} {S:List Nat} (hS:Seen h m S) (hr:∀ S,Restr m Gf (cut m G Gf S)) {p:PV} {v:Value} (hv:VR Gf w p v) {p' S'} (he:retag1 h m S p=some (p',S')) :
  Seen h m S'∧S <+: S'∧∀ S2,S' <+: S2→VR (cut m G Gf S2) w p' v:=by
 have other:p.low m=true→∀ S2,VR (cut m G Gf S2) w p v:=fun hl S2=>VR.restr (hr S2) hl hv
 unfold retag1 at he
 split at he
 ·rename_i t sz n cs
  split at he
  ·rename_i hlow
   have shared:∀ S2,VR (cut m G Gf S2) w (.slice .shared n cs) v:=by
    intro S2
    have:VR Gf w (PV.slice .shared n cs) v:=hv.share
    exact VR.restr (hr S2) (by simp only [PV.low];exact hlow) this
   split at he
   ·rename_i htm
    cases he
    exact ⟨hS,List.prefix_refl _,fun S2 _=>other (by simp only [PV.low,Bool.and_eq_true,decide_eq_true_eq];exact ⟨htm,hlow⟩) S2⟩
   ·rename_i htm
    split at he
    ·rename_i hh
     split at he
     ·cases he;exact ⟨hS,List.prefix_refl _,fun S2 _=>shared S2⟩
     ·rename_i hcon
      cases he
      refine ⟨⟨?_,?_⟩,⟨[t],rfl⟩,fun S2 hp=>?_⟩
      ·rw [List.nodup_append]
       refine ⟨hS.nodup,by simp,fun a ha b hb=>?_⟩
       simp at hb;subst hb
       intro e;subst e
       exact hcon (by simpa using ha)
      ·intro t' ht'
       rcases List.mem_append.1 ht' with h1|h1
       ·exact hS.all _ h1
       ·simp at h1;subst h1;exact ⟨by omega,hh⟩
      ·have h1:=shared S2
       simp only [VR] at h1 hv ⊢
       rcases hv with ⟨b',off',cap',c1,c2,c3,c4,c5⟩|⟨e,_⟩
       rotate_left
       ·cases e
       obtain ⟨b,off,cap,a1,a2,a3,a5⟩:∃ b off cap,v = .slice (some ⟨b,off,none⟩) n cap∧n≤cap∧(cs≠[]→∃ k,(cut m G Gf S2).cm b=some k∧off+cs.length≤k)∧VRC (cut m G Gf S2) w cs b off:=by
        rcases h1 with ⟨b,off,cap,a1,a2,a3,_,a5⟩|⟨_,_,cs0,_⟩
        ·exact ⟨b,off,cap,a1,a2,a3,a5⟩
        ·exact ⟨b',off',cap',c1,c2,fun hne=>absurd cs0 hne,by subst cs0;simp only [VRC]⟩
       rw [a1] at c1;cases c1
       obtain ⟨x,q1,q2⟩:=c4
       refine .inl ⟨_,_,_,a1,a2,a3,⟨x,?_,q2⟩,a5⟩
       show (if m+S.length<m then _ else _)=_
       rw [if_neg (by omega)]
       have:S2[m+S.length - m]? = some t:=by
        obtain ⟨q,rfl⟩:=hp
        rw [show m+S.length - m=S.length from by omega,List.append_assoc,List.getElem?_append_right (Nat.le_refl _)]
        simp
       rw [this]
       exact q1
    ·cases he;exact ⟨hS,List.prefix_refl _,fun S2 _=>shared S2⟩
  ·cases he
 ·split at he
  ·rename_i hl
   cases he
   exact ⟨hS,List.prefix_refl _,fun S2 _=>other hl S2⟩
  ·cases he
theorem retagL_ok {h:List HObj} {m:Nat} {G Gf:Gh} {w:World} (hr:∀ S,Restr m Gf (cut m G Gf S)):∀ {ps:List PV} {vs:List Value} {S:List Nat} (_:Seen h m S) (_:VRL Gf w ps vs) {ps' S'} (_:retagL h m S ps=some (ps',S')),
  Seen h m S'∧S <+: S'∧∀ S2,S' <+: S2→VRL (cut m G Gf S2) w ps' vs
 | [],vs,S,hS,hv,ps',S',he=>by
  simp only [retagL] at he;cases he
  exact ⟨hS,List.prefix_refl _,fun _ _=>by rw [VRL.nil_iff.1 hv];exact VRL.nil_iff.2 rfl⟩
 | p::ps,vs,S,hS,hv,ps',S',he=>by
  obtain ⟨v,vs',rfl,h1,h2⟩:=VRL.cons_iff.1 hv
  simp only [retagL] at he
  split at he
  ·rename_i p1 s1 hx
   split at he
   ·rename_i ps1 s2 hy
    cases he
    obtain ⟨a1,a2,a3⟩:=retag1_ok hS hr h1 hx
    obtain ⟨b1,b2,b3⟩:=retagL_ok hr a1 h2 hy
    exact ⟨b1,a2.trans b2,fun S2 hp=>VRL.cons (a3 S2 (b2.trans hp)) (b3 S2 hp)⟩
   ·cases he
  ·cases he
theorem cut_ok {B0 w0 G h w G1 h1 w1 lo Gf hf S} (r:WR P B0 w0 G h w) (x:Ext G h w G1 h1 w1 lo) (hlo:h.length≤lo) (f:Fz (P:=P) B0 w0 h.length G1 h1 w1 Gf hf) (hS:Seen hf h.length S) :
  WR P B0 w0 (cut h.length G Gf S) (h++List.replicate S.length (.tag true)) w1∧∀ lo',Ext G h w (cut h.length G Gf S) (h++List.replicate S.length (.tag true)) w1 lo':=by
 have hbelt:∀ {l b},G.be l=some b→l<h.length:=fun {l b} hb=>by
  rcases Nat.lt_or_ge l h.length with h'|h'
  ·exact h'
  ·rw [(r.dom h').1] at hb;cases hb
 have htglt:∀ {l b},G.tg l=some b→l<h.length:=fun {l b} hb=>by
  rcases Nat.lt_or_ge l h.length with h'|h'
  ·exact h'
  ·rw [(r.dom h').2] at hb;cases hb
 have hp:Pres G w (cut h.length G Gf S) w1:=by
  have hp1:=x.pres.trans f.pres
  refine ⟨id,fun {l y} hx=>?_,hp1.cm,hp1.row,hp1.data⟩
  show (if l<h.length then _ else _)=_
  rw [if_pos (htglt hx)];exact hx
 have htg:∀ {t b e},(cut h.length G Gf S).tg t=some (b,e)→∃ t0,Gf.tg t0=some (b,e)∧((t<h.length∧t0=t∧G.tg t=some (b,e))∨(h.length≤t∧S[t - h.length]? = some t0)):=by
  intro t b e hx
  have hx':(if t<h.length then G.tg t else (S[t - h.length]?).bind Gf.tg)=some (b,e):=hx
  split at hx'
  ·rename_i hlt
   exact ⟨t,by rw [f.tg];exact x.pres.tg hx',.inl ⟨hlt,rfl,hx'⟩⟩
  ·rename_i hlt
   obtain ⟨t0,h1,h2⟩:=Option.bind_eq_some_iff.1 hx'
   exact ⟨t0,h2,.inr ⟨by omega,h1⟩⟩
 have hfpre:∀ {l:Nat},l<h.length→hf[l]? = h[l]? := fun hl=>(f.pre hl).trans (x.pre (by omega) hl)
 have hget:∀ {l:Nat},l<h.length→(h++List.replicate S.length (HObj.tag true))[l]? = h[l]? := fun hl=>List.getElem?_append_left hl
 refine ⟨⟨fun {l} hl=>?_,fun {l b} y=>?_,r.inj,fun {t b e} y=>?_,fun {t t' b e e'} y z l1 l2=>?_,fun y=>f.wr.com y,f.wr.low,f.wr.out⟩,fun lo'=>⟨hp,by simp,fun {l} _ hl=>hget hl,x.size,fun a b c d=>x.frame a b c d,fun {l b} _ hb=>x.keep (by have:=hbelt hb;omega) hb,
  fun {t b e cs} _ a c=>x.keepT (by have:=htglt a;omega) a c,x.loops,fun {l b} a c=>(by have a':G.be l=_:=a;rw [a'] at c;cases c),fun {t b e} a c=>?_,fun {b k} a c=>?_⟩⟩
 ·simp at hl
  refine ⟨(r.dom (by omega)).1,?_⟩
  show (if l<h.length then _ else _)=_
  rw [if_neg (by omega),List.getElem?_eq_none (by omega)]
  rfl
 ·have y':G.be l=some b:=y
  obtain ⟨a1,a2,a3,a4,o,a5,a6⟩:=r.obj y'
  have hl:=hbelt y'
  have yf:Gf.be l=some b:=by rw [f.be];exact x.pres.be y'
  obtain ⟨c1,c2,c3,c4,_⟩:=f.wr.obj yf
  refine ⟨a1,c2,c3,fun t e hx=>?_,o,by rw [hget hl];exact a5,a6.mono hp (x.keep (by omega) y')⟩
  obtain ⟨t0,h1,_⟩:=htg hx
  exact c4 _ _ h1
 ·obtain ⟨t0,h1,h2⟩:=htg y
  obtain ⟨c1,c2,c3⟩:=f.wr.tag h1
  refine ⟨c1,c2,?_⟩
  rcases h2 with ⟨hl,rfl,hg⟩|⟨hl,hs⟩
  ·rw [hget hl]
   rw [hfpre hl] at c3
   obtain ⟨_,_,d3⟩:=r.tag hg
   refine d3.mono hp (fun he=>by rw [he] at c3;exact c3.1) (fun cs he=>?_)
   rw [he] at c3
   exact ⟨c3.1,x.keepT (by omega) hg he⟩
  ·have hlt:t - h.length<S.length:=(List.getElem?_eq_some_iff.1 hs).1
   rw [List.getElem?_append_right hl,List.getElem?_replicate,if_pos hlt]
   have:=(hS.all t0 (List.mem_of_getElem? hs)).2
   rw [this] at c3
   exact c3
 ·obtain ⟨u,h1,h2⟩:=htg y
  obtain ⟨u',h1',h2'⟩:=htg z
  have live:∀ {t u:Nat},Live (h++List.replicate S.length (HObj.tag true))[t]? → ((t<h.length∧u=t∧G.tg t=some (b,e))∨(h.length≤t∧S[t - h.length]? = some u))→Live hf[u]? := by
   intro t u hl hc
   rcases hc with ⟨ha,rfl,_⟩|⟨_,hs⟩
   ·rw [hget ha] at hl;rw [hfpre ha];exact hl
   ·rw [(hS.all u (List.mem_of_getElem? hs)).2];trivial
  have live':∀ {t u:Nat},Live (h++List.replicate S.length (HObj.tag true))[t]? → ((t<h.length∧u=t∧G.tg t=some (b,e'))∨(h.length≤t∧S[t - h.length]? = some u))→Live hf[u]? := by
   intro t u hl hc
   rcases hc with ⟨ha,rfl,_⟩|⟨_,hs⟩
   ·rw [hget ha] at hl;rw [hfpre ha];exact hl
   ·rw [(hS.all u (List.mem_of_getElem? hs)).2];trivial
  have hu:=f.wr.tinj h1 h1' (live l1 h2) (live' l2 h2')
  subst hu
  rcases h2 with ⟨ha,rfl,_⟩|⟨ha,hs⟩ <;> rcases h2' with ⟨ha',hb',_⟩|⟨ha',hs'⟩
  ·omega
  ·have:=(hS.all _ (List.mem_of_getElem? hs')).1;omega
  ·have:=(hS.all _ (List.mem_of_getElem? hs)).1;omega
  ·have h3:t - h.length<S.length:=(List.getElem?_eq_some_iff.1 hs).1
   have h4:t' - h.length<S.length:=(List.getElem?_eq_some_iff.1 hs').1
   have:t - h.length=t' - h.length:=by
    have e1:S[t - h.length]=S[t' - h.length]:=by
     have:=List.getElem?_eq_getElem h3
     have:=List.getElem?_eq_getElem h4
     simp_all
    have hn:=List.pairwise_iff_getElem.1 hS.nodup
    rcases Nat.lt_trichotomy (t - h.length) (t' - h.length) with h5|h5|h5
    ·exact absurd e1 (hn _ _ h3 h4 h5)
    ·exact h5
    ·exact absurd e1.symm (hn _ _ h4 h3 h5)
   omega
 ·obtain ⟨t0,h1,h2⟩:=htg a
  rw [f.tg] at h1
  rcases h2 with ⟨ha,rfl,hg⟩|⟨ha,hs⟩
  ·rw [hg] at c;cases c
  ·refine ⟨ha,?_⟩
   have:=(hS.all _ (List.mem_of_getElem? hs)).1
   exact (x.ntg h1 (r.dom this).2).2
 ·have a':Gf.cm b=some k:=a
  cases hc:G1.cm b with
  | some k'=>exact x.ncm hc c
  | none =>
   obtain ⟨t,e,ht⟩:=f.ncm a' hc
   cases hg:G.tg t with
   | none=>exact (x.ntg ht hg).2
   | some y=>have:=x.pres.tg hg;rw [ht] at this;cases this;exact .inr ⟨_,_,hg⟩
theorem restr_cut {B0 w0 G h w G1 h1 w1 lo Gf hf} (_:WR P B0 w0 G h w) (x:Ext G h w G1 h1 w1 lo) (f:Fz (P:=P) B0 w0 h.length G1 h1 w1 Gf hf) (S:List Nat):Restr h.length Gf (cut h.length G Gf S):=by
 refine ⟨fun {l b} hl hb=>?_,fun {l y} hl hb=>?_,fun hb=>⟨_,Nat.le_refl _,hb⟩⟩
 ·rw [f.be] at hb
  cases hc:G.be l with
  | none=>have:=(x.nbe hb hc).1;omega
  | some b'=>have:=x.pres.be hc;rw [hb] at this;cases this;exact hc
 ·rw [f.tg] at hb
  show (if l<h.length then _ else _)=_
  rw [if_pos hl]
  cases hc:G.tg l with
  | none=>obtain ⟨b,e⟩:=y;have:=(x.ntg hb hc).1;omega
  | some b'=>have:=x.pres.tg hc;rw [hb] at this;cases this;rfl
theorem finish_ok {B0 w0 G w G1 w1} {st st1:St} (r:WR P B0 w0 G st.heap w) (r1:WR P B0 w0 G1 st1.heap w1) (x:Ext G st.heap w G1 st1.heap w1 st1.lo) (hlo:st1.lo≤st.heap.length)
  {p:PV} {v:Value} (hv:VR G1 w1 p v) {p' st'} (he:finishCall st st1 p=(p',st')) (hdom:st.lo≤st.heap.length) :
  ∃ G2,WR P B0 w0 G2 st'.heap w1∧Ext G st.heap w G2 st'.heap w1 st'.lo∧VR G2 w1 p' v∧st'.lo≤st.lo:=by
 unfold finishCall at he
 split at he
 ·rename_i hle
  have hnil:∀ h,Seen h st.heap.length []:=fun h=>⟨by simp,by simp⟩
  cases hg:letGo st.heap.length st1.heap p with
  | none =>
   rw [hg] at he
   cases hg2:letGo2 st.heap.length st1.heap p with
   | none =>
    rw [hg2] at he
    cases he
    exact ⟨G1,r1,x.lo (show st.lo≤st1.lo by omega),hv,Nat.le_refl _⟩
   | some q =>
    obtain ⟨q1,k⟩:=q
    rw [hg2] at he
    cases he
    unfold letGo2 at hg2
    split at hg2
    ·rename_i vs
     simp only [VR] at hv
     obtain ⟨us,rfl,h1⟩:=hv
     generalize hx:freeze2L st.heap.length st1.heap vs=y at hg2
     obtain ⟨vs',hf⟩:=y
     simp only at hg2
     cases hy:retagL hf st.heap.length [] vs' with
     | none=>rw [hy] at hg2;cases hg2
     | some z =>
      obtain ⟨ws,S⟩:=z
      rw [hy] at hg2
      cases hg2
      obtain ⟨Gf,f,h4⟩:=freeze2L_ok r1 h1 hx
      obtain ⟨a,_,b⟩:=retagL_ok (G:=G) (fun S=>restr_cut r x f S) (hnil hf) h4 hy
      obtain ⟨a',b'⟩:=cut_ok r x hle f a
      exact ⟨_,a',b' _,by simp only [VR];exact ⟨us,rfl,b S (List.prefix_refl _)⟩,Nat.le_refl _⟩
    ·cases hg2
  | some q =>
   obtain ⟨q1,k⟩:=q
   rw [hg] at he
   cases he
   have fin:∀ {Gf hf S},Fz (P:=P) B0 w0 st.heap.length G1 st1.heap w1 Gf hf→Seen hf st.heap.length S→VR (cut st.heap.length G Gf S) w1 p' v→S.length=k →
     ∃ G2,WR P B0 w0 G2 (st.heap++List.replicate k (.tag true)) w1∧Ext G st.heap w G2 (st.heap++List.replicate k (.tag true)) w1 st.lo∧VR G2 w1 p' v∧st.lo≤st.lo:=by
    intro Gf hf S f hS hv' hk
    subst hk
    obtain ⟨a,b⟩:=cut_ok r x hle f hS
    exact ⟨_,a,b _,hv',Nat.le_refl _⟩
   have list:∀ (vs:List PV) (us:List Value),VRL G1 w1 vs us→∀ {vs' hf},freezeL st.heap.length st1.heap vs=(vs',hf)→∀ {ws S},retagL hf st.heap.length [] vs'=some (ws,S) →
     ∃ Gf,Fz (P:=P) B0 w0 st.heap.length G1 st1.heap w1 Gf hf∧Seen hf st.heap.length S∧VRL (cut st.heap.length G Gf S) w1 ws us:=by
    intro vs us h1 vs' hf h2 ws S h3
    obtain ⟨Gf,f,h4⟩:=freezeL_ok r1 h1 h2
    obtain ⟨a,_,b⟩:=retagL_ok (G:=G) (fun S=>restr_cut r x f S) (hnil hf) h4 h3
    exact ⟨Gf,f,a,b S (List.prefix_refl _)⟩
   have one:∀ {q h1},freeze1 st.heap.length st1.heap p=(q,h1)→∀ {q' S},retag1 h1 st.heap.length [] q=some (q',S)→q'=p'→S.length=k →
     ∃ G2,WR P B0 w0 G2 (st.heap++List.replicate k (.tag true)) w1∧Ext G st.heap w G2 (st.heap++List.replicate k (.tag true)) w1 st.lo∧VR G2 w1 p' v∧st.lo≤st.lo:=by
    intro q h1 h2 q' S h3 h4 h5
    subst h4
    obtain ⟨Gf,f,h6⟩:=freeze1_ok r1 hv h2
    obtain ⟨a,_,b⟩:=retag1_ok (G:=G) (hnil h1) (fun S=>restr_cut r x f S) h6 h3
    exact fin f a (b S (List.prefix_refl _)) h5
   unfold letGo at hg
   split at hg
   ·rename_i vs
    simp only [VR] at hv
    obtain ⟨us,rfl,h1⟩:=hv
    generalize hx:freezeL st.heap.length st1.heap vs=y at hg
    obtain ⟨vs',hf⟩:=y
    simp only at hg
    cases hy:retagL hf st.heap.length [] vs' with
    | none=>rw [hy] at hg;cases hg
    | some z =>
     obtain ⟨ws,S⟩:=z
     rw [hy] at hg
     cases hg
     obtain ⟨Gf,f,a,b⟩:=list vs us.toList h1 hx hy
     exact fin f a (by simp only [VR];exact ⟨us,rfl,b⟩) rfl
   ·rename_i vs
    simp only [VR] at hv
    obtain ⟨us,rfl,h1⟩:=hv
    generalize hx:freezeL st.heap.length st1.heap vs=y at hg
    obtain ⟨vs',hf⟩:=y
    simp only at hg
    cases hy:retagL hf st.heap.length [] vs' with
    | none=>rw [hy] at hg;cases hg
    | some z =>
     obtain ⟨ws,S⟩:=z
     rw [hy] at hg
     cases hg
     obtain ⟨Gf,f,a,b⟩:=list vs us.toList h1 hx hy
     exact fin f a (by simp only [VR];exact ⟨us,rfl,b⟩) rfl
   ·generalize hx:freeze1 st.heap.length st1.heap p=y at hg
    obtain ⟨q,h1⟩:=y
    simp only at hg
    cases hy:retag1 h1 st.heap.length [] q with
    | none=>rw [hy] at hg;cases hg
    | some z =>
     obtain ⟨q',S⟩:=z
     rw [hy] at hg
     cases hg
     exact one hx hy rfl rfl
 ·cases he
  exact ⟨G1,r1,x.lo (Nat.min_le_right _ _),hv,Nat.min_le_left _ _⟩
end
end Go.Den
end
section
namespace Go.Den
section
variable {P : Program}
theorem cell0_ok {G w} : ∀ {v : Value} {p : PV}, cell0 v = some p → VR G w p v := by
  intro v p h
  unfold cell0 at h
  split at h <;> first | (cases h; simp only [VR]) | cases h
theorem cells0_ok {G w} : ∀ {vs : List Value} {ps : List PV}, cells0 vs = some ps → VRL G w ps vs
  | [], ps, h => by simp only [cells0] at h; cases h; exact VRL.nil_iff.2 rfl
  | v :: vs, ps, h => by
    simp only [cells0] at h
    split at h
    · rename_i p ps' h1 h2
      cases h
      exact VRL.cons (cell0_ok h1) (cells0_ok h2)
    · cases h
theorem const0_ok {G w} {v : Value} {p : PV} (h : const0 v = some p) : VR G w p v := by
  unfold const0 at h
  split at h
  · rename_i cs
    obtain ⟨ps, h1, h2⟩ := Option.map_eq_some_iff.1 h
    subst h2
    simp only [VR]
    exact ⟨_, rfl, cells0_ok h1⟩
  · exact cell0_ok h
theorem opd_ok {G w} {tm : List PV} {a : Act} (ht : VRL G w tm a.tmps.toList) {x : Operand} {d : Opd} (h : opd x = some d) : VR G w (d.ev tm) (a.eval x) := by
  unfold opd at h
  split at h
  · rename_i t
    cases h
    have := ht.getD t
    simp only [Opd.ev, Act.eval]
    have e : a.tmps.getD t Go.undef = a.tmps.toList.getD t Go.undef := by
      simp [Array.getD_eq_getD_getElem?, List.getD_eq_getElem?_getD]
    rw [e]
    exact this
  · rename_i v
    obtain ⟨p, h1, h2⟩ := Option.map_eq_some_iff.1 h
    subst h2
    exact const0_ok h1
  · cases h
    simp only [Opd.ev, Act.eval, VR]
    exact ⟨#[], #[], rfl, VRL.nil_iff.2 rfl, VRL.nil_iff.2 rfl⟩
  · cases h
theorem opds_ok {G w} {tm : List PV} {a : Act} (ht : VRL G w tm a.tmps.toList) : ∀ {xs : List Operand} {ds : List Opd}, opds xs = some ds → VRL G w (evs tm ds) (xs.map a.eval)
  | [], ds, h => by simp only [opds] at h; cases h; exact VRL.nil_iff.2 rfl
  | x :: xs, ds, h => by
    simp only [opds] at h
    split at h
    · rename_i p ps' h1 h2
      cases h
      exact VRL.cons (opd_ok ht h1) (opds_ok ht h2)
    · cases h
theorem VRC.of_row {G w} {b : Nat} {arr : Array Value} {T : TypeId} {fr : Nat × Nat} (hw : w.heap[b]? = some (Obj.cells arr T fr)) : ∀ {cs : List PV} {off : Nat} {vs : List Value}, VRL G w cs vs → (∀ j v, vs[j]? = some v → arr[off + j]? = some v) → VRC G w cs b off
  | [], off, vs, _, _ => by simp only [VRC]
  | c :: cs, off, vs, h, hv => by
    obtain ⟨v, vs', rfl, h1, h2⟩ := VRL.cons_iff.1 h
    simp only [VRC]
    refine ⟨⟨v, ?_, h1⟩, VRC.of_row hw h2 (fun j u hu => ?_)⟩
    · rw [cell_row hw]
      exact hv 0 v rfl
    · have := hv (j + 1) u (by simpa using hu)
      rw [← this]
      congr 1
      omega
theorem VRC.drop {G w b} : ∀ {cs : List PV} {off : Nat} (k : Nat), VRC G w cs b off → k ≤ cs.length → VRC G w (cs.drop k) b (off + k)
  | cs, off, 0, h, _ => by simpa using h
  | [], off, k + 1, h, hk => by simp at hk
  | c :: cs, off, k + 1, h, hk => by
    simp only [VRC] at h
    have := VRC.drop (cs := cs) (off := off + 1) k h.2 (by simpa using hk)
    simpa [Nat.add_assoc, Nat.add_comm 1 k] using this
theorem VRC.take {G w b} : ∀ {cs : List PV} {off : Nat} (k : Nat), VRC G w cs b off → VRC G w (cs.take k) b off
  | cs, off, 0, h => by simp only [List.take_zero, VRC]
  | [], off, k + 1, h => by simp only [List.take_nil, VRC]
  | c :: cs, off, k + 1, h => by
    simp only [VRC] at h
    simp only [List.take_succ_cons, VRC]
    exact ⟨h.1, VRC.take k h.2⟩
theorem VRC.vals {G w b} : ∀ {cs : List PV} {off : Nat}, VRC G w cs b off → ∃ vs : List Value, VRL G w cs vs ∧ ∀ j v, vs[j]? = some v → w.cell? ((⟨b, off, none⟩ : Addr).add j) = some v
  | [], off, _ => ⟨[], VRL.nil_iff.2 rfl, fun j v h => by simp at h⟩
  | c :: cs, off, h => by
    simp only [VRC] at h
    obtain ⟨⟨v, h1, h2⟩, h3⟩ := h
    obtain ⟨vs, h4, h5⟩ := VRC.vals h3
    refine ⟨v :: vs, VRL.cons h2 h4, fun j u hu => ?_⟩
    cases j with
    | zero => simp at hu; subst hu; rw [Addr.add_lit]; simpa using h1
    | succ j =>
      have := h5 j u (by simpa using hu)
      rw [Addr.add_lit] at this ⊢
      rw [show off + (j + 1) = off + 1 + j from by omega]
      exact this
theorem isAgg_run {t : TypeId} (h : okT P t = true) (w : World) : (isAgg t).run P w = .ok (aggT P t) w := by
  unfold okT at h
  simp only [Bool.and_eq_true] at h
  obtain ⟨d, hd⟩ := Option.isSome_iff_exists.1 h.1
  unfold isAgg aggT
  simp only [Sem.run_bind, run_underlying hd, Result.andThen_ok, hd]
  cases d <;> rfl
theorem sizeOf_run {t : TypeId} {s : Nat} (h : sizeT P t = some s) (w : World) : (sizeOf t).run P w = .ok s w := by
  obtain ⟨i, h1, h2⟩ := Option.map_eq_some_iff.1 h
  subst h2
  unfold sizeOf
  simp [run_typeInfo w h1]
theorem loadVar_ok {G w} {t : TypeId} {s b off : Nat} {cs : List PV} {p : PV} (ht : okT P t = true) (hs : sizeT P t = some s) (h : VRC G w cs b off) (hr : rdPart (aggT P t) s cs = some p) :
    ∃ v, (loadVar t ⟨b, off, none⟩).run P w = .ok v w ∧ VR G w p v := by
  obtain ⟨vs, h1, h2⟩ := h.vals
  unfold rdPart at hr
  unfold loadVar
  simp only [Sem.run_bind, isAgg_run ht, Result.andThen_ok]
  cases ha : aggT P t with
  | true =>
    simp only [ha, if_true] at hr ⊢
    split at hr
    · rename_i hle
      cases hr
      have hl := h1.length
      have h3 := run_loadCells_list (P := P) w ⟨b, off, none⟩ (vs.take s) (fun j v hj => h2 j v (by rw [List.getElem?_take] at hj; split at hj; exact hj; cases hj))
      rw [List.length_take, Nat.min_eq_left (by omega)] at h3
      refine ⟨.agg (vs.take s).toArray, ?_, ?_⟩
      · simp [sizeOf_run hs, h3]
      · simp only [VR]
        exact ⟨_, rfl, by simpa using h1.take s⟩
    · cases hr
  | false =>
    simp only [ha, Bool.false_eq_true, if_false] at hr ⊢
    cases cs with
    | nil => simp at hr
    | cons c cs =>
      simp at hr; subst hr
      obtain ⟨v, vs', rfl, h3, _⟩ := VRL.cons_iff.1 h1
      refine ⟨v, ?_, h3⟩
      have := h2 0 v rfl
      rw [Addr.add_lit] at this
      simp [run_load, show w.cell? ⟨b, off, none⟩ = some v from this]
theorem rdPart_vals {G w} {agg : Bool} {s : Nat} {cs : List PV} {vs : List Value} {p : PV} (h : VRL G w cs vs) (hr : rdPart agg s cs = some p) :
    (agg = true → ∃ q, p = .agg q ∧ s ≤ vs.length ∧ VRL G w q (vs.take s)) ∧ (agg = false → ∃ v, vs[0]? = some v ∧ VR G w p v) := by
  unfold rdPart at hr
  refine ⟨fun ha => ?_, fun ha => ?_⟩
  · rw [ha] at hr
    simp only [if_true] at hr
    split at hr
    · cases hr
      exact ⟨_, rfl, by rw [h.length]; assumption, h.take s⟩
    · cases hr
  · rw [ha] at hr
    simp only [Bool.false_eq_true, if_false] at hr
    cases cs with
    | nil => simp at hr
    | cons c cs =>
      simp at hr; subst hr
      obtain ⟨v, vs', rfl, h3, _⟩ := VRL.cons_iff.1 h
      exact ⟨v, rfl, h3⟩
theorem part_ok {G w} {t : TypeId} {s off : Nat} {cs : List PV} {arr : Array Value} {p : PV} (ht : okT P t = true) (hs : sizeT P t = some s) (h : VRL G w cs arr.toList) (hr : rdPart (aggT P t) s (cs.drop off) = some p) :
    ∃ v, (part t arr off).run P w = .ok v w ∧ VR G w p v := by
  have h' := h.drop off
  have hv := rdPart_vals h' hr
  unfold part
  simp only [Sem.run_bind, isAgg_run ht, Result.andThen_ok]
  cases ha : aggT P t with
  | true =>
    obtain ⟨q, rfl, h1, h2⟩ := hv.1 ha
    refine ⟨.agg (arr.extract off (off + s)), by simp [sizeOf_run hs], ?_⟩
    simp only [VR]
    refine ⟨_, rfl, ?_⟩
    have e : (arr.extract off (off + s)).toList = (arr.toList.drop off).take s := by
      simp [Array.toList_extract, List.extract]
    rw [e]; exact h2
  | false =>
    obtain ⟨v, h1, h2⟩ := hv.2 ha
    refine ⟨v, ?_, h2⟩
    have : arr[off]? = some v := by simpa using h1
    simp [this]
def Yields (P : Program) (B0 : Nat) (w0 : World) (G : Gh) (st : St) (w : World) (p : PV) (st' : St) (r : Result Next) : Prop :=
  ∃ G' w', WR P B0 w0 G' st'.heap w' ∧ Ext G st.heap w G' st'.heap w' st'.lo ∧ st'.lo ≤ st.lo ∧ ((∃ v, r = .ok (.value v) w' ∧ VR G' w' p v) ∨ (r = .ok .skip w' ∧ p = undef))
theorem Yields.pure {B0 w0 G st w p r v} (hw : WR P B0 w0 G st.heap w) (hr : r = .ok (.value v) w) (hv : VR G w p v) : Yields P B0 w0 G st w p st r :=
  ⟨G, w, hw, .refl _ _ _ _, Nat.le_refl _, .inl ⟨v, hr, hv⟩⟩
theorem VR.int_inv {G w k n v} (h : VR G w (.int k n) v) : v = .int k n := by simpa only [VR] using h
theorem VR.bool_inv {G w b v} (h : VR G w (.bool b) v) : v = .bool b := by simpa only [VR] using h
theorem VR.str_inv {G w s v} (h : VR G w (.str s) v) : v = .string s := by simpa only [VR] using h
theorem VR.int_mk {G w k n} : VR G w (.int k n) (.int k n) := by simp only [VR]
theorem VR.bool_mk {G w b} : VR G w (.bool b) (.bool b) := by simp only [VR]
theorem VR.str_mk {G w s} : VR G w (.str s) (.string s) := by simp only [VR]
theorem binI_ok {G w} {op : BinOp} {t : TypeId} {k : IntKind} {a b : Int} {p : PV} (h : binI op k a b = some p) (x y : Operand) :
    ∃ v, (do eqGuard op t x y (.int k a) (.int k b); binOp op t (.int k a) (.int k b) : Sem Value).run P w = .ok v w ∧ VR G w p v := by
  have hg : (eqGuard op t x y (.int k a) (.int k b)).run P w = .ok () w := by
    unfold eqGuard
    cases op <;> rfl
  simp only [Sem.run_bind, hg, Result.andThen_ok]
  cases op <;> simp only [binI] at h <;> first
    | (cases h; refine ⟨_, ?_, VR.int_mk⟩; simp [binOp, Op.intArith, Op.intCmp, Op.intBits]; done)
    | (cases h; refine ⟨_, ?_, VR.bool_mk⟩; simp [binOp, Op.intArith, Op.intCmp, Op.intBits]; done)
    | (split at h
       · cases h
       · rename_i hy
         cases h
         refine ⟨_, ?_, VR.int_mk⟩
         simp [binOp, Op.intDiv, Op.shift, hy])
    | cases h
end
end Go.Den
end
section
namespace Go.Den
section
variable {P:Program} {B0:Nat} {w0:World} {G:Gh} {st:St} {w:World} {tm:List PV} {a:Act} {o:Oper} {E:Env} {rec:Rec} {v:PV} {st':St}
def OpRun (P:Program) (a:Act) (o:Oper) (w:World):Result Next:=(execOp a.eval o).run P w
theorem OpRun.val {x:Sem Value} {u:Value} {w':World} (h:execOp a.eval o=(do pure (.value (← x)))) (hx:x.run P w = .ok u w'):OpRun P a o w = .ok (.value u) w':=by
 unfold OpRun;rw [h];simp [hx]
theorem OpRun.unit {x:Sem Unit} {w':World} (h:execOp a.eval o=(do x;pure .skip)) (hx:x.run P w = .ok () w'):OpRun P a o w = .ok .skip w':=by
 unfold OpRun;rw [h];simp [hx]
theorem ok_move (hw:WR P B0 w0 G st.heap w) (ht:VRL G w tm a.tmps.toList) {x:Operand} {d:Opd} (ho:o.op = .move x∨o.op = .assign x) (hd:opd x=some d)
  (hs:stepOp E rec tm st (.val d)=some (.val v st')):Yields P B0 w0 G st w v st' (OpRun P a o w):=by
 simp only [stepOp] at hs
 cases hs
 refine .pure hw ?_ (opd_ok ht hd)
 unfold OpRun execOp
 rcases ho with h|h <;> rw [h] <;> rfl
theorem ok_pick (hw:WR P B0 w0 G st.heap w) (ht:VRL G w tm a.tmps.toList) {x y z:Operand} {d e f:Opd} (ho:o.op = .pick x y z) (hd:opd x=some d) (he:opd y=some e) (hf:opd z=some f)
  (hs:stepOp E rec tm st (.pick d e f)=some (.val v st')):Yields P B0 w0 G st w v st' (OpRun P a o w):=by
 simp only [stepOp] at hs
 split at hs
 ·rename_i t hev
  cases hs
  have h1:=(hev ▸ opd_ok ht hd).bool_inv
  refine .pure hw (v:=if t then a.eval y else a.eval z) ?_ ?_
  ·unfold OpRun execOp
   rw [ho]
   cases t <;> simp [asBool,h1]
  ·cases t
   ·exact opd_ok ht hf
   ·exact opd_ok ht he
 ·cases hs
theorem ok_new {t:TypeId} {cs:List PV} {u:Value} (hw:WR P B0 w0 G st.heap w) (hc:VRL G w cs u.cells.toList)
  (hr:OpRun P a o w = .ok (.value (.pointer (some ⟨w.heap.size,0,none⟩))) (w.alloc (.cells u.cells t))) :
  Yields P B0 w0 G st w (.ptr st.heap.length 0) { st with heap:=st.heap++[.var cs] } (OpRun P a o w):=by
 obtain ⟨h1,h2⟩:=alloc_obj hw (.var cs) (.cells u.cells t) (fun G' w' hp hh _=>⟨_,_,hh,hc.mono hp⟩)
 refine ⟨_,_,h1,h2 _,Nat.le_refl _,.inl ⟨_,hr,?_⟩⟩
 simp only [VR]
 exact ⟨_,upd_same _ _ _,rfl⟩
theorem ok_box (hw:WR P B0 w0 G st.heap w) (ht:VRL G w tm a.tmps.toList) {t:TypeId} {x:Operand} {d:Opd} (ho:o.op = .box t x) (hd:opd x=some d)
  (hs:stepOp E rec tm st (.box d)=some (.val v st')):Yields P B0 w0 G st w v st' (OpRun P a o w):=by
 simp only [stepOp] at hs
 cases hs
 refine ok_new (t:=t) (u:=a.eval x) hw (opd_ok ht hd).cells ?_
 unfold OpRun execOp
 rw [ho]
 simp [Instr.box,newVar,newRow]
theorem zeroT_run {t:TypeId} {z:List PV} (h:zeroT P t=some z) (w:World):∃ u,(zeroValue t).run P w = .ok u w∧cells0 u.cells.toList=some z∧∃ i,P.info? t=some i∧i.zero=some u:=by
 unfold zeroT at h
 split at h
 ·rename_i u hu
  obtain ⟨i,h1,h2⟩:=Option.bind_eq_some_iff.1 hu
  refine ⟨u,?_,h,i,h1,h2⟩
  unfold zeroValue
  simp [run_typeInfo w h1,h2]
 ·cases h
theorem ok_alloc (hw:WR P B0 w0 G st.heap w) {t:TypeId} {z:List PV} (ho:o.op = .alloc t) (hz:zeroT P t=some z)
  (hs:stepOp E rec tm st (.alloc z)=some (.val v st')):Yields P B0 w0 G st w v st' (OpRun P a o w):=by
 simp only [stepOp] at hs
 cases hs
 obtain ⟨u,h1,h2,_⟩:=zeroT_run hz w
 refine ok_new (t:=t) (u:=u) hw (cells0_ok h2) ?_
 unfold OpRun execOp
 rw [ho]
 simp [Instr.alloc,newVar,newRow,h1]
theorem foldl_set (l:List Value):∀ (k:Nat) (cs:Array Value) (off:Nat),off+k+l.length≤cs.size →
  ((l.zipIdx k).foldl (fun cs (c,j)=>cs.setIfInBounds (off+j) c) cs).toList=cs.toList.take (off+k)++l++cs.toList.drop (off+k+l.length):=by
 induction l with
 | nil=>intro k cs off h;simp
 | cons x l ih =>
  intro k cs off h
  simp only [List.zipIdx_cons,List.foldl_cons]
  rw [ih (k+1) _ off (by simp at h ⊢;omega)]
  simp only [Array.toList_setIfInBounds,List.length_cons]
  simp only [List.length_cons] at h
  have hlt:off+k<cs.toList.length:=by simp;omega
  rw [show off+(k+1)=off+k+1 from by omega,show off+k+1+l.length=off+k+(l.length+1) from by omega]
  rw [List.take_set,List.drop_set]
  rw [if_pos (by omega)]
  rw [List.take_succ_eq_append_getElem hlt]
  rw [List.set_append]
  simp
  rw [Nat.min_eq_left (by omega)]
  simp
theorem VRL.splice {cs p:List PV} {vs us:List Value} {off:Nat} (h:VRL G w cs vs) (h':VRL G w p us):VRL G w (Den.splice cs off p) (vs.take off++us++vs.drop (off+us.length)):=by
 unfold Den.splice
 rw [h'.length]
 exact ((h.take off).append h').append (h.drop _)
theorem fill_ok (ht:VRL G w tm a.tmps.toList) {t:TypeId} (place:Nat→Option (Nat×Nat)) (hp:∀ i x,placeOf P t i=some x→place i=some x) :
  ∀ {ps:List (Nat×Operand)} {ds:List (Nat×Nat×Opd)} {cs cs':List PV} {arr:Array Value},partsC P t ps=some ds→VRL G w cs arr.toList→fillD tm cs ds=some cs' →
   ∃ arr',Instr.fill place arr (ps.map fun (i,x)=>(i,a.eval x))=some arr'∧VRL G w cs' arr'.toList
 | [],ds,cs,cs',arr,h,hc,hf=>by
  simp only [partsC] at h;cases h
  simp only [fillD] at hf;cases hf
  exact ⟨arr,rfl,hc⟩
 | (i,x)::ps,ds,cs,cs',arr,h,hc,hf=>by
  simp only [partsC] at h
  split at h
  ·rename_i off s y ps' h1 h2 h3
   cases h
   simp only [fillD] at hf
   split at hf
   ·rename_i hcond
    obtain ⟨hlen,hle⟩:=hcond
    have hy:=(opd_ok ht h2).cells
    have hyl:=hy.length
    have hcl:=hc.length
    have hx:(a.eval x).cells.size=s:=by rw [← Array.length_toList,hyl,hlen]
    have hfold:=foldl_set (a.eval x).cells.toList 0 arr off (by simp at hcl ⊢;omega)
    simp only [Nat.add_zero] at hfold
    have hnew:VRL G w (Den.splice cs off (y.ev tm).cells) (((a.eval x).cells.toList.zipIdx.foldl (fun cs (c,j)=>cs.setIfInBounds (off+j) c) arr).toList):=by
     rw [hfold];exact hc.splice hy
    obtain ⟨arr',h4,h5⟩:=fill_ok ht place hp h3 hnew hf
    refine ⟨arr',?_,h5⟩
    simp only [List.map_cons,Instr.fill,hp i _ h1]
    rw [if_neg (by simp [hx];simp at hcl;omega)]
    rw [← h4]
    congr 1
    rw [← Array.foldl_toList,Array.toList_zipIdx]
   ·cases hf
  ·cases h
theorem run_mapM_sizes (fields:Array Field) (w:World) (h:∀ f∈fields.toList,(P.info? f.type).isSome=true):∃ places:Array (Nat×Nat),
  (fields.mapM (fun (f:Field)=>do pure (f.offset,← sizeOf f.type)):Sem (Array (Nat×Nat))).run P w = .ok places w∧∀ (i:Nat) (f:Field) (s:Nat),fields[i]? = some f→sizeT P f.type=some s→places[i]? = some (f.offset,s):=by
 rw [Array.mapM_eq_mapM_toList]
 have key:∀ (l:List Field),(∀ f∈l,(P.info? f.type).isSome=true)→∃ places:List (Nat×Nat),(l.mapM (fun (f:Field)=>do pure (f.offset,← sizeOf f.type)):Sem (List (Nat×Nat))).run P w = .ok places w ∧
   ∀ (i:Nat) (f:Field) (s:Nat),l[i]? = some f→sizeT P f.type=some s→places[i]? = some (f.offset,s):=by
  intro l
  induction l with
  | nil=>intro _;exact ⟨[],by simp,fun i f s hf=>by simp at hf⟩
  | cons f l ih =>
   intro hl
   obtain ⟨ps,h1,h2⟩:=ih (fun g hg=>hl g (by simp [hg]))
   obtain ⟨i,hi⟩:=Option.isSome_iff_exists.1 (hl f (by simp))
   have hs:sizeT P f.type=some i.size:=by unfold sizeT;rw [hi];rfl
   refine ⟨(f.offset,i.size)::ps,?_,fun j g s hg hgs=>?_⟩
   ·simp only [List.mapM_cons,Sem.run_bind,sizeOf_run hs,Result.andThen_ok,Sem.run_pure,h1]
   ·cases j with
    | zero=>simp at hg;subst hg;rw [hs] at hgs;cases hgs;rfl
    | succ j=>simpa using h2 j g s (by simpa using hg) hgs
 obtain ⟨ps,h1,h2⟩:=key fields.toList h
 refine ⟨ps.toArray,?_,fun i f s hf hs=>by simpa using h2 i f s (by simpa using hf) hs⟩
 rw [Sem.run_map,h1]
 rfl
theorem ok_build (hw:WR P B0 w0 G st.heap w) (ht:VRL G w tm a.tmps.toList) {t:TypeId} {parts:Array (Nat×Operand)} {z:List PV} {ds:List (Nat×Nat×Opd)} (ho:o.op = .build t parts)
  (hz:zeroT P t=some z) (hd:partsC P t parts.toList=some ds)
  (hu:(∃ fields,P.underlying t=some (.struct fields)∧fields.toList.all (fun f=>(P.info? f.type).isSome)=true)∨∃ n e s,P.underlying t=some (.array n e)∧sizeT P e=some s)
  (hs:stepOp E rec tm st (.build z ds)=some (.val v st')):Yields P B0 w0 G st w v st' (OpRun P a o w):=by
 simp only [stepOp] at hs
 split at hs
 ·rename_i cs hf
  cases hs
  obtain ⟨u,z1,z2,_⟩:=zeroT_run hz w
  have hzr:VRL G w z u.cells.toList:=cells0_ok z2
  have hmap:(parts.map fun (i,x)=>(i,a.eval x)).toList=parts.toList.map fun (i,x)=>(i,a.eval x):=by simp
  rcases hu with ⟨fields,hu,hall⟩|⟨n,e,s,hu,hsz'⟩
  ·obtain ⟨places,h1,h2⟩:=run_mapM_sizes (P:=P) fields w (List.all_eq_true.1 hall)
   obtain ⟨arr',h3,h4⟩:=fill_ok (P:=P) ht (t:=t) (fun i=>places[i]?) (fun i x hx=>by
    unfold placeOf at hx
    simp only [hu] at hx
    split at hx
    ·rename_i f hf
     obtain ⟨inf,h5,h6⟩:=Option.map_eq_some_iff.1 hx
     subst h6
     exact h2 i f inf.size hf (by unfold sizeT;rw [h5];rfl)
    ·cases hx) hd hzr hf
   refine .pure hw (v := .agg arr') ?_ (by simp only [VR];exact ⟨_,rfl,h4⟩)
   refine OpRun.val (by unfold execOp;rw [ho]) ?_
   unfold Instr.build
   simp only [Sem.run_bind,z1,Result.andThen_ok,run_underlying hu,h1,hmap,h3,Sem.run_pure]
  ·have hsz:∀ i x,placeOf P t i=some x→∃ s,sizeT P e=some s∧x=(i*s,s):=by
    intro i x hx
    unfold placeOf at hx
    simp only [hu] at hx
    obtain ⟨inf,h5,h6⟩:=Option.map_eq_some_iff.1 hx
    exact ⟨inf.size,by unfold sizeT;rw [h5];rfl,h6.symm⟩
   obtain ⟨arr',h3,h4⟩:=fill_ok (P:=P) ht (t:=t) (fun i=>some (i*s,s)) (fun i x hx=>by
    obtain ⟨s',h5,h6⟩:=hsz i x hx
    rw [hsz'] at h5;cases h5;rw [h6]) hd hzr hf
   refine .pure hw (v := .agg arr') ?_ (by simp only [VR];exact ⟨_,rfl,h4⟩)
   refine OpRun.val (by unfold execOp;rw [ho]) ?_
   unfold Instr.build
   simp only [Sem.run_bind,z1,Result.andThen_ok,run_underlying hu,sizeOf_run hsz',hmap,h3,Sem.run_pure]
 ·cases hs
end
end Go.Den
end

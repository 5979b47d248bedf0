/- Part of the proofs of laws of the package version. Texts: DenDrawB, DenDrawC, DenDrawD. -/
import Derived.Test.YthnfeimjhibcaaaTBAg
set_option linter.unusedSimpArgs false
set_option linter.unusedVariables false
section
namespace Go.Den
section
variable {P:Program}
structure Foreign (B0:Nat) (G:Gh) (w w':World) (X:Nat→Prop):Prop where
 size:w.heap.size≤w'.heap.size
 same:∀ b,b<w.heap.size→¬ X b→w'.heap[b]? = w.heap[b]?
 free:∀ b,X b→B0≤b∧(∀ l,G.be l≠some b)∧(∀ t e,G.tg t≠some (b,e))∧G.cm b=none
 out:w'.os=w.os∧w'.output=w.output
 row:∀ b (arr:Array Value) (T:TypeId) (fr:Nat×Nat),X b→w.heap[b]? = some (Obj.cells arr T fr)→∃ arr':Array Value,w'.heap[b]? = some (Obj.cells arr' T fr)∧arr'.size=arr.size
theorem Foreign.pres {B0 w0 G h w w' X} (f:Foreign B0 G w w' X) (r:WR P B0 w0 G h w):Pres G w G w':=by
 refine ⟨id,id,fun x=>⟨_,Nat.le_refl _,x⟩,fun {b arr T fr} x=>?_,fun {b n o} x y=>?_⟩
 ·by_cases hx:X b
  ·exact f.row b arr T fr hx x
  ·exact ⟨arr,by rw [f.same b (lt_of_heap x) hx];exact x,rfl⟩
 ·exact cell_of_heap (f.same b (r.cmLt x) (fun hx=>by rw [(f.free b hx).2.2.2] at x;cases x)) o
theorem Foreign.wr {B0 w0 G h w w' X} (f:Foreign B0 G w w' X) (r:WR P B0 w0 G h w):WR P B0 w0 G h w':=by
 have hp:=f.pres r
 refine ⟨r.dom,fun {l b} x=>?_,r.inj,fun {t b e} x=>?_,r.tinj,fun x=>hp.hasRow (r.com x),?_,by rw [f.out.1,f.out.2];exact r.out⟩
 ·obtain ⟨a,b1,c,d,o,g1,g2⟩:=r.obj x
  have hb:=f.same b b1 (fun hx=>(f.free b hx).2.1 l x)
  exact ⟨a,Nat.lt_of_lt_of_le b1 f.size,c,d,o,g1,g2.mono hp hb⟩
 ·obtain ⟨a,b1,c⟩:=r.tag x
  have hb:=f.same b b1 (fun hx=>(f.free b hx).2.2.1 t e x)
  exact ⟨a,Nat.lt_of_lt_of_le b1 f.size,c.mono hp (fun he=>by rw [he] at c;exact c.1) (fun cs he=>by rw [he] at c;exact ⟨c.1,hb⟩)⟩
 ·refine ⟨Nat.le_trans r.low.1 f.size,fun b hb=>?_⟩
  rw [f.same b (Nat.lt_of_lt_of_le hb r.low.1) (fun hx=>by have:=(f.free b hx).1;omega)]
  exact r.low.2 b hb
theorem Foreign.grow {B0 G} {w w':World} (hs:w.heap.size≤w'.heap.size) (h:∀ b,b<w.heap.size→w'.heap[b]? = w.heap[b]?) (ho:w'.os=w.os∧w'.output=w.output):Foreign B0 G w w' (fun _=>False) :=
 ⟨hs,fun b hb _=>h b hb,fun _ hx=>hx.elim,ho,fun _ _ _ _ hx=>hx.elim⟩
theorem Ext.foreign {B0 w0 G h w G' h' w2 w3 lo X} (x:Ext G h w G' h' w2 lo) (r:WR P B0 w0 G' h' w2) (f:Foreign B0 G' w2 w3 X) (hX:∀ b,X b→w.heap.size≤b):Ext G h w G' h' w3 lo:=by
 have hp:=f.pres r
 have hb:∀ b,b<w.heap.size→w3.heap[b]? = w2.heap[b]? := fun b hb=>f.same b (Nat.lt_of_lt_of_le hb x.size) (fun hx=>by have:=hX b hx;omega)
 have hlt:∀ {b} {o:Obj},w.heap[b]? = some o→b<w.heap.size:=fun h=>lt_of_heap h
 refine ⟨x.pres.trans hp,x.len,x.pre,Nat.le_trans x.size f.size,fun {b} hlt' a b1 c=>(hb b hlt').trans (x.frame hlt' a b1 c),fun {l b} hl y=>?_,fun {t b e cs} ht y z=>?_,fun {b rr} hh=>?_,x.nbe,x.ntg,x.ncm⟩
 ·have hy:=x.pres.be y
  have hnx:¬ X b:=fun hx=>(f.free b hx).2.1 l hy
  rw [f.same b (r.obj hy).2.1 hnx]
  exact x.keep hl y
 ·have hy:=x.pres.tg y
  have hnx:¬ X b:=fun hx=>(f.free b hx).2.2.1 t e hy
  rw [f.same b (r.tag hy).2.1 hnx]
  exact x.keepT ht y z
 ·obtain ⟨r',h1,h2⟩:=x.loops hh
  exact ⟨r',by rw [hb b (hlt hh)];exact h1,h2⟩
theorem Ext.grow {B0 w0 G h w w' lo} (r:WR P B0 w0 G h w) (f:Foreign B0 G w w' (fun _=>False)):Ext G h w G h w' lo :=
 (Ext.refl G h w lo).foreign r f (fun _ hx=>hx.elim)
end
section
variable {P:Program} {B0:Nat} {w0:World} {G:Gh} {h:List HObj} {st:St} {w:World} {tm:List PV} {a:Act} {o:Oper} {E:Env} {rec:Rec}
theorem dom_be (r:WR P B0 w0 G h w) {l b:Nat} (hb:G.be l=some b):l<h.length:=by
 rcases Nat.lt_or_ge l h.length with h'|h'
 ·exact h'
 ·rw [(r.dom h').1] at hb;cases hb
theorem dom_tg (r:WR P B0 w0 G h w) {l:Nat} {x:Nat×Nat} (hb:G.tg l=some x):l<h.length:=by
 rcases Nat.lt_or_ge l h.length with h'|h'
 ·exact h'
 ·rw [(r.dom h').2] at hb;cases hb
theorem WR.pad (r:WR P B0 w0 G h w) (ext:List HObj):WR P B0 w0 G (h++ext) w:=by
 have hg:∀ {t x},G.tg t=some x→(h++ext)[t]? = h[t]? := fun hx=>List.getElem?_append_left (dom_tg r hx)
 refine ⟨fun {l} hl=>r.dom (by simp at hl;omega),fun {l b} hb=>?_,r.inj,fun {t b e} x=>?_,fun {t t' b e e'} x y l1 l2=>?_,r.com,r.low,r.out⟩
 ·obtain ⟨a1,a2,a3,a4,o',a5,a6⟩:=r.obj hb
  exact ⟨a1,a2,a3,a4,o',by rw [List.getElem?_append_left (dom_be r hb)];exact a5,a6⟩
 ·rw [hg x];exact r.tag x
 ·rw [hg x] at l1;rw [hg y] at l2
  exact r.tinj x y l1 l2
theorem Ext.pad {G0 h0 wS lo} (x:Ext G0 h0 wS G h w lo) (ext:List HObj):Ext G0 h0 wS G (h++ext) w lo :=
 { x with
  len:=by have:=x.len;simp;omega
  pre:=fun {l} a b=>by rw [List.getElem?_append_left (Nat.lt_of_lt_of_le b x.len)];exact x.pre a b }
theorem hole_ok (r:WR P B0 w0 G h w) {l0:Nat} (hb0:G.be l0=none) (ht0:G.tg l0=none) (o:HObj) (hh:h[l0]? = some o) (obj:Obj)
  (ho:∀ G' w',Pres G w G' w'→w'.heap[w.heap.size]? = some obj→G'.be l0=some w.heap.size→ObjR P G' w' o w.heap.size) :
  WR P B0 w0 { G with be:=upd G.be l0 (some w.heap.size) } h (w.alloc obj)∧Pres G w { G with be:=upd G.be l0 (some w.heap.size) } (w.alloc obj) ∧
  ∀ G0 h0 wS lo,Ext G0 h0 wS G h w lo→h0.length≤l0→Ext G0 h0 wS { G with be:=upd G.be l0 (some w.heap.size) } h (w.alloc obj) lo:=by
 have hl0:l0<h.length:=(List.getElem?_eq_some_iff.1 hh).1
 have hp:Pres G w { G with be:=upd G.be l0 (some w.heap.size) } (w.alloc obj):=by
  refine ⟨fun {l b} x=>?_,id,fun x=>⟨_,Nat.le_refl _,x⟩,fun {b arr T fr} x=>⟨arr,?_,rfl⟩,fun {b n o} x y=>?_⟩
  ·show upd _ _ _ _=_
   rw [upd_ne]
   ·exact x
   ·intro e;subst e;rw [hb0] at x;cases x
  ·rw [heap_alloc_lt _ _ (lt_of_heap x)];exact x
  ·exact cell_alloc_lt _ _ (r.cmLt x)
 refine ⟨⟨?_,?_,?_,?_,?_,?_,?_,r.out⟩,hp,fun G0 h0 wS lo x hle=>⟨x.pres.trans hp,x.len,x.pre,by rw [size_alloc];have:=x.size;omega,?_,?_,?_,?_,?_,?_,?_⟩⟩
 ·intro l hl
  refine ⟨?_,(r.dom hl).2⟩
  show upd _ _ _ _=_
  rw [upd_ne _ _ (by omega)]
  exact (r.dom hl).1
 ·intro l b hb
  by_cases hl:l=l0
  ·subst hl
   have:upd G.be l (some w.heap.size) l=some b:=hb
   rw [upd_same] at this
   cases this
   refine ⟨r.low.1,by rw [size_alloc];omega,?_,?_,o,hh,ho _ _ hp (heap_alloc_new _ _) (upd_same _ _ _)⟩
   ·cases hc:G.cm w.heap.size with
    | none=>rfl
    | some n=>have:=r.cmLt hc;omega
   ·intro t e x
    have:=(r.tag x).2.1
    omega
  ·have hb':upd G.be l0 (some w.heap.size) l=some b:=hb
   rw [upd_ne _ _ hl] at hb'
   obtain ⟨a1,a2,a3,a4,o',a5,a6⟩:=r.obj hb'
   exact ⟨a1,by rw [size_alloc];omega,a3,a4,o',a5,a6.mono hp (heap_alloc_lt _ _ a2)⟩
 ·intro l l' b x y
  have x':upd G.be l0 (some w.heap.size) l=some b:=x
  have y':upd G.be l0 (some w.heap.size) l'=some b:=y
  by_cases hl:l=l0 <;> by_cases hl':l'=l0
  ·omega
  ·subst hl
   rw [upd_same] at x';cases x'
   rw [upd_ne _ _ hl'] at y'
   have:=(r.obj y').2.1
   omega
  ·subst hl'
   rw [upd_same] at y';cases y'
   rw [upd_ne _ _ hl] at x'
   have:=(r.obj x').2.1
   omega
  ·rw [upd_ne _ _ hl] at x'
   rw [upd_ne _ _ hl'] at y'
   exact r.inj x' y'
 ·intro t b e x
  obtain ⟨a1,a2,a3⟩:=r.tag x
  exact ⟨a1,by rw [size_alloc];omega,a3.mono hp (fun he=>by rw [he] at a3;exact a3.1) (fun cs he=>by rw [he] at a3;exact ⟨a3.1,heap_alloc_lt _ _ a2⟩)⟩
 ·exact fun x y l1 l2=>r.tinj x y l1 l2
 ·exact fun x=>hp.hasRow (r.com x)
 ·refine ⟨by rw [size_alloc];have:=r.low.1;omega,fun b hb=>?_⟩
  rw [heap_alloc_lt _ _ (Nat.lt_of_lt_of_le hb r.low.1)]
  exact r.low.2 b hb
 ·intro b a1 a2 a3 a4;rw [heap_alloc_lt _ _ (Nat.lt_of_lt_of_le a1 x.size)];exact x.frame a1 a2 a3 a4
 ·intro l b a1 a2;rw [heap_alloc_lt _ _ (r.obj (x.pres.be a2)).2.1];exact x.keep a1 a2
 ·intro t b e cs a1 a2 a3;rw [heap_alloc_lt _ _ (r.tag (x.pres.tg a2)).2.1];exact x.keepT a1 a2 a3
 ·intro b r' a1
  obtain ⟨r2,a2,a3⟩:=x.loops a1
  exact ⟨r2,by rw [heap_alloc_lt _ _ (lt_of_heap a2)];exact a2,a3⟩
 ·intro l b y z
  have y':upd G.be l0 (some w.heap.size) l=some b:=y
  by_cases hl:l=l0
  ·subst hl;rw [upd_same] at y';cases y';exact ⟨hle,x.size⟩
  ·rw [upd_ne _ _ hl] at y';exact x.nbe y' z
 ·exact fun y z=>x.ntg y z
 ·exact fun y z=>x.ncm y z
theorem DefsOK.hole {B:Nat} {l0:Nat} {obj:Obj}:∀ {ds:List Deferred} {N:Nat},N≤w.heap.size→DefsOK B G w ds N→DefsOK B { G with be:=upd G.be l0 (some w.heap.size) } (w.alloc obj) ds N
 | [],_,_,_=>trivial
 | d::ds,N,hN,hd=>by
  obtain ⟨r,h1,h2,h3,h4,h5,h6,h7⟩:=hd
  refine ⟨r,h1,h2,?_,fun l e=>?_,h5,h6,h7.hole (by omega)⟩
  ·rw [heap_alloc_lt _ _ (by omega)];exact h3
  ·have e':upd G.be l0 (some w.heap.size) l=some r:=e
   by_cases hl:l=l0
   ·subst hl;rw [upd_same] at e';cases e';omega
   ·rw [upd_ne _ _ hl] at e';exact h4 l e'
theorem fillB_ok (r:WR P B0 w0 G h w) {l0:Nat} (hb0:G.be l0=none) (o:HObj) (hh:h[l0]? = some o) {b:Nat} (hB:B0≤b) (hbs:b<w.heap.size) (hbe:∀ l,G.be l≠some b) (htg:∀ t e,G.tg t≠some (b,e)) (hcm:G.cm b=none)
  (ho:∀ G',Pres G w G' w→G'.be l0=some b→ObjR P G' w o b) :
  WR P B0 w0 { G with be:=upd G.be l0 (some b) } h w∧Pres G w { G with be:=upd G.be l0 (some b) } w ∧
  ∀ G0 h0 wS lo,Ext G0 h0 wS G h w lo→h0.length≤l0→wS.heap.size≤b→Ext G0 h0 wS { G with be:=upd G.be l0 (some b) } h w lo:=by
 have hl0:l0<h.length:=(List.getElem?_eq_some_iff.1 hh).1
 have hp:Pres G w { G with be:=upd G.be l0 (some b) } w:=by
  refine ⟨fun {l b'} x=>?_,id,fun x=>⟨_,Nat.le_refl _,x⟩,fun {b arr T fr} x=>⟨arr,x,rfl⟩,fun {b n o} x y=>rfl⟩
  show upd _ _ _ _=_
  rw [upd_ne]
  ·exact x
  ·intro e;subst e;rw [hb0] at x;cases x
 refine ⟨⟨?_,?_,?_,?_,r.tinj,fun x=>r.com x,r.low,r.out⟩,hp,fun G0 h0 wS lo x hle hbw=>⟨x.pres.trans hp,x.len,x.pre,x.size,x.frame,x.keep,x.keepT,x.loops,?_,fun y z=>x.ntg y z,fun y z=>x.ncm y z⟩⟩
 ·intro l hl
  refine ⟨?_,(r.dom hl).2⟩
  show upd _ _ _ _=_
  rw [upd_ne _ _ (by omega)]
  exact (r.dom hl).1
 ·intro l b' hb
  by_cases hl:l=l0
  ·subst hl
   have:upd G.be l (some b) l=some b':=hb
   rw [upd_same] at this
   cases this
   exact ⟨hB,hbs,hcm,htg,o,hh,ho _ hp (upd_same _ _ _)⟩
  ·have hb':upd G.be l0 (some b) l=some b':=hb
   rw [upd_ne _ _ hl] at hb'
   obtain ⟨a1,a2,a3,a4,o',a5,a6⟩:=r.obj hb'
   exact ⟨a1,a2,a3,a4,o',a5,a6.mono hp rfl⟩
 ·intro l l' b' x y
  have x':upd G.be l0 (some b) l=some b':=x
  have y':upd G.be l0 (some b) l'=some b':=y
  by_cases hl:l=l0 <;> by_cases hl':l'=l0
  ·omega
  ·subst hl
   rw [upd_same] at x';cases x'
   rw [upd_ne _ _ hl'] at y'
   exact absurd y' (hbe _)
  ·subst hl'
   rw [upd_same] at y';cases y'
   rw [upd_ne _ _ hl] at x'
   exact absurd x' (hbe _)
  ·rw [upd_ne _ _ hl] at x'
   rw [upd_ne _ _ hl'] at y'
   exact r.inj x' y'
 ·intro t b' e x
  obtain ⟨a1,a2,a3⟩:=r.tag x
  exact ⟨a1,a2,a3.mono hp (fun he=>by rw [he] at a3;exact a3.1) (fun cs he=>by rw [he] at a3;exact ⟨a3.1,rfl⟩)⟩
 ·intro l b' y z
  have y':upd G.be l0 (some b) l=some b':=y
  by_cases hl:l=l0
  ·subst hl;rw [upd_same] at y';cases y';exact ⟨hle,hbw⟩
  ·rw [upd_ne _ _ hl] at y';exact x.nbe y' z
theorem DefsOK.fill {B:Nat} {l0 b:Nat} {arr:Array Value} {T:TypeId} {fr:Nat×Nat} (hb:w.heap[b]? = some (Obj.cells arr T fr)):∀ {ds:List Deferred} {N:Nat},DefsOK B G w ds N→DefsOK B { G with be:=upd G.be l0 (some b) } w ds N
 | [],_,_=>trivial
 | d::ds,N,hd=>by
  obtain ⟨r,h1,h2,h3,h4,h5,h6,h7⟩:=hd
  refine ⟨r,h1,h2,h3,fun l e=>?_,h5,h6,h7.fill hb⟩
  have e':upd G.be l0 (some b) l=some r:=e
  by_cases hl:l=l0
  ·subst hl;rw [upd_same] at e';cases e';rw [hb] at h3;cases h3
  ·rw [upd_ne _ _ hl] at e';exact h4 l e'
theorem OwnR.low {m:Nat} {b off len cap:Nat} (hd:∀ l,m≤l→G.be l=none∧G.tg l=none) {t sz:Nat} (ho:OwnR G w b off len cap (.tag t sz)):t<m:=by
 rcases Nat.lt_or_ge t m with h'|h'
 ·exact h'
 ·obtain ⟨x,h1,_⟩:=ho
  rw [(hd t h').2] at h1;cases h1
mutual
theorem VR.lowOf {m:Nat} (hd:∀ l,m≤l→G.be l=none∧G.tg l=none):∀ {p:PV} {v:Value},VR G w p v→p.low m=true
 | .bool b,v,r=>rfl
 | .int k n,v,r=>rfl
 | .str s,v,r=>rfl
 | .ptr l off,v,r=>by
  simp only [VR] at r
  obtain ⟨b,h1,_⟩:=r
  simp only [PV.low,decide_eq_true_eq]
  rcases Nat.lt_or_ge l m with h'|h'
  ·exact h'
  ·rw [(hd l h').1] at h1;cases h1
 | .cptr cs,v,r=>by
  simp only [VR] at r
  obtain ⟨b,off,h1,h2,h3⟩:=r
  simp only [PV.low]
  exact VRC.lowOf hd h3
 | .nilptr,v,r=>rfl
 | .slice (.tag t sz) n cs,v,r=>by
  simp only [VR] at r
  rcases r with ⟨b,off,cap,h1,hc,h2,h4,h3⟩|⟨e0,_⟩
  rotate_left
  ·cases e0
  simp only [PV.low,Bool.and_eq_true,decide_eq_true_eq]
  exact ⟨h4.low hd,VRC.lowOf hd h3⟩
 | .slice .shared n cs,v,r=>by
  simp only [VR] at r
  rcases r with ⟨b,off,cap,h1,hc,h2,h4,h3⟩|⟨_,_,rfl,_⟩
  rotate_left
  ·rfl
  simp only [PV.low]
  exact VRC.lowOf hd h3
 | .nilslice,v,r=>rfl
 | .hslice l sz n,v,r=>by
  simp only [VR] at r
  obtain ⟨b,e,cap,h1,_⟩:=r
  simp only [PV.low,decide_eq_true_eq]
  rcases Nat.lt_or_ge l m with h'|h'
  ·exact h'
  ·rw [(hd l h').2] at h1;cases h1
 | .vslice l sz n,v,r=>by
  simp only [VR] at r
  obtain ⟨b,cap,h1,_⟩:=r
  simp only [PV.low,decide_eq_true_eq]
  rcases Nat.lt_or_ge l m with h'|h'
  ·exact h'
  ·rw [(hd l h').1] at h1;cases h1
 | .aptr l off,v,r=>by
  simp only [VR] at r
  obtain ⟨b,e,h1,_⟩:=r
  simp only [PV.low,decide_eq_true_eq]
  rcases Nat.lt_or_ge l m with h'|h'
  ·exact h'
  ·rw [(hd l h').2] at h1;cases h1
 | .map l,v,r=>by
  simp only [VR] at r
  obtain ⟨b,h1,_⟩:=r
  simp only [PV.low,decide_eq_true_eq]
  rcases Nat.lt_or_ge l m with h'|h'
  ·exact h'
  ·rw [(hd l h').1] at h1;cases h1
 | .nilmap,v,r=>rfl
 | .func f a c,v,r=>by
  simp only [VR] at r
  obtain ⟨a',c',h1,h2,h3⟩:=r
  simp only [PV.low,Bool.and_eq_true]
  exact ⟨VRL.lowOf hd h2,VRL.lowOf hd h3⟩
 | .nilfunc,v,r=>rfl
 | .yield l,v,r=>by
  simp only [VR] at r
  obtain ⟨b,h1,_⟩:=r
  simp only [PV.low,decide_eq_true_eq]
  rcases Nat.lt_or_ge l m with h'|h'
  ·exact h'
  ·rw [(hd l h').1] at h1;cases h1
 | .iface t x,v,r=>by
  simp only [VR] at r
  obtain ⟨y,h1,h2⟩:=r
  simp only [PV.low]
  exact VR.lowOf hd h2
 | .niliface,v,r=>rfl
 | .agg cs,v,r=>by
  simp only [VR] at r
  obtain ⟨vs,h1,h2⟩:=r
  simp only [PV.low]
  exact VRL.lowOf hd h2
 | .tuple cs,v,r=>by
  simp only [VR] at r
  obtain ⟨vs,h1,h2⟩:=r
  simp only [PV.low]
  exact VRL.lowOf hd h2
theorem VRL.lowOf {m:Nat} (hd:∀ l,m≤l→G.be l=none∧G.tg l=none):∀ {ps:List PV} {vs:List Value},VRL G w ps vs→lowL m ps=true
 | [],vs,r=>rfl
 | c::cs,vs,r=>by
  obtain ⟨v,vs',h1,h2,h3⟩:=VRL.cons_iff.1 r
  simp only [lowL,Bool.and_eq_true]
  exact ⟨VR.lowOf hd h2,VRL.lowOf hd h3⟩
theorem VRC.lowOf {m:Nat} (hd:∀ l,m≤l→G.be l=none∧G.tg l=none):∀ {ps:List PV} {b off:Nat},VRC G w ps b off→lowL m ps=true
 | [],b,off,r=>rfl
 | c::cs,b,off,r=>by
  simp only [VRC] at r
  obtain ⟨⟨v,h1,h2⟩,h3⟩:=r
  simp only [lowL,Bool.and_eq_true]
  exact ⟨VR.lowOf hd h2,VRC.lowOf hd h3⟩
end
theorem lowL_iff {m:Nat}:∀ {ps:List PV},lowL m ps=true↔∀ p∈ps,p.low m=true
 | []=>by simp [lowL]
 | p::ps=>by simp only [lowL,Bool.and_eq_true,lowL_iff (ps:=ps),List.forall_mem_cons]
theorem cells_low {m:Nat} {p:PV} (h:p.low m=true):∀ q∈p.cells,q.low m=true:=by
 intro q hq
 cases p
 case agg cs=>simp only [PV.cells] at hq;simp only [PV.low] at h;exact lowL_iff.1 h q hq
 all_goals (simp only [PV.cells,List.mem_singleton] at hq;subst hq;exact h)
theorem share_low {m:Nat} {p:PV} (h:p.low m=true):p.share.low m=true:=by
 cases p
 case slice o n cs =>
  cases o
  ·simp only [PV.low,Bool.and_eq_true] at h;simp only [PV.share,PV.low];exact h.2
  ·exact h
 all_goals exact h
theorem fillD_low {m:Nat}:∀ {ps:List (Nat×Nat×Opd)} {cs cs':List PV},(∀ p∈ps,(p.2.2.ev tm).low m=true)→lowL m cs=true→fillD tm cs ps=some cs'→lowL m cs'=true
 | [],cs,cs',_,hl,hf=>by simp only [fillD] at hf;cases hf;exact hl
 | (off,size,x)::ps,cs,cs',ht,hl,hf=>by
  simp only [fillD] at hf
  split at hf
  ·refine fillD_low (fun p hp=>ht p (by simp [hp])) ?_ hf
   have hx:=ht (off,size,x) (by simp)
   rw [lowL_iff] at hl ⊢
   intro q hq
   simp only [splice,List.mem_append] at hq
   rcases hq with (hq|hq)|hq
   ·exact hl q (List.mem_of_mem_take hq)
   ·exact cells_low hx q hq
   ·exact hl q (List.mem_of_mem_drop hq)
  ·cases hf
theorem partsC_opd {t:TypeId}:∀ {l:List (Nat×Operand)} {ds:List (Nat×Nat×Opd)},partsC P t l=some ds→∀ p∈ds,∃ y,opd y=some p.2.2
 | [],ds,h=>by simp only [partsC] at h;cases h;simp
 | (i,x)::l,ds,h=>by
  simp only [partsC] at h
  split at h
  ·rename_i h1 h2 h3
   cases h
   intro p hp
   rcases List.mem_cons.1 hp with rfl|hp
   ·exact ⟨x,h2⟩
   ·exact partsC_opd h3 p hp
  ·cases h
theorem repl_low {m:Nat} {z:List PV} (h:lowL m z=true):∀ n,lowL m (repl z n)=true
 | 0=>rfl
 | n+1=>by
  rw [repl,lowL_iff]
  intro q hq
  rcases List.mem_append.1 hq with hq|hq
  ·exact lowL_iff.1 h q hq
  ·exact lowL_iff.1 (repl_low h n) q hq
theorem opC_buildSlice {mu:TypeId→Bool} {s n:Nat} {z:List PV} {ds:List (Nat×Nat×Opd)} (hc:opC P mu o=some (.buildSlice s n z ds)):∃ t e z0 parts,z=repl z0 n∧zeroT P e=some z0∧partsC P t parts=some ds:=by
 unfold opC at hc
 split at hc
 case h_7 t n' parts ho =>
  split at hc
  ·rename_i e hu
   split at hc
   ·rename_i h1 h2 h3
    split at hc
    ·simp only [Option.some.injEq] at hc
     split at hc
     ·cases hc
     ·cases hc
      exact ⟨t,e,_,_,rfl,h2,h3⟩
    ·cases hc
   ·cases hc
  ·cases hc
 all_goals
  exfalso
  repeat' (split at hc)
  all_goals (first
   | (cases hc;done)
   | (obtain ⟨_,_,h2⟩:=Option.map_eq_some_iff.1 hc;cases h2;done)
   | (unfold binC at hc;(repeat' (split at hc)) <;> cases hc;done)
   | (unfold builtinC at hc;(repeat' (split at hc)) <;> cases hc;done))
theorem ok_buildSliceS {mu:TypeId→Bool} {s n:Nat} {z:List PV} {ds:List (Nat×Nat×Opd)} (hc:opC P mu o=some (.buildSlice s n z ds)) (hw:WR P B0 w0 G st.heap w) (ht:VRL G w tm a.tmps.toList) {v:PV} {st':St} (hs:stepOp E rec tm st (.buildSliceS s n z ds)=some (.val v st')) :
  st'=st∧∃ G' w' u,OpRun P a o w = .ok (.value u) w'∧WR P B0 w0 G' st.heap w'∧(∀ lo,Ext G st.heap w G' st.heap w' lo)∧VR G' w' v u:=by
 simp only [stepOp] at hs
 split at hs
 ·rename_i cs hf
  cases hs
  refine ⟨rfl,?_⟩
  have hs2:stepOp E rec tm { heap:=st.heap,lo:=st.heap.length } (.buildSlice s n z ds)=some (.val (.slice (.tag st.heap.length s) n (cs.map PV.share)) { heap:=st.heap++[.tag true],lo:=st.heap.length }):=by
   simp only [stepOp,hf]
  obtain ⟨G1,w1,h1,h2,_,h4⟩:=op_ok hc (st:={ heap:=st.heap,lo:=st.heap.length }) hw ht rfl hs2
  rcases h4 with ⟨u,h5,h6⟩|⟨_,h6⟩
  ·obtain ⟨k1,k2⟩:=cut_ok (S:=[]) hw h2 (Nat.le_refl _) (Fz.refl h1) ⟨by simp,by simp⟩
   have hd:∀ l,st.heap.length≤l→G.be l=none∧G.tg l=none:=fun l hl=>hw.dom hl
   obtain ⟨t,e,z0,parts,rfl,hz,hp⟩:=opC_buildSlice hc
   have hzl:lowL st.heap.length (repl z0 n)=true:=by
    obtain ⟨u0,_,z2,_⟩:=zeroT_run hz w
    exact repl_low (VRL.lowOf hd (cells0_ok z2:VRL G w z0 _)) n
   have hcs:lowL st.heap.length cs=true:=fillD_low (fun p hp'=>by
    obtain ⟨y,hy⟩:=partsC_opd hp p hp'
    exact VR.lowOf hd (opd_ok ht hy)) hzl hf
   have hcs':lowL st.heap.length (cs.map PV.share)=true:=by
    rw [lowL_iff] at hcs ⊢
    intro q hq
    obtain ⟨q0,h7,rfl⟩:=List.mem_map.1 hq
    exact share_low (hcs q0 h7)
   have h6':VR G1 w1 (.slice .shared n (cs.map PV.share)) u:=by
    simp only [VR] at h6 ⊢
    rcases h6 with ⟨b,off,cap,m1,m2,m3,_,m5⟩|⟨e0,_⟩
    ·exact .inl ⟨b,off,cap,m1,m2,m3,trivial,m5⟩
    ·cases e0
   refine ⟨_,w1,u,h5,by simpa using k1,fun lo=>by simpa using k2 lo,VR.restr (restr_cut hw h2 (Fz.refl h1) []) (by simp only [PV.low];exact hcs') h6'⟩
  ·cases h6
 ·cases hs
end
end Go.Den
end
section
namespace Go.Den
section
variable {P:Program} {B0:Nat} {w0:World} {G:Gh} {h:List HObj} {st:St} {w:World} {tm:List PV} {a:Act} {o:Oper} {E:Env} {rec:Rec}
theorem binC_weight {op:BinOp} {t:TypeId} {x y:Operand} {d:DOp} (hc:binC P op t x y=some d):weight d=0:=by
 unfold binC at hc
 repeat' (split at hc)
 all_goals (first|(cases hc;done)|(cases hc;rfl))
theorem builtinC_weight {b:Bool} {f:Builtin} {ts:List TypeId} {xs:List Opd} {d:DOp} (hc:builtinC P b f ts xs=some d):weight d=0∨weight d=2:=by
 unfold builtinC at hc
 repeat' (split at hc)
 all_goals (first|(cases hc;done)|(cases hc;first|exact .inl rfl|exact .inr rfl))
theorem opC_ld {mu:TypeId→Bool} {d:DOp} (hc:opC P mu o=some d) (hw:weight d=1):(∃ agg sz x y,d = .load agg sz x∧opd y=some x)∨(∃ x y,d = .bytesToStr x∧opd y=some x)∨(∃ nf z x k ok y,d = .lookup nf z x k ok∧opd y=some x):=by
 unfold opC at hc
 split at hc
 all_goals (repeat' (split at hc))
 all_goals (first
  | (cases hc;done)
  | (have:=binC_weight hc;omega)
  | (have:=builtinC_weight hc;omega)
  | (obtain ⟨_,h1,h2⟩:=Option.map_eq_some_iff.1 hc;cases h2;cases hw;done)
  | (cases hc;first|(cases hw;done)|exact .inl ⟨_,_,_,_,rfl,by assumption⟩|exact .inr (.inl ⟨_,_,rfl,by assumption⟩)|(right;right;exact ⟨_,_,_,_,_,_,rfl,by assumption⟩)))
theorem opC_alloc {mu:TypeId→Bool} {z:List PV} (hc:opC P mu o=some (.alloc z)):∃ t,o.op = .alloc t∧zeroT P t=some z:=by
 unfold opC at hc
 split at hc
 all_goals (repeat' (split at hc))
 all_goals (first
  | (cases hc;done)
  | (have:=binC_weight hc;cases this;done)
  | (rcases builtinC_weight hc with h|h <;> cases h;done)
  | (obtain ⟨_,h1,h2⟩:=Option.map_eq_some_iff.1 hc;cases h2;first|done|exact ⟨_,by assumption,h1⟩))
theorem alloc_run {mu:TypeId→Bool} {z:List PV} (hc:opC P mu o=some (.alloc z)):∃ u t,OpRun P a o w = .ok (.value (.pointer (some ⟨w.heap.size,0,none⟩))) (w.alloc (.cells u t))∧∀ G w,VRL G w z u.toList:=by
 obtain ⟨t,ho,hz⟩:=opC_alloc hc
 obtain ⟨u,h1,h2,_⟩:=zeroT_run hz w
 refine ⟨u.cells,t,?_,fun G w=>cells0_ok h2⟩
 unfold OpRun execOp
 rw [ho]
 simp [Instr.alloc,newVar,newRow,h1]
theorem ld_live {mu:TypeId→Bool} {d:DOp} (hc:opC P mu o=some d) (hw:WR P B0 w0 G h w) (ht:VRL G w tm a.tmps.toList) {m lo l:Nat} (hf:footOf tm d m lo = .ld l):l<h.length:=by
 rcases opC_ld hc (foot_ld hf) with ⟨agg,sz,x,y,rfl,hy⟩|⟨x,y,rfl,hy⟩|⟨nf,z,x,k,ok,y,rfl,hy⟩
 all_goals
  have hx:=opd_ok ht hy
  simp only [footOf] at hf
  split at hf
 all_goals (first|(cases hf;done)|skip)
 all_goals
  rename_i hev
  cases hf
  rw [hev] at hx
  simp only [VR] at hx
 ·obtain ⟨b,h1,_⟩:=hx;exact dom_be hw h1
 ·obtain ⟨b,e,h1,_⟩:=hx;exact dom_tg hw h1
 ·obtain ⟨b,e,cap,h1,_⟩:=hx;exact dom_tg hw h1
 ·obtain ⟨b,h1,_⟩:=hx;exact dom_be hw h1
theorem opersC_spec {mu:TypeId→Bool} {ops:Array Oper}:∀ {L:List Oper} {ds:List DOper},opersC P mu ops L=some ds→ds.length=L.length∧∀ (j:Nat) (o:Oper),L[j]? = some o→∃ d,ds[j]? = some d∧operC P mu ops o=some d
 | [],ds,h=>by simp only [opersC] at h;cases h;simp
 | o::L,ds,h=>by
  simp only [opersC] at h
  split at h
  ·rename_i d ds' h1 h2
   cases h
   obtain ⟨h3,h4⟩:=opersC_spec h2
   refine ⟨by simp [h3],fun j o' hj=>?_⟩
   cases j with
   | zero=>simp at hj;subst hj;exact ⟨d,rfl,h1⟩
   | succ j=>simpa using h4 j o' (by simpa using hj)
  ·cases h
theorem shareOps_spec (f:Nat→Bool):∀ (k:Nat) (ds:List DOper),(shareOps f k ds).length=ds.length∧∀ (j:Nat) (d:DOper),ds[j]? = some d→(shareOps f k ds)[j]? = some (shareOp (f (k+j)) d)
 | k,[]=>by simp [shareOps]
 | k,d::ds=>by
  obtain ⟨h1,h2⟩:=shareOps_spec f (k+1) ds
  refine ⟨by simp [shareOps,h1],fun j d' hj=>?_⟩
  cases j with
  | zero=>simp at hj;subst hj;rfl
  | succ j =>
   have:=h2 j d' (by simpa using hj)
   simp only [shareOps,List.getElem?_cons_succ]
   rw [this,show k+1+j=k+(j+1) by omega]
def OpOf (P:Program) (mu:TypeId→Bool) (ops:Array Oper) (o:Oper) (d:DOper):Prop :=
 d.dst=o.dst∧guardC ops o.guard=some d.guard∧(opC P mu o=some d.op∨∃ sz n z ps,opC P mu o=some (.buildSlice sz n z ps)∧d.op = .buildSliceS sz n z ps)
theorem OpOf.of {mu:TypeId→Bool} {ops:Array Oper} {d:DOper} (h:operC P mu ops o=some d) (b:Bool):OpOf P mu ops o (shareOp b d):=by
 unfold operC at h
 split at h
 ·rename_i op g h1 h2
  cases h
  unfold shareOp
  split
  ·rename_i sz n z ps hop
   refine ⟨rfl,h2,.inr ⟨sz,n,z,ps,?_,rfl⟩⟩
   rw [h1];exact congrArg some hop
  ·exact ⟨rfl,h2,.inl h1⟩
 ·cases h
structure Checked (P:Program) (mu:TypeId→Bool) (ops:Array Oper) (ds:List DOper) (pl:List (List Nat)) (free:List (Nat×List Nat)):Prop where
 len:ds.length=ops.size
 op:∀ (j:Nat) (o:Oper),ops[j]? = some o→∃ d,ds[j]? = some d∧OpOf P mu ops o d
 plOf:∀ (j:Nat) (o:Oper),ops[j]? = some o→pl.getD j []=Den.preds o
 preds:∀ j,j<ops.size→∀ p∈pl.getD j [],p<j
 heavy:∀ (i j:Nat) (di dj:DOper),i<j→ds[i]? = some di→ds[j]? = some dj→isHeavy (weight di.op)=true→isHeavy (weight dj.op)=true→weight dj.op≠3→ordered (masks pl []) i j=true
 rd:∀ (i j:Nat) (di dj:DOper) (t:Nat),ds[i]? = some di→ds[j]? = some dj→weight di.op=3→di.dst=some t→t∈dj.reads→weight dj.op=2∨∀ (k:Nat) (dk:DOper),k<i→ds[k]? = some dk→weight dk.op=2→ordered (masks pl []) k i=true
 once:∀ (i j:Nat) (di dj:DOper) (t:Nat),i≠j→ds[i]? = some di→ds[j]? = some dj→di.dst=some t→dj.dst≠some t
 data:∀ (i j:Nat) (di dj:DOper) (t:Nat),i≠j→ds[i]? = some di→ds[j]? = some dj→di.dst=some t→t∈dj.reads→(i<j→ordered (masks pl []) i j=true)∧(j<i→ordered (masks pl []) j i=true)
 free:∀ fs,footOk fs free=true→∀ (i j:Nat) (di dj:DOper) (l:Nat) (f:Foot),ds[i]? = some di→ds[j]? = some dj→weight di.op=1→weight dj.op=2→ordered (masks pl []) i j=false→ordered (masks pl []) j i=false→fs[i]? = some (.ld l)→fs[j]? = some f→clash l f=false
theorem checked {mu:TypeId→Bool} {id:Nat} {ops:Array Oper} {ds:List DOper} {free:List (Nat×List Nat)} (hc:codeC P mu (.region id ops true)=some (.dregion ds free)):Checked P mu ops ds (ops.toList.map preds) free:=by
 simp only [codeC] at hc
 split at hc
 ·rename_i ds0 h0
  simp only [if_true] at hc
  split at hc
  ·rename_i hck
   cases hc
   simp only [Bool.and_eq_true] at hck
   obtain ⟨⟨⟨hp,hh⟩,ht⟩,hal⟩:=hck
   obtain ⟨l1,s1⟩:=opersC_spec h0
   generalize hf:loose (masks (ops.toList.map preds) []) (ds0.map (weight ·.op))=f at *
   obtain ⟨l2,s2⟩:=shareOps_spec f 0 ds0
   generalize hds:shareOps f 0 ds0=ds at *
   have hlen:ds.length=ops.size:=by rw [l2,l1];simp
   have hws:∀ {j d},ds[j]? = some d→(ds.map (weight ·.op)).getD j 0=weight d.op:=fun {j d} hj=>by
    simp only [List.getD_eq_getElem?_getD,List.getElem?_map,hj,Option.map_some,Option.getD_some]
   have hlt:∀ {j d},ds[j]? = some d→j<ds.length:=fun hj=>(List.getElem?_eq_some_iff.1 hj).1
   refine ⟨hlen,fun j o hj=>?_,fun j o hj=>?_,fun j hj p hpj=>?_,fun i j di dj hij hi hj w1 w2 w3=>?_,fun i j di dj t hi hj w3 hd hr=>?_,fun i j di dj t hij hi hj hd=>?_,fun i j di dj t hij hi hj hd hr=>?_,fun fs hfo i j di dj l f' hi hj w1 w2 o1 o2 f1 f2=>?_⟩
   ·obtain ⟨d,h1,h2⟩:=s1 j o (by simpa using hj)
    exact ⟨_,s2 j d h1,OpOf.of h2 _⟩
   ·simp only [List.getD_eq_getElem?_getD,List.getElem?_map,Array.getElem?_toList,hj,Option.map_some,Option.getD_some]
   ·have:=List.all_eq_true.1 hp j (by simpa using hj)
    simp only [List.getD_eq_getElem?_getD,List.getElem?_map,Array.getElem?_toList,Array.getElem?_eq_getElem hj,Option.map_some,Option.getD_some] at hpj this
    simpa using List.all_eq_true.1 this p hpj
   ·have h1:=List.all_eq_true.1 hh j (by simpa using hlt hj)
    have h2:=List.all_eq_true.1 h1 i (by simpa using hij)
    rw [hws hi,hws hj,w1,w2] at h2
    simp only [Bool.not_true,Bool.false_or,Bool.or_eq_true,beq_iff_eq] at h2
    exact h2.resolve_left w3
   ·have h1:=List.all_eq_true.1 hal i (by simpa using hlt hi)
    simp only [hi,w3,hd,Bool.or_eq_true,bne_iff_ne,ne_eq,not_true_eq_false,false_or] at h1
    rcases h1 with h1|h1
    ·right
     intro k dk hk hdk hwk
     have h2:=List.all_eq_true.1 h1 k (by simpa using hk)
     simp only [hdk,hwk,Bool.or_eq_true,bne_iff_ne,ne_eq,not_true_eq_false,false_or] at h2
     exact h2
    ·left
     have h2:=List.all_eq_true.1 h1 dj (List.mem_of_getElem? hj)
     simp only [Bool.or_eq_true,Bool.not_eq_true',List.contains_eq_mem,decide_eq_false_iff_not,beq_iff_eq] at h2
     exact h2.resolve_left (fun h=>h hr)
   ·have h1:=List.all_eq_true.1 ht j (by simpa using hlt hj)
    have h2:=List.all_eq_true.1 h1 i (by simpa using hlt hi)
    simp only [hi,hj,hd,Bool.or_eq_true,beq_iff_eq,Bool.and_eq_true] at h2
    have h3:=(h2.resolve_left hij).1
    simpa using h3
   ·have h1:=List.all_eq_true.1 ht j (by simpa using hlt hj)
    have h2:=List.all_eq_true.1 h1 i (by simpa using hlt hi)
    simp only [hi,hj,hd,Bool.or_eq_true,beq_iff_eq,Bool.and_eq_true] at h2
    have h3:=(h2.resolve_left hij).2
    simp only [Bool.not_eq_true',List.contains_eq_mem,decide_eq_false_iff_not] at h3
    have h4:=h3.resolve_left (fun h=>h hr)
    refine ⟨fun hlt'=>by rw [if_pos hlt'] at h4;exact h4,fun hlt'=>?_⟩
    rw [if_neg (by omega)] at h4;exact h4
   ·unfold footOk at hfo
    have hi':=hlt hi
    have hj':=hlt hj
    have hmem:(i,(List.range (ds.map (weight ·.op)).length).filter fun j=>(ds.map (weight ·.op)).getD j 0==2&&!ordered (masks (ops.toList.map preds) []) i j&&!ordered (masks (ops.toList.map preds) []) j i)∈freeOf (masks (ops.toList.map preds) []) (ds.map (weight ·.op)):=by
     unfold freeOf
     refine List.mem_map.2 ⟨i,List.mem_filter.2 ⟨by simpa using hi',?_⟩,rfl⟩
     rw [hws hi,w1];rfl
    have h1:=List.all_eq_true.1 hfo _ hmem
    simp only [f1] at h1
    have h2:=List.all_eq_true.1 h1 j (List.mem_filter.2 ⟨by simpa using hj',by rw [hws hj,w2,o1,o2];rfl⟩)
    simp only [f2] at h2
    simpa using h2
  ·cases hc
 ·cases hc
end
end Go.Den
end
section
namespace Go.Den
section
variable {E:Env} {rec:Rec} {ds:List DOper} {tm:List PV} {st:St}
def StepAt (E:Env) (rec:Rec) (tm:List PV) (st:St) (d:DOper) (v:PV) (st1:St) (f:Foot):Prop :=
 (wants tm d.guard=true∧∃ st2,stepOp E rec tm { st with lo:=st.heap.length } d.op=some (.val v st2)∧st1={ st2 with lo:=min st.lo st2.lo }∧f=fineOf d.op (footOf tm d.op st.heap.length st2.lo) st.heap st2.heap) ∨
 (wants tm d.guard=false∧v=undef∧st1=st∧f = .quiet)
structure Trace (E:Env) (rec:Rec) (ds:List DOper) (tm:List PV) (st:St) (K:Nat) (tms:Nat→List PV) (sts:Nat→St) (vs:Nat→PV) (fo:Nat→Foot):Prop where
 z1:tms 0=tm
 z2:sts 0=st
 le:K≤ds.length
 step:∀ j d,j<K→ds[j]? = some d→StepAt E rec (tms j) (sts j) d (vs j) (sts (j+1)) (fo j)∧tms (j+1)=put (tms j) d.dst (vs j)
def TEnd (E:Env) (rec:Rec) (ds:List DOper) (K:Nat) (tms:Nat→List PV) (sts:Nat→St) (e:Ex) (tm':List PV) (st':St):Prop :=
 (K=ds.length∧e = .normal∧tm'=tms K∧st'=sts K) ∨
 (K+1=ds.length∧∃ d v st2,ds[K]? = some d∧wants (tms K) d.guard=true∧stepOp E rec (tms K) { sts K with lo:=(sts K).heap.length } d.op=some (.panic v st2)∧e = .panic v∧tm'=tms K∧st'={ st2 with lo:=min (sts K).lo st2.lo })
def cons' {α:Type} (x:α) (f:Nat→α):Nat→α
 | 0=>x
 | n+1=>f n
theorem Trace.cons {d:DOper} {K:Nat} {tms:Nat→List PV} {sts:Nat→St} {vs:Nat→PV} {fo:Nat→Foot} {v:PV} {f:Foot} {st1:St} (h1:StepAt E rec tm st d v st1 f) (h:Trace E rec ds (put tm d.dst v) st1 K tms sts vs fo) :
  Trace E rec (d::ds) tm st (K+1) (cons' tm tms) (cons' st sts) (cons' v vs) (cons' f fo):=by
 refine ⟨rfl,rfl,by have:=h.le;simp;omega,fun j d' hj hd=>?_⟩
 cases j with
 | zero =>
  simp at hd;subst hd
  refine ⟨?_,?_⟩
  ·show StepAt E rec tm st d v (sts 0) f
   rw [h.z2];exact h1
  ·show tms 0=_
   rw [h.z1];rfl
 | succ j=>exact h.step j d' (by omega) (by simpa using hd)
theorem trace_of:∀ {ds:List DOper} {tm:List PV} {st:St} {e:Ex} {tm':List PV} {st':St} {fs:List Foot},stepOpsD E rec ds tm st=some (e,tm',st',fs) →
  ∃ K tms sts vs fo,Trace E rec ds tm st K tms sts vs fo∧TEnd E rec ds K tms sts e tm' st'∧∀ j,j<K→fs[j]? = some (fo j)
 | [],tm,st,e,tm',st',fs,h=>by
  simp only [stepOpsD] at h;cases h
  exact ⟨0,fun _=>tm,fun _=>st,fun _=>undef,fun _ => .quiet,⟨rfl,rfl,Nat.le_refl _,fun j d hj=>by omega⟩,.inl ⟨rfl,rfl,rfl,rfl⟩,fun j hj=>by omega⟩
 | d::ds,tm,st,e,tm',st',fs,h=>by
  have fin:∀ {v:PV} {st1:St} {f:Foot} {fs1:List Foot},StepAt E rec tm st d v st1 f→stepOpsD E rec ds (put tm d.dst v) st1=some (e,tm',st',fs1)→fs=f::fs1 →
    ∃ K tms sts vs fo,Trace E rec (d::ds) tm st K tms sts vs fo∧TEnd E rec (d::ds) K tms sts e tm' st'∧∀ j,j<K→fs[j]? = some (fo j):=by
   intro v st1 f fs1 h1 h2 h3
   obtain ⟨K,tms,sts,vs,fo,t1,t2,t3⟩:=trace_of h2
   refine ⟨K+1,cons' tm tms,cons' st sts,cons' v vs,cons' f fo,t1.cons h1,?_,fun j hj=>?_⟩
   ·rcases t2 with ⟨a1,a2,a3,a4⟩|⟨a1,d',v',st2,a2,a3,a4,a5,a6,a7⟩
    ·exact .inl ⟨by simp [a1],a2,a3,a4⟩
    ·exact .inr ⟨by simp [a1],d',v',st2,by simpa using a2,a3,a4,a5,a6,a7⟩
   ·subst h3
    cases j with
    | zero=>rfl
    | succ j=>show fs1[j]? = some (fo j);exact t3 j (by omega)
  simp only [stepOpsD] at h
  split at h
  ·rename_i hw
   split at h
   ·rename_i v st1 hs
    split at h
    ·rename_i hr;cases h
     exact fin (.inl ⟨hw,st1,hs,rfl,rfl⟩) hr rfl
    ·cases h
   ·rename_i v st1 hs
    split at h
    ·rename_i hemp
     cases h
     have hnil:ds=[]:=List.isEmpty_iff.1 hemp
     subst hnil
     exact ⟨0,fun _=>tm,fun _=>st,fun _=>undef,fun _ => .quiet,⟨rfl,rfl,Nat.zero_le _,fun j d hj=>by omega⟩,.inr ⟨rfl,d,v,st1,rfl,hw,hs,rfl,rfl,rfl⟩,fun j hj=>by omega⟩
    ·cases h
   ·cases h
  ·rename_i hw
   split at h
   ·rename_i hr;cases h
    exact fin (.inr ⟨by simpa using hw,rfl,rfl,rfl⟩) hr rfl
   ·cases h
section
variable {K:Nat} {tms:Nat→List PV} {sts:Nat→St} {vs:Nat→PV} {fo:Nat→Foot} (T:Trace E rec ds tm st K tms sts vs fo)
include T
theorem Trace.get {j:Nat} (hj:j<K):∃ d,ds[j]? = some d:=⟨_,List.getElem?_eq_getElem (Nat.lt_of_lt_of_le hj T.le)⟩
theorem Trace.grow1 (hg:GrowCall rec) {j:Nat} (hj:j<K):Grows (sts j) (sts (j+1)):=by
 obtain ⟨d,hd⟩:=T.get hj
 rcases (T.step j d hj hd).1 with ⟨_,st2,h1,h2,_⟩|⟨_,_,h2,_⟩
 ·rw [h2]
  exact Grows.reset (stepOp_grows (r := .val (vs j) st2) hg (Nat.le_refl _) h1)
 ·rw [h2];exact .refl _
theorem Trace.grow (hg:GrowCall rec) {i:Nat}:∀ {j:Nat},i≤j→j≤K→Grows (sts i) (sts j):=by
 intro j hij
 induction hij with
 | refl=>exact fun _ => .refl _
 | @step j hij ih=>exact fun hj=>(ih (by omega)).trans (T.grow1 hg (by omega))
theorem Trace.calm {j:Nat} (hj:j<K) {d:DOper} (hd:ds[j]? = some d) (hw:isHeavy (weight d.op)=false):(sts (j+1)).heap=(sts j).heap:=by
 rcases (T.step j d hj hd).1 with ⟨_,st2,h1,h2,_⟩|⟨_,_,h2,_⟩
 ·rw [h2]
  have hlt:weight d.op=0∨weight d.op=1:=by
   unfold isHeavy at hw
   have:weight d.op≤3:=by cases d.op <;> simp [weight]
   simp only [Bool.or_eq_false_iff,beq_eq_false_iff_ne] at hw
   omega
  rcases hlt with h|h
  ·obtain ⟨v,h3,_⟩:=light_val h h1;cases h3;rfl
  ·obtain ⟨v,h3,_⟩:=look_val h h1;cases h3;rfl
 ·rw [h2]
theorem Trace.made {j:Nat} (hj:j<K) {d:DOper} (hd:ds[j]? = some d) (hw:weight d.op=3):(wants (tms j) d.guard=true∧∃ z,d.op = .alloc z∧(sts (j+1)).heap=(sts j).heap++[.var z]∧vs j = .ptr (sts j).heap.length 0)∨(wants (tms j) d.guard=false∧(sts (j+1)).heap=(sts j).heap∧vs j=undef):=by
 rcases (T.step j d hj hd).1 with ⟨hwt,st2,h1,h2,hfo⟩|⟨hwt,hv,h2,hfo⟩
 ·left
  obtain ⟨dop,dst,g⟩:=d
  cases dop <;> simp only [weight] at hw <;> first|(cases hw;done)|skip
  rename_i z
  simp only [stepOp,Option.some.injEq,OpR.val.injEq] at h1
  obtain ⟨h1a,h1b⟩:=h1
  rw [h2,← h1b]
  exact ⟨hwt,z,rfl,rfl,h1a.symm⟩
 ·exact .inr ⟨hwt,by rw [h2],hv⟩
theorem Trace.ext (i:Nat):∀ {j:Nat},i≤j→j≤K→(∀ x d,i≤x→x<j→ds[x]? = some d→weight d.op≠2)→∃ e,(sts j).heap=(sts i).heap++e:=by
 intro j hij
 induction hij with
 | refl=>exact fun _ _=>⟨[],by simp⟩
 | @step j hij ih =>
  have hij':=Nat.le_trans (Nat.le_refl _) hij
  intro hj hx
  obtain ⟨e,he⟩:=ih (by omega) (fun x d h1 h2 h3=>hx x d h1 (by omega) h3)
  obtain ⟨d,hd⟩:=T.get (show j<K by omega)
  by_cases hh:isHeavy (weight d.op)=true
  ·have h3:weight d.op=3:=by
    have:=hx j d hij (Nat.lt_succ_self _) hd
    unfold isHeavy at hh
    simp only [Bool.or_eq_true,beq_iff_eq] at hh
    omega
   rcases T.made (by omega) hd h3 with ⟨_,z,_,h4,_⟩|⟨_,h4,_⟩
   ·exact ⟨e++[.var z],by rw [h4,he];simp⟩
   ·exact ⟨e,by rw [h4,he]⟩
  ·exact ⟨e,by rw [T.calm (by omega) hd (by simpa using hh),he]⟩
theorem Trace.same (hg:GrowCall rec) {i l:Nat} (hl:l<(sts i).heap.length):∀ {j:Nat},i≤j→j≤K→(∀ x d,i≤x→x<j→ds[x]? = some d→weight d.op=2→clash l (fo x)=false)→(sts j).heap[l]? = (sts i).heap[l]? := by
 intro j hij
 induction hij with
 | refl=>exact fun _ _=>rfl
 | @step j hij ih =>
  have hij':=Nat.le_trans (Nat.le_refl _) hij
  intro hj hx
  rw [← ih (by omega) (fun x d h1 h2 h3 h4=>hx x d h1 (by omega) h3 h4)]
  obtain ⟨d,hd⟩:=T.get (show j<K by omega)
  have hl':l<(sts j).heap.length:=Nat.lt_of_lt_of_le hl (T.grow hg hij (by omega)).2.1
  by_cases h2:weight d.op=2
  ·have hc:=hx j d hij (Nat.lt_succ_self _) hd h2
   rcases (T.step j d (by omega) hd).1 with ⟨_,st2,h3,h4,h5⟩|⟨_,_,h4,_⟩
   ·rw [h5] at hc
    rw [h4]
    exact foot_sound h2 hg h3 hl' hc
   ·rw [h4]
  ·by_cases h3:weight d.op=3
   ·rcases T.made (by omega) hd h3 with ⟨_,z,_,h4,_⟩|⟨_,h4,_⟩
    ·rw [h4,List.getElem?_append_left hl']
    ·rw [h4]
   ·rw [T.calm (by omega) hd (by unfold isHeavy;simp [h2,h3])]
omit T in
theorem put_length (tm:List PV) (dst:Option Nat) (v:PV):(put tm dst v).length=tm.length:=by cases dst <;> simp [put]
theorem Trace.tlen {j:Nat} (hj:j≤K):(tms j).length=tm.length:=by
 induction j with
 | zero=>rw [T.z1]
 | succ j ih =>
  obtain ⟨d,hd⟩:=T.get (show j<K by omega)
  rw [(T.step j d (by omega) hd).2,put_length,ih (by omega)]
theorem Trace.old {t:Nat} {j:Nat} (hj:j≤K) (hx:∀ x d,x<j→ds[x]? = some d→d.dst≠some t):(tms j)[t]? = tm[t]? := by
 induction j with
 | zero=>rw [T.z1]
 | succ j ih =>
  obtain ⟨d,hd⟩:=T.get (show j<K by omega)
  have ih:=ih (by omega) (fun x d h1 h2=>hx x d (by omega) h2)
  rw [← ih,(T.step j d (by omega) hd).2]
  have:=hx j d (Nat.lt_succ_self _) hd
  cases hdst:d.dst with
  | none=>rfl
  | some t' =>
   rw [hdst] at this
   simp only [put]
   rw [List.getElem?_set_ne (fun e=>this (by rw [e]))]
theorem Trace.new {t i:Nat} (hi:i<K) {di:DOper} (hdi:ds[i]? = some di) (ht:di.dst=some t) (htl:t<tm.length) (huniq:∀ x d,x≠i→ds[x]? = some d→d.dst≠some t):∀ {j:Nat},i+1≤j→j≤K→(tms j)[t]? = some (vs i):=by
 intro j hij
 induction hij with
 | refl =>
  intro hj
  rw [(T.step i di hi hdi).2,ht]
  simp only [put]
  rw [List.getElem?_set_self (by rw [T.tlen (by omega)];exact htl)]
 | @step j hij ih =>
  have hij':=Nat.le_trans (Nat.le_refl _) hij
  intro hj
  obtain ⟨d,hd⟩:=T.get (show j<K by omega)
  have ih:=ih (by omega)
  rw [← ih,(T.step j d (by omega) hd).2]
  have:=huniq j d (by omega) hd
  cases hdst:d.dst with
  | none=>rfl
  | some t' =>
   rw [hdst] at this
   simp only [put]
   rw [List.getElem?_set_ne (fun e=>this (by rw [e]))]
theorem Trace.next:∀ (n x:Nat),K - x=n→x≤K→∃ c,x≤c∧c≤K∧(c=K∨∃ d,c<K∧ds[c]? = some d∧weight d.op=2)∧∀ y d,x≤y→y<c→ds[y]? = some d→weight d.op≠2
 | 0,x,hn,hx=>⟨x,Nat.le_refl _,hx,.inl (by omega),fun y d h1 h2=>by omega⟩
 | n+1,x,hn,hx=>by
  obtain ⟨d,hd⟩:=T.get (show x<K by omega)
  by_cases h2:weight d.op=2
  ·exact ⟨x,Nat.le_refl _,hx,.inr ⟨d,by omega,hd,h2⟩,fun y d h1 h2=>by omega⟩
  ·obtain ⟨c,h3,h4,h5,h6⟩:=Trace.next n (x+1) (by omega) (by omega)
   refine ⟨c,by omega,h4,h5,fun y d' h7 h8 h9=>?_⟩
   by_cases hy:y=x
   ·subst hy;rw [hd] at h9;cases h9;exact h2
   ·exact h6 y d' (by omega) h8 h9
end
end
end Go.Den
end

/- Part of the proofs of laws of the package chest. Texts: DenWorld, DenWorldB, DenFinish. -/
import Derived.Test.YtoeigapilcgelaaGreatDoorK8Aa
set_option linter.unusedSimpArgs false
set_option linter.unusedVariables false
section
namespace Go.Den
def LStR : LSt → LoopState → Prop
 | .ready,s => s = .ready
 | .busy,s => s = .busy
 | .done,s => s = .done
 | .over,s => s = .exhausted
def JumpR : Option Jump → Option Code → Prop
 | none,c => c = none
 | some .ret,c => c = some .ret
 | some (.exit id),c => c = some (.exit id)
def EsR (G : Gh) (w : World) : List (PV × PV) → List MapEntry → Prop
 | [],es => es = []
 | (k,v) :: r,es => ∃ e es',es = e :: es' ∧ VR G w k e.key ∧ VR G w v e.val ∧ EsR G w r es'
def Thawed (fr : Nat × Nat) (n : Nat) : Prop := ∀ o,o < n → (decide (fr.1 ≤ o) && decide (o < fr.2)) = false
theorem Thawed.zero (n : Nat) : Thawed (0,0) n := fun o _ => by simp
section
variable (P : Program)
def ObjR (G : Gh) (w : World) : HObj → Nat → Prop
 | .var cs,b => ∃ (arr : Array Value) (T : TypeId),w.heap[b]? = some (Obj.cells arr T (0,0)) ∧ VRL G w cs arr.toList
 | .map es,b => ∃ ents clock,w.heap[b]? = some (Obj.map ents clock) ∧ EsR G w es ents.toList
 | .loop tm ps as bd s pend,b => ∃ r : Loop,w.heap[b]? = some (Obj.loop r) ∧ VRL G w tm r.tmps.toList ∧ r.params.toList = ps ∧
   (∃ mu,codeC P mu r.assign = some as ∧ codeC P mu r.body = some bd) ∧ LStR s r.state ∧ JumpR pend r.pending
 | .iter s pos,b => w.heap[b]? = some (Obj.stringIter s pos)
 | _,_ => False
def Live : Option HObj → Prop
 | some (.tag true) => True
 | some (.arr _) => True
 | _ => False
def TagR (G : Gh) (w : World) (b e : Nat) : Option HObj → Prop
 | some (.tag true) => G.cm b = some e ∧ ∃ (arr : Array Value) (T : TypeId) (fr : Nat × Nat),w.heap[b]? = some (Obj.cells arr T fr) ∧ Thawed fr arr.size
 | some (.arr cs) => G.cm b = none ∧ e = cs.length ∧ (∃ (arr : Array Value) (T : TypeId) (fr : Nat × Nat),w.heap[b]? = some (Obj.cells arr T fr) ∧ e ≤ arr.size ∧ Thawed fr arr.size) ∧ VRC G w cs b 0
 | _ => True
structure WR (B0 : Nat) (w0 : World) (G : Gh) (h : List HObj) (w : World) : Prop where
 dom : ∀ {l},h.length ≤ l → G.be l = none ∧ G.tg l = none
 obj : ∀ {l b},G.be l = some b → B0 ≤ b ∧ b < w.heap.size ∧ G.cm b = none ∧ (∀ t e,G.tg t ≠ some (b,e)) ∧ ∃ o,h[l]? = some o ∧ ObjR P G w o b
 inj : ∀ {l l' b},G.be l = some b → G.be l' = some b → l = l'
 tag : ∀ {t b e},G.tg t = some (b,e) → B0 ≤ b ∧ b < w.heap.size ∧ TagR G w b e h[t]?
 tinj : ∀ {t t' b e e'},G.tg t = some (b,e) → G.tg t' = some (b,e') → Live h[t]? → Live h[t']? → t = t'
 com : ∀ {b n},G.cm b = some n → HasRow w b n
 low : B0 ≤ w.heap.size ∧ ∀ b,b < B0 → w.heap[b]? = w0.heap[b]?
 out : w.os = w0.os ∧ w.output = w0.output
structure Ext (G : Gh) (h : List HObj) (w : World) (G' : Gh) (h' : List HObj) (w' : World) (lo : Nat) : Prop where
 pres : Pres G w G' w'
 len : h.length ≤ h'.length
 pre : ∀ {l},l < lo → l < h.length → h'[l]? = h[l]?
 size : w.heap.size ≤ w'.heap.size
 frame : ∀ {b},b < w.heap.size → (∀ l,G.be l ≠ some b) → (∀ t e,G.tg t ≠ some (b,e)) → G.cm b = none → w'.heap[b]? = w.heap[b]?
 keep : ∀ {l b},l < lo → G.be l = some b → w'.heap[b]? = w.heap[b]?
 keepT : ∀ {t b e cs},t < lo → G.tg t = some (b,e) → h[t]? = some (.arr cs) → w'.heap[b]? = w.heap[b]?
 loops : ∀ {b : Nat} {r : Loop},w.heap[b]? = some (Obj.loop r) → ∃ r',w'.heap[b]? = some (Obj.loop r') ∧ r'.defers = r.defers
 nbe : ∀ {l b},G'.be l = some b → G.be l = none → h.length ≤ l ∧ w.heap.size ≤ b
 ntg : ∀ {t b e},G'.tg t = some (b,e) → G.tg t = none → h.length ≤ t ∧ (w.heap.size ≤ b ∨ ∃ t' e',G.tg t' = some (b,e'))
 ncm : ∀ {b k},G'.cm b = some k → G.cm b = none → w.heap.size ≤ b ∨ ∃ t e,G.tg t = some (b,e)
theorem Ext.lo {G h w G' h' w' lo lo'} (x : Ext G h w G' h' w' lo) (hl : lo' ≤ lo) : Ext G h w G' h' w' lo' :=
 { x with pre := fun a b => x.pre (by omega) b,keep := fun a b => x.keep (by omega) b,keepT := fun a b c => x.keepT (by omega) b c }
theorem Ext.refl (G h w lo) : Ext G h w G h w lo :=
 ⟨.refl _ _,Nat.le_refl _,fun _ _ => rfl,Nat.le_refl _,fun _ _ _ _ => rfl,fun _ _ => rfl,fun _ _ _ => rfl,fun h => ⟨_,h,rfl⟩,
  fun a b => (by rw [a] at b;cases b),fun a b => (by rw [a] at b;cases b),fun a b => (by rw [a] at b;cases b)⟩
theorem Ext.same {G h w w' lo} (e : w'.heap = w.heap) : Ext G h w G h w' lo := by
 have hp : Pres G w G w' := ⟨id,id,fun x => ⟨_,Nat.le_refl _,x⟩,fun x => ⟨_,by rw [e];exact x,rfl⟩,fun _ _ => by unfold World.cell?;rw [e]⟩
 exact ⟨hp,Nat.le_refl _,fun _ _ => rfl,by rw [e];exact Nat.le_refl _,fun _ _ _ _ => by rw [e],fun _ _ => by rw [e],fun _ _ _ => by rw [e],fun h => ⟨_,by rw [e];exact h,rfl⟩,
  fun a b => (by rw [a] at b;cases b),fun a b => (by rw [a] at b;cases b),fun a b => (by rw [a] at b;cases b)⟩
theorem Ext.trans {G h w G1 h1 w1 G2 h2 w2 lo} (x : Ext G h w G1 h1 w1 lo) (y : Ext G1 h1 w1 G2 h2 w2 lo) : Ext G h w G2 h2 w2 lo where
 pres := x.pres.trans y.pres
 len := Nat.le_trans x.len y.len
 pre := fun a b => by rw [y.pre a (Nat.lt_of_lt_of_le b x.len),x.pre a b]
 size := Nat.le_trans x.size y.size
 frame := fun {b} a b1 b2 b3 => by
  rw [y.frame (Nat.lt_of_lt_of_le a x.size) ?_ ?_ ?_,x.frame a b1 b2 b3]
  ·intro l e
   cases hb : G.be l with
   | none => have := (x.nbe e hb).2;omega
   | some b' =>
    have := x.pres.be hb
    rw [e] at this;cases this
    exact b1 l hb
  ·intro t e he
   cases hb : G.tg t with
   | none =>
    rcases (x.ntg he hb).2 with h3 | ⟨t',e',h3⟩
    ·omega
    ·exact b2 t' e' h3
   | some p =>
    have := x.pres.tg hb
    rw [he] at this;cases this
    exact b2 t e hb
  ·cases hc : G1.cm b with
   | none => rfl
   | some k =>
    rcases x.ncm hc b3 with h3 | ⟨t',e',h3⟩
    ·omega
    ·exact absurd h3 (b2 t' e')
 keep := fun a b => by rw [y.keep a (x.pres.be b),x.keep a b]
 keepT := fun {t b e cs} a b1 c => by
  have hl : t < h.length := (List.getElem?_eq_some_iff.1 c).1
  rw [y.keepT a (x.pres.tg b1) (by rw [x.pre a hl];exact c),x.keepT a b1 c]
 loops := fun a => by
  obtain ⟨r1,b1,c1⟩ := x.loops a
  obtain ⟨r2,b2,c2⟩ := y.loops b1
  exact ⟨r2,b2,c2.trans c1⟩
 nbe := fun {l b} a b1 => by
  cases hc : G1.be l with
  | none => have := y.nbe a hc;have := x.len;have := x.size;omega
  | some b' =>
   have := y.pres.be hc
   rw [a] at this;cases this
   exact x.nbe hc b1
 ntg := fun {t b e} a b1 => by
  cases hc : G1.tg t with
  | none =>
   obtain ⟨h3,h4⟩ := y.ntg a hc
   refine ⟨Nat.le_trans x.len h3,?_⟩
   rcases h4 with h4 | ⟨t',e',h4⟩
   ·exact .inl (Nat.le_trans x.size h4)
   ·cases hd : G.tg t' with
    | none => exact (x.ntg h4 hd).2
    | some p => have := x.pres.tg hd;rw [h4] at this;cases this;exact .inr ⟨_,_,hd⟩
  | some p =>
   have := y.pres.tg hc
   rw [a] at this;cases this
   exact x.ntg hc b1
 ncm := fun {b k} a b1 => by
  cases hc : G1.cm b with
  | none =>
   rcases y.ncm a hc with h4 | ⟨t',e',h4⟩
   ·exact .inl (Nat.le_trans x.size h4)
   ·cases hd : G.tg t' with
    | none => exact (x.ntg h4 hd).2
    | some p => have := x.pres.tg hd;rw [h4] at this;cases this;exact .inr ⟨_,_,hd⟩
  | some p => exact x.ncm hc b1
theorem EsR.mono {G w G' w'} (h : Pres G w G' w') : ∀ {es : List (PV × PV)} {ms : List MapEntry},EsR G w es ms → EsR G' w' es ms
 | [],ms,r => r
 | (k,v) :: es,ms,r => by
  obtain ⟨e,es',h1,h2,h3,h4⟩ := r
  exact ⟨e,es',h1,h2.mono h,h3.mono h,EsR.mono h h4⟩
variable {P}
theorem ObjR.mono {G w G' w' o b} (h : Pres G w G' w') (hb : w'.heap[b]? = w.heap[b]?) (r : ObjR P G w o b) : ObjR P G' w' o b := by
 cases o with
 | var cs => obtain ⟨arr,T,h1,h2⟩ := r;exact ⟨arr,T,by rw [hb];exact h1,h2.mono h⟩
 | map es => obtain ⟨a,c,h1,h2⟩ := r;exact ⟨a,c,by rw [hb];exact h1,h2.mono h⟩
 | loop tm ps as bd s pend => obtain ⟨r,h1,h2,h3⟩ := r;exact ⟨r,by rw [hb];exact h1,h2.mono h,h3⟩
 | iter s pos => show w'.heap[b]? = _;rw [hb];exact r
 | tag o => exact r
 | arr cs => exact r
theorem cell_of_heap {w w' : World} {b : Nat} (hb : w'.heap[b]? = w.heap[b]?) (o : Nat) : w'.cell? ⟨b,o,none⟩ = w.cell? ⟨b,o,none⟩ := by
 unfold World.cell?;simp only [hb]
theorem TagR.mono {G w G' w' b e} {o : Option HObj} (h : Pres G w G' w') (ht : o = some (.tag true) → G'.cm b = some e) (ha : ∀ cs,o = some (.arr cs) → G'.cm b = none ∧ w'.heap[b]? = w.heap[b]?)
  (r : TagR G w b e o) : TagR G' w' b e o := by
 match o,r with
 | some (.tag true),r =>
  obtain ⟨h1,arr,T,fr,h2,h3⟩ := r
  obtain ⟨arr',h4,h5⟩ := h.row h2
  exact ⟨ht rfl,arr',T,fr,h4,by rw [h5];exact h3⟩
 | some (.tag false),_ => trivial
 | some (.arr cs),r =>
  obtain ⟨h1,h2,⟨arr,T,fr,h3,h4⟩,h5⟩ := r
  obtain ⟨g1,g2⟩ := ha cs rfl
  exact ⟨g1,h2,⟨arr,T,fr,by rw [g2];exact h3,h4⟩,h5.mono h (fun o _ _ => cell_of_heap g2 o)⟩
 | some (.var _),_ => trivial
 | some (.map _),_ => trivial
 | some (.loop ..),_ => trivial
 | some (.iter ..),_ => trivial
 | none,_ => trivial
theorem WR.same {B0 w0 G h w w'} (r : WR P B0 w0 G h w) (e : w'.heap = w.heap) (eo : w'.os = w.os ∧ w'.output = w.output := by exact ⟨rfl,rfl⟩) : WR P B0 w0 G h w' := by
 have hp := (Ext.same (G := G) (h := h) (lo := 0) e).pres
 exact ⟨r.dom,fun x => let ⟨a,b,c,d,o,f,g⟩ := r.obj x;⟨a,by rw [e];exact b,c,d,o,f,g.mono hp (by rw [e])⟩,r.inj,
  fun x => let ⟨a,b,c⟩ := r.tag x;⟨a,by rw [e];exact b,c.mono hp (fun he => by rw [he] at c;exact c.1) (fun cs he => by rw [he] at c;exact ⟨c.1,by rw [e]⟩)⟩,
  r.tinj,fun x => hp.hasRow (r.com x),by rw [e];exact r.low,by rw [eo.1,eo.2];exact r.out⟩
def upd {α : Type} (f : Nat → α) (i : Nat) (x : α) : Nat → α := fun j => if j = i then x else f j
theorem upd_same {α : Type} (f : Nat → α) (i : Nat) (x : α) : upd f i x i = x := by simp [upd]
theorem upd_ne {α : Type} (f : Nat → α) {i j : Nat} (x : α) (h : j ≠ i) : upd f i x j = f j := by simp [upd,h]
theorem getElem?_snoc {α : Type} (l : List α) (x : α) (i : Nat) : (l ++ [x])[i]? = if i = l.length then some x else l[i]? := by
 by_cases h : i = l.length
 ·subst h;simp
 ·rw [if_neg h]
  by_cases h' : i < l.length
  ·rw [List.getElem?_append_left h']
  ·rw [List.getElem?_append_right (by omega),List.getElem?_eq_none (by simp;omega),List.getElem?_eq_none (by omega)]
theorem heap_alloc_lt (w : World) (o : Obj) {b : Nat} (h : b < w.heap.size) : (w.alloc o).heap[b]? = w.heap[b]? := by
 simp only [World.alloc];rw [Array.getElem?_push];rw [if_neg (by omega)]
theorem heap_alloc_new (w : World) (o : Obj) : (w.alloc o).heap[w.heap.size]? = some o := by
 show (w.heap.push o)[w.heap.size]? = some o
 simp
theorem size_alloc (w : World) (o : Obj) : (w.alloc o).heap.size = w.heap.size + 1 := by
 show (w.heap.push o).size = _
 simp
theorem lt_of_heap {w : World} {b : Nat} {o : Obj} (h : w.heap[b]? = some o) : b < w.heap.size := (Array.getElem?_eq_some_iff.1 h).1
theorem cell_alloc_lt (w : World) (o : Obj) {b i : Nat} (h : b < w.heap.size) : (w.alloc o).cell? ⟨b,i,none⟩ = w.cell? ⟨b,i,none⟩ :=
 cell_of_heap (heap_alloc_lt w o h) i
theorem WR.cmLt {B0 w0 G h w} (r : WR P B0 w0 G h w) {b n} (x : G.cm b = some n) : b < w.heap.size := by
 obtain ⟨_,_,_,h1,_⟩ := r.com x
 exact lt_of_heap h1
theorem alloc_obj {B0 w0 G h w} (r : WR P B0 w0 G h w) (o : HObj) (obj : Obj)
  (ho : ∀ G' w',Pres G w G' w' → w'.heap[w.heap.size]? = some obj → G'.be h.length = some w.heap.size → ObjR P G' w' o w.heap.size) :
  WR P B0 w0 { G with be := upd G.be h.length (some w.heap.size) } (h ++ [o]) (w.alloc obj) ∧
  ∀ lo,Ext G h w { G with be := upd G.be h.length (some w.heap.size) } (h ++ [o]) (w.alloc obj) lo := by
 have hd := r.dom (l := h.length) (Nat.le_refl _)
 have hp : Pres G w { G with be := upd G.be h.length (some w.heap.size) } (w.alloc obj) := by
  refine ⟨fun {l b} x => ?_,id,fun x => ⟨_,Nat.le_refl _,x⟩,fun {b arr T fr} x => ⟨arr,?_,rfl⟩,fun {b n o} x y => ?_⟩
  ·show upd _ _ _ _ = _
   rw [upd_ne]
   ·exact x
   ·intro e;subst e;rw [hd.1] at x;cases x
  ·rw [heap_alloc_lt _ _ (lt_of_heap x)];exact x
  ·exact cell_alloc_lt _ _ (r.cmLt x)
 refine ⟨⟨?_,?_,?_,?_,?_,?_,?_,r.out⟩,fun lo => ⟨hp,by simp,fun _ hl => ?_,by rw [size_alloc];omega,?_,?_,?_,?_,?_,?_,?_⟩⟩
 ·intro l hl
  simp at hl
  refine ⟨?_,(r.dom (by omega)).2⟩
  show upd _ _ _ _ = _
  rw [upd_ne _ _ (by omega)]
  exact (r.dom (by omega)).1
 ·intro l b hb
  by_cases hl : l = h.length
  ·subst hl
   have : upd G.be h.length (some w.heap.size) h.length = some b := hb
   rw [upd_same] at this
   cases this
   refine ⟨r.low.1,by rw [size_alloc];omega,?_,?_,o,by simp,ho _ _ hp (heap_alloc_new _ _) (upd_same _ _ _)⟩
   ·cases hc : G.cm w.heap.size with
    | none => rfl
    | some n => have := r.cmLt hc;omega
   ·intro t e x
    have := (r.tag x).2.1
    omega
  ·have hb' : upd G.be h.length (some w.heap.size) l = some b := hb
   rw [upd_ne _ _ hl] at hb'
   obtain ⟨a1,a2,a3,a4,o',a5,a6⟩ := r.obj hb'
   exact ⟨a1,by rw [size_alloc];omega,a3,a4,o',by rw [getElem?_snoc,if_neg hl];exact a5,a6.mono hp (heap_alloc_lt _ _ a2)⟩
 ·intro l l' b x y
  have x' : upd G.be h.length (some w.heap.size) l = some b := x
  have y' : upd G.be h.length (some w.heap.size) l' = some b := y
  by_cases hl : l = h.length <;> by_cases hl' : l' = h.length
  ·omega
  ·subst hl
   rw [upd_same] at x';cases x'
   rw [upd_ne _ _ hl'] at y'
   have := (r.obj y').2.1
   omega
  ·subst hl'
   rw [upd_same] at y';cases y'
   rw [upd_ne _ _ hl] at x'
   have := (r.obj x').2.1
   omega
  ·rw [upd_ne _ _ hl] at x'
   rw [upd_ne _ _ hl'] at y'
   exact r.inj x' y'
 ·intro t b e x
  obtain ⟨a1,a2,a3⟩ := r.tag x
  have ht : t ≠ h.length := by intro e;subst e;rw [hd.2] at x;cases x
  refine ⟨a1,by rw [size_alloc];omega,?_⟩
  rw [getElem?_snoc,if_neg ht]
  exact a3.mono hp (fun he => by rw [he] at a3;exact a3.1) (fun cs he => by rw [he] at a3;exact ⟨a3.1,heap_alloc_lt _ _ a2⟩)
 ·intro t t' b e e' x y l1 l2
  have ht : t ≠ h.length := by intro e;subst e;rw [hd.2] at x;cases x
  have ht' : t' ≠ h.length := by intro e;subst e;rw [hd.2] at y;cases y
  rw [getElem?_snoc,if_neg ht] at l1
  rw [getElem?_snoc,if_neg ht'] at l2
  exact r.tinj x y l1 l2
 ·intro b n x
  exact hp.hasRow (r.com x)
 ·refine ⟨by rw [size_alloc];have := r.low.1;omega,fun b hb => ?_⟩
  rw [heap_alloc_lt _ _ (Nat.lt_of_lt_of_le hb r.low.1)]
  exact r.low.2 b hb
 ·rw [getElem?_snoc,if_neg (by omega)]
 ·intro b a _ _ _;exact heap_alloc_lt _ _ a
 ·intro l b _ x;exact heap_alloc_lt _ _ (r.obj x).2.1
 ·intro t b e cs _ x _;exact heap_alloc_lt _ _ (r.tag x).2.1
 ·intro b r' x;exact ⟨r',by rw [heap_alloc_lt _ _ (lt_of_heap x)];exact x,rfl⟩
 ·intro l b x y
  have x' : upd G.be h.length (some w.heap.size) l = some b := x
  by_cases hl : l = h.length
  ·subst hl;rw [upd_same] at x';cases x';exact ⟨Nat.le_refl _,Nat.le_refl _⟩
  ·rw [upd_ne _ _ hl] at x';rw [x'] at y;cases y
 ·intro t b e x y;have x' : G.tg t = _ := x;rw [x'] at y;cases y
 ·intro b k x y;have x' : G.cm b = _ := x;rw [x'] at y;cases y
end
end Go.Den
end
section
namespace Go.Den
section
variable {P : Program}
theorem heap_put_same {w : World} {b : Nat} {o : Obj} (h : b < w.heap.size) : (w.putObj b o).heap[b]? = some o := World.putObj_heap_same h
theorem heap_put_other {w : World} {b k : Nat} {o : Obj} (h : k ≠ b) : (w.putObj b o).heap[k]? = w.heap[k]? := World.putObj_heap_other h
theorem size_put {w : World} {b : Nat} {o : Obj} : (w.putObj b o).heap.size = w.heap.size := by simp
theorem cell_put_other {w : World} {b k i : Nat} {o : Obj} (h : k ≠ b) : (w.putObj b o).cell? ⟨k,i,none⟩ = w.cell? ⟨k,i,none⟩ :=
 cell_of_heap (heap_put_other h) i
theorem cell_row {w : World} {b : Nat} {arr : Array Value} {T : TypeId} {fr : Nat × Nat} (h : w.heap[b]? = some (Obj.cells arr T fr)) (i : Nat) : w.cell? ⟨b,i,none⟩ = arr[i]? := by
 unfold World.cell?
 simp [h]
theorem getElem?_set' {α : Type} (l : List α) (i j : Nat) (x : α) (h : i < l.length) : (l.set i x)[j]? = if j = i then some x else l[j]? := by
 rw [List.getElem?_set]
 by_cases e : i = j
 ·subst e;simp [h]
 ·rw [if_neg e,if_neg (fun h => e h.symm)]
theorem alloc_row {B0 w0 G h w} (r : WR P B0 w0 G h w) (m : Bool) (cs : List PV) (arr : Array Value) (T : TypeId) (fr : Nat × Nat) (hl : cs.length ≤ arr.size) (hf : Thawed fr arr.size)
  (hc : ∀ G' w',Pres G w G' w' → w'.heap[w.heap.size]? = some (Obj.cells arr T fr) → VRC G' w' cs w.heap.size 0) :
  let G' : Gh := { be := G.be,tg := upd G.tg h.length (some (w.heap.size,cs.length)),cm := if m then G.cm else upd G.cm w.heap.size (some cs.length) }
  let h' := h ++ [if m then HObj.arr cs else HObj.tag true]
  let w' := w.alloc (Obj.cells arr T fr)
  WR P B0 w0 G' h' w' ∧ (∀ lo,Ext G h w G' h' w' lo) ∧ VRC G' w' cs w.heap.size 0 := by
 intro G' h' w'
 have hd := r.dom (l := h.length) (Nat.le_refl _)
 have hcm0 : G.cm w.heap.size = none := by
  cases hc : G.cm w.heap.size with
  | none => rfl
  | some n => have := r.cmLt hc;omega
 have hcmlt : ∀ {b},b ≠ w.heap.size → G'.cm b = G.cm b := by
  intro b hb
  show (if m then G.cm else upd G.cm w.heap.size (some cs.length)) b = _
  cases m
  ·simp only [Bool.false_eq_true,if_false];exact upd_ne _ _ hb
  ·rfl
 have hp : Pres G w G' w' := by
  refine ⟨id,fun {l x} hx => ?_,fun {b n} x => ⟨n,Nat.le_refl _,?_⟩,fun {b arr T fr} x => ⟨arr,?_,rfl⟩,fun {b n o} x y => ?_⟩
  ·show upd _ _ _ _ = _
   rw [upd_ne]
   ·exact hx
   ·intro e;subst e;rw [hd.2] at hx;cases hx
  ·rw [hcmlt]
   ·exact x
   ·intro e;subst e;rw [hcm0] at x;cases x
  ·rw [heap_alloc_lt _ _ (lt_of_heap x)];exact x
  ·exact cell_alloc_lt _ _ (r.cmLt x)
 have hvrc : VRC G' w' cs w.heap.size 0 := hc _ _ hp (heap_alloc_new _ _)
 have htg : ∀ {t x},G'.tg t = some x → t ≠ h.length → G.tg t = some x := by
  intro t x hx ht
  have : upd G.tg h.length (some (w.heap.size,cs.length)) t = some x := hx
  rwa [upd_ne _ _ ht] at this
 have htn : ∀ {x},G'.tg h.length = some x → x = (w.heap.size,cs.length) := by
  intro x hx
  have : upd G.tg h.length (some (w.heap.size,cs.length)) h.length = some x := hx
  rw [upd_same] at this
  exact (Option.some.inj this).symm
 refine ⟨⟨?_,?_,r.inj,?_,?_,?_,?_,r.out⟩,fun lo => ⟨hp,by simp [h'],fun _ hl => ?_,by rw [size_alloc];omega,?_,?_,?_,?_,?_,?_,?_⟩,hvrc⟩
 ·intro l hl
  simp [h'] at hl
  refine ⟨(r.dom (by omega)).1,?_⟩
  show upd _ _ _ _ = _
  rw [upd_ne _ _ (by omega)]
  exact (r.dom (by omega)).2
 ·intro l b hb
  obtain ⟨a1,a2,a3,a4,o',a5,a6⟩ := r.obj hb
  refine ⟨a1,by rw [size_alloc];omega,by rw [hcmlt (by omega)];exact a3,fun t e x => ?_,o',?_,a6.mono hp (heap_alloc_lt _ _ a2)⟩
  ·by_cases ht : t = h.length
   ·subst ht;have := htn x;cases this;omega
   ·exact a4 t e (htg x ht)
  ·rw [getElem?_snoc,if_neg]
   ·exact a5
   ·intro e;subst e;rw [hd.1] at hb;cases hb
 ·intro t b e x
  by_cases ht : t = h.length
  ·subst ht
   have := htn x
   cases this
   refine ⟨r.low.1,by rw [size_alloc];omega,?_⟩
   rw [getElem?_snoc,if_pos rfl]
   cases m
   ·exact ⟨upd_same _ _ _,arr,T,fr,heap_alloc_new _ _,hf⟩
   ·exact ⟨hcm0,rfl,⟨arr,T,fr,heap_alloc_new _ _,hl,hf⟩,hvrc⟩
  ·obtain ⟨a1,a2,a3⟩ := r.tag (htg x ht)
   refine ⟨a1,by rw [size_alloc];omega,?_⟩
   rw [getElem?_snoc,if_neg ht]
   exact a3.mono hp (fun he => by rw [he] at a3;rw [hcmlt (by omega)];exact a3.1) (fun cs he => by rw [he] at a3;exact ⟨by rw [hcmlt (by omega)];exact a3.1,heap_alloc_lt _ _ a2⟩)
 ·intro t t' b e e' x y l1 l2
  by_cases ht : t = h.length <;> by_cases ht' : t' = h.length
  ·omega
  ·subst ht
   have := htn x;cases this
   have := (r.tag (htg y ht')).2.1
   omega
  ·subst ht'
   have := htn y;cases this
   have := (r.tag (htg x ht)).2.1
   omega
  ·rw [getElem?_snoc,if_neg ht] at l1
   rw [getElem?_snoc,if_neg ht'] at l2
   exact r.tinj (htg x ht) (htg y ht') l1 l2
 ·intro b n x
  by_cases hb : b = w.heap.size
  ·subst hb
   cases m
   ·have : upd G.cm w.heap.size (some cs.length) w.heap.size = some n := x
    rw [upd_same] at this;cases this
    exact ⟨arr,T,fr,heap_alloc_new _ _,hl⟩
   ·have : G.cm w.heap.size = some n := x
    rw [hcm0] at this;cases this
  ·rw [hcmlt hb] at x
   exact hp.hasRow (r.com x)
 ·refine ⟨by rw [size_alloc];have := r.low.1;omega,fun b hb => ?_⟩
  rw [heap_alloc_lt _ _ (Nat.lt_of_lt_of_le hb r.low.1)]
  exact r.low.2 b hb
 ·rw [getElem?_snoc,if_neg (by omega)]
 ·intro b a _ _ _;exact heap_alloc_lt _ _ a
 ·intro l b _ x;exact heap_alloc_lt _ _ (r.obj x).2.1
 ·intro t b e cs _ x _;exact heap_alloc_lt _ _ (r.tag x).2.1
 ·intro b r' x;exact ⟨r',by rw [heap_alloc_lt _ _ (lt_of_heap x)];exact x,rfl⟩
 ·intro l b x y;have x' : G.be l = _ := x;rw [x'] at y;cases y
 ·intro t b e x y
  by_cases ht : t = h.length
  ·subst ht;have := htn x;cases this;exact ⟨Nat.le_refl _,.inl (Nat.le_refl _)⟩
  ·rw [htg x ht] at y;cases y
 ·intro b k x y
  by_cases hb : b = w.heap.size
  ·exact .inl (by omega)
  ·rw [hcmlt hb] at x;rw [x] at y;cases y
theorem set_obj {B0 w0 G h w} (r : WR P B0 w0 G h w) {l b : Nat} (hb : G.be l = some b) (o : HObj) (obj : Obj)
  (hrow : ∀ arr T fr,w.heap[b]? = some (Obj.cells arr T fr) → ∃ arr',obj = Obj.cells arr' T fr ∧ arr'.size = arr.size)
  (hloop : ∀ r,w.heap[b]? = some (Obj.loop r) → ∃ r',obj = Obj.loop r' ∧ r'.defers = r.defers)
  (ho : ∀ w',Pres G w G w' → w'.heap[b]? = some obj → ObjR P G w' o b) :
  WR P B0 w0 G (h.set l o) (w.putObj b obj) ∧ ∀ lo,lo ≤ l → Ext G h w G (h.set l o) (w.putObj b obj) lo := by
 obtain ⟨b1,b2,b3,b4,o0,b5,b6⟩ := r.obj hb
 have hll : l < h.length := (List.getElem?_eq_some_iff.1 b5).1
 have hp : Pres G w G (w.putObj b obj) := by
  refine ⟨id,id,fun x => ⟨_,Nat.le_refl _,x⟩,fun {k arr T fr} x => ?_,fun {k n o} x y => cell_put_other (by intro e;subst e;rw [b3] at x;cases x)⟩
  by_cases hk : k = b
  ·subst hk
   obtain ⟨arr',h1,h2⟩ := hrow _ _ _ x
   exact ⟨arr',by rw [heap_put_same b2,h1],h2⟩
  ·exact ⟨arr,by rw [heap_put_other hk];exact x,rfl⟩
 have hnb : ∀ {l' b'},G.be l' = some b' → l' ≠ l → b' ≠ b := fun x hne e => hne (r.inj x (e ▸ hb))
 have hntb : ∀ {t b' e},G.tg t = some (b',e) → b' ≠ b := fun {t b' e} x e' => b4 t e (e' ▸ x)
 refine ⟨⟨?_,?_,r.inj,?_,?_,?_,?_,r.out⟩,fun lo hlo => ⟨hp,by simp,fun {k} a c => ?_,by rw [size_put];omega,?_,?_,?_,?_,?_,?_,?_⟩⟩
 ·intro k hk;simp at hk;exact r.dom hk
 ·intro l' b' x
  obtain ⟨a1,a2,a3,a4,o',a5,a6⟩ := r.obj x
  refine ⟨a1,by rw [size_put];exact a2,a3,a4,?_⟩
  by_cases hl' : l' = l
  ·subst hl'
   rw [hb] at x;cases x
   exact ⟨o,by rw [getElem?_set' _ _ _ _ hll,if_pos rfl],ho _ hp (heap_put_same b2)⟩
  ·exact ⟨o',by rw [getElem?_set' _ _ _ _ hll,if_neg hl'];exact a5,a6.mono hp (heap_put_other (hnb x hl'))⟩
 ·intro t b' e x
  obtain ⟨a1,a2,a3⟩ := r.tag x
  refine ⟨a1,by rw [size_put];exact a2,?_⟩
  by_cases ht : t = l
  ·subst ht
   rw [getElem?_set' _ _ _ _ hll,if_pos rfl]
   have := ho _ hp (heap_put_same b2)
   cases o with
   | tag o => exact this.elim
   | arr cs => exact this.elim
   | _ => trivial
  ·rw [getElem?_set' _ _ _ _ hll,if_neg ht]
   exact a3.mono hp (fun he => by rw [he] at a3;exact a3.1) (fun cs he => by rw [he] at a3;exact ⟨a3.1,heap_put_other (hntb x)⟩)
 ·intro t t' b' e e' x y l1 l2
  have aux : ∀ t : Nat,Live (h.set l o)[t]? → Live h[t]? := by
   intro t hl
   rw [getElem?_set' _ _ _ _ hll] at hl
   by_cases ht : t = l
   ·rw [if_pos ht] at hl
    have := ho _ hp (heap_put_same b2)
    cases o with
    | tag o => exact this.elim
    | arr cs => exact this.elim
    | _ => exact hl.elim
   ·rwa [if_neg ht] at hl
  exact r.tinj x y (aux _ l1) (aux _ l2)
 ·intro k n x;exact hp.hasRow (r.com x)
 ·refine ⟨by rw [size_put];exact r.low.1,fun k hk => ?_⟩
  rw [heap_put_other (by omega)]
  exact r.low.2 k hk
 ·rw [getElem?_set' _ _ _ _ hll,if_neg (by omega)]
 ·intro k a c _ _;exact heap_put_other (fun e => c l (e ▸ hb))
 ·intro k b' a x;exact heap_put_other (hnb x (by omega))
 ·intro t b' e cs _ x _;exact heap_put_other (hntb x)
 ·intro k r' x
  by_cases hk : k = b
  ·subst hk
   obtain ⟨r2,h1,h2⟩ := hloop _ x
   exact ⟨r2,by rw [heap_put_same b2,h1],h2⟩
  ·exact ⟨r',by rw [heap_put_other hk];exact x,rfl⟩
 ·intro l' b' x y;rw [x] at y;cases y
 ·intro t b' e x y;rw [x] at y;cases y
 ·intro k n x y;rw [x] at y;cases y
theorem close_tag {B0 w0 G h w} (r : WR P B0 w0 G h w) {t : Nat} (ht : t < h.length) (hbe : G.be t = none) :
  WR P B0 w0 G (h.set t (.tag false)) w ∧ ∀ lo,lo ≤ t → Ext G h w G (h.set t (.tag false)) w lo := by
 refine ⟨⟨fun {k} hk => r.dom (by simpa using hk),fun {l b} x => ?_,r.inj,fun {t' b e} x => ?_,fun {t1 t2 b e e'} x y l1 l2 => ?_,r.com,r.low,r.out⟩,
  fun lo hlo => { Ext.refl G h w lo with len := by simp,pre := fun {k} a c => ?_ }⟩
 ·obtain ⟨a1,a2,a3,a4,o',a5,a6⟩ := r.obj x
  refine ⟨a1,a2,a3,a4,o',?_,a6⟩
  rw [getElem?_set' _ _ _ _ ht,if_neg]
  ·exact a5
  ·intro e;subst e;rw [hbe] at x;cases x
 ·obtain ⟨a1,a2,a3⟩ := r.tag x
  refine ⟨a1,a2,?_⟩
  rw [getElem?_set' _ _ _ _ ht]
  split
  ·trivial
  ·exact a3
 ·rw [getElem?_set' _ _ _ _ ht] at l1 l2
  split at l1
  ·exact l1.elim
  ·split at l2
   ·exact l2.elim
   ·exact r.tinj x y l1 l2
 ·rw [getElem?_set' _ _ _ _ ht,if_neg (by omega)]
theorem grow_row {B0 w0 G h w} (r : WR P B0 w0 G h w) (m : Bool) {t b e : Nat} (htg : G.tg t = some (b,e)) (hdead : ∀ t' e',G.tg t' = some (b,e') → ¬ Live h[t']?)
  (hcm : if m then G.cm b = none else G.cm b = some e) (cs : List PV) (arr arr' : Array Value) (T : TypeId) (fr : Nat × Nat) (hw : w.heap[b]? = some (Obj.cells arr T fr)) (hf : Thawed fr arr.size)
  (hs : arr'.size = arr.size) (hl : cs.length ≤ arr.size) (hle : e ≤ cs.length) (hkeep : m = false → ∀ i,i < e → arr'[i]? = arr[i]?)
  (hc : ∀ G' w',Pres G w G' w' → w'.heap[b]? = some (Obj.cells arr' T fr) → m = true → VRC G' w' cs b 0) :
  let G' : Gh := { be := G.be,tg := upd G.tg h.length (some (b,cs.length)),cm := if m then G.cm else upd G.cm b (some cs.length) }
  let h' := h ++ [if m then HObj.arr cs else HObj.tag true]
  let w' := w.putObj b (Obj.cells arr' T fr)
  WR P B0 w0 G' h' w' ∧ ∀ lo,Ext G h w G' h' w' lo := by
 intro G' h' w'
 have hd := r.dom (l := h.length) (Nat.le_refl _)
 obtain ⟨t1,t2,_⟩ := r.tag htg
 have hcmne : ∀ {k},k ≠ b → G'.cm k = G.cm k := by
  intro k hk
  show (if m then G.cm else upd G.cm b (some cs.length)) k = _
  cases m
  ·simp only [Bool.false_eq_true,if_false];exact upd_ne _ _ hk
  ·rfl
 have hnbe : ∀ l,G.be l ≠ some b := fun l x => (r.obj x).2.2.2.1 t e htg
 have hp : Pres G w G' w' := by
  refine ⟨id,fun {l x} hx => ?_,fun {k n} x => ?_,fun {k ar T2 f2} x => ?_,fun {k n o} x y => ?_⟩
  ·show upd _ _ _ _ = _
   rw [upd_ne]
   ·exact hx
   ·intro e;subst e;rw [hd.2] at hx;cases hx
  ·by_cases hk : k = b
   ·subst hk
    cases m
    ·simp only [Bool.false_eq_true,if_false] at hcm
     rw [hcm] at x;cases x
     exact ⟨cs.length,hle,upd_same _ _ _⟩
    ·simp only [if_true] at hcm
     rw [hcm] at x;cases x
   ·exact ⟨n,Nat.le_refl _,by rw [hcmne hk];exact x⟩
  ·by_cases hk : k = b
   ·subst hk
    rw [hw] at x
    cases x
    exact ⟨arr',heap_put_same t2,hs⟩
   ·exact ⟨ar,by rw [heap_put_other hk];exact x,rfl⟩
  ·by_cases hk : k = b
   ·subst hk
    cases m
    ·simp only [Bool.false_eq_true,if_false] at hcm
     rw [hcm] at x;cases x
     rw [cell_row (heap_put_same t2),cell_row hw]
     exact hkeep rfl _ y
    ·simp only [if_true] at hcm
     rw [hcm] at x;cases x
   ·exact cell_put_other hk
 have htg' : ∀ {t x},G'.tg t = some x → t ≠ h.length → G.tg t = some x := by
  intro t x hx ht
  have : upd G.tg h.length (some (b,cs.length)) t = some x := hx
  rwa [upd_ne _ _ ht] at this
 have htn : ∀ {x},G'.tg h.length = some x → x = (b,cs.length) := by
  intro x hx
  have : upd G.tg h.length (some (b,cs.length)) h.length = some x := hx
  rw [upd_same] at this
  exact (Option.some.inj this).symm
 refine ⟨⟨?_,?_,r.inj,?_,?_,?_,?_,r.out⟩,fun lo => ⟨hp,by simp [h'],fun _ hl => ?_,by rw [size_put];omega,?_,?_,?_,?_,?_,?_,?_⟩⟩
 ·intro l hl
  simp [h'] at hl
  refine ⟨(r.dom (by omega)).1,?_⟩
  show upd _ _ _ _ = _
  rw [upd_ne _ _ (by omega)]
  exact (r.dom (by omega)).2
 ·intro l b' hb
  obtain ⟨a1,a2,a3,a4,o',a5,a6⟩ := r.obj hb
  have hbb : b' ≠ b := fun e => hnbe l (e ▸ hb)
  refine ⟨a1,by rw [size_put];omega,by rw [hcmne hbb];exact a3,fun t e x => ?_,o',?_,a6.mono hp (heap_put_other hbb)⟩
  ·by_cases ht : t = h.length
   ·subst ht;have := htn x;cases this;exact hbb rfl
   ·exact a4 t e (htg' x ht)
  ·rw [getElem?_snoc,if_neg]
   ·exact a5
   ·intro e;subst e;rw [hd.1] at hb;cases hb
 ·intro t' b' e' x
  by_cases ht : t' = h.length
  ·subst ht
   have := htn x
   cases this
   refine ⟨t1,by rw [size_put];omega,?_⟩
   rw [getElem?_snoc,if_pos rfl]
   cases m
   ·exact ⟨upd_same _ _ _,arr',T,fr,heap_put_same t2,by rw [hs];exact hf⟩
   ·exact ⟨(by simpa using hcm : G.cm b = none),rfl,⟨arr',T,fr,heap_put_same t2,by omega,by rw [hs];exact hf⟩,hc _ _ hp (heap_put_same t2) rfl⟩
  ·have hx := htg' x ht
   obtain ⟨a1,a2,a3⟩ := r.tag hx
   refine ⟨a1,by rw [size_put];omega,?_⟩
   rw [getElem?_snoc,if_neg ht]
   by_cases hbb : b' = b
   ·subst hbb
    have := hdead _ _ hx
    match hh : h[t']? with
    | some (.tag true) => rw [hh] at this;exact absurd trivial this
    | some (.arr cs) => rw [hh] at this;exact absurd trivial this
    | some (.tag false) => trivial
    | some (.var _) => trivial
    | some (.map _) => trivial
    | some (.loop ..) => trivial
    | some (.iter ..) => trivial
    | none => trivial
   ·exact a3.mono hp (fun he => by rw [he] at a3;rw [hcmne hbb];exact a3.1) (fun cs he => by rw [he] at a3;exact ⟨by rw [hcmne hbb];exact a3.1,heap_put_other hbb⟩)
 ·intro t1' t2' b' e1 e2 x y l1 l2
  by_cases h1 : t1' = h.length <;> by_cases h2 : t2' = h.length
  ·omega
  ·subst h1
   have := htn x;cases this
   rw [getElem?_snoc,if_neg h2] at l2
   exact absurd l2 (hdead _ _ (htg' y h2))
  ·subst h2
   have := htn y;cases this
   rw [getElem?_snoc,if_neg h1] at l1
   exact absurd l1 (hdead _ _ (htg' x h1))
  ·rw [getElem?_snoc,if_neg h1] at l1
   rw [getElem?_snoc,if_neg h2] at l2
   exact r.tinj (htg' x h1) (htg' y h2) l1 l2
 ·intro k n x
  by_cases hk : k = b
  ·subst hk
   cases m
   ·have : upd G.cm k (some cs.length) k = some n := x
    rw [upd_same] at this;cases this
    exact ⟨arr',T,fr,heap_put_same t2,by omega⟩
   ·have : G.cm k = some n := x
    simp only [if_true] at hcm
    rw [hcm] at this;cases this
  ·rw [hcmne hk] at x
   exact hp.hasRow (r.com x)
 ·refine ⟨by rw [size_put];exact r.low.1,fun k hk => ?_⟩
  rw [heap_put_other (by omega)]
  exact r.low.2 k hk
 ·rw [getElem?_snoc,if_neg (by omega)]
 ·intro k a _ c2 _;exact heap_put_other (fun e' => c2 t e (e' ▸ htg))
 ·intro l b' _ x;exact heap_put_other (fun e => hnbe l (e ▸ x))
 ·intro t' b' e' cs' _ x hh
  refine heap_put_other (fun e2 => ?_)
  subst e2
  have := hdead _ _ x
  rw [hh] at this
  exact this trivial
 ·intro k r' x
  refine ⟨r',?_,rfl⟩
  rw [heap_put_other]
  ·exact x
  ·intro e2;subst e2;rw [hw] at x;cases x
 ·intro l b' x y;have x' : G.be l = _ := x;rw [x'] at y;cases y
 ·intro t' b' e' x y
  by_cases ht : t' = h.length
  ·subst ht;have := htn x;cases this;exact ⟨Nat.le_refl _,.inr ⟨t,e,htg⟩⟩
  ·rw [htg' x ht] at y;cases y
 ·intro k n x y
  by_cases hk : k = b
  ·subst hk;exact .inr ⟨t,e,htg⟩
  ·rw [hcmne hk] at x;rw [x] at y;cases y
theorem store_arr {B0 w0 G h w} (r : WR P B0 w0 G h w) {t b e : Nat} {cs cs' : List PV} (htg : G.tg t = some (b,e)) (hh : h[t]? = some (.arr cs)) (hlen : cs'.length = cs.length)
  (arr arr' : Array Value) (T : TypeId) (fr : Nat × Nat) (hw : w.heap[b]? = some (Obj.cells arr T fr)) (hs : arr'.size = arr.size)
  (hc : ∀ w',Pres G w G w' → w'.heap[b]? = some (Obj.cells arr' T fr) → VRC G w' cs' b 0) :
  WR P B0 w0 G (h.set t (.arr cs')) (w.putObj b (Obj.cells arr' T fr)) ∧ ∀ lo,lo ≤ t → Ext G h w G (h.set t (.arr cs')) (w.putObj b (Obj.cells arr' T fr)) lo := by
 obtain ⟨t1,t2,t3⟩ := r.tag htg
 rw [hh] at t3
 obtain ⟨c1,c2,⟨ar,T',fr',c3,c4,c5⟩,c6⟩ := t3
 rw [hw] at c3
 cases c3
 have hll : t < h.length := (List.getElem?_eq_some_iff.1 hh).1
 have hnbe : ∀ l,G.be l ≠ some b := fun l x => (r.obj x).2.2.2.1 t e htg
 have hp : Pres G w G (w.putObj b (Obj.cells arr' T fr)) := by
  refine ⟨id,id,fun x => ⟨_,Nat.le_refl _,x⟩,fun {k ar T2 f2} x => ?_,fun {k n o} x y => cell_put_other (by intro e;subst e;rw [c1] at x;cases x)⟩
  by_cases hk : k = b
  ·subst hk
   rw [hw] at x;cases x
   exact ⟨arr',heap_put_same t2,hs⟩
  ·exact ⟨ar,by rw [heap_put_other hk];exact x,rfl⟩
 refine ⟨⟨fun {k} hk => r.dom (by simpa using hk),fun {l b'} x => ?_,r.inj,fun {t' b' e'} x => ?_,fun {u1 u2 b' e1 e2} x y l1 l2 => ?_,fun x => hp.hasRow (r.com x),?_,r.out⟩,
  fun lo hlo => ⟨hp,by simp,fun {k} a c => ?_,by rw [size_put];omega,?_,?_,?_,?_,?_,?_,?_⟩⟩
 ·obtain ⟨a1,a2,a3,a4,o',a5,a6⟩ := r.obj x
  have hbb : b' ≠ b := fun e => hnbe l (e ▸ x)
  refine ⟨a1,by rw [size_put];exact a2,a3,a4,o',?_,a6.mono hp (heap_put_other hbb)⟩
  rw [getElem?_set' _ _ _ _ hll,if_neg]
  ·exact a5
  ·intro e2;subst e2;rw [hh] at a5;cases a5;exact a6.elim
 ·obtain ⟨a1,a2,a3⟩ := r.tag x
  refine ⟨a1,by rw [size_put];exact a2,?_⟩
  rw [getElem?_set' _ _ _ _ hll]
  by_cases ht : t' = t
  ·subst ht
   rw [htg] at x;cases x
   rw [if_pos rfl]
   exact ⟨c1,by omega,⟨arr',T,fr,heap_put_same t2,by omega,by rw [hs];exact c5⟩,hc _ hp (heap_put_same t2)⟩
  ·rw [if_neg ht]
   by_cases hbb : b' = b
   ·subst hbb
    have : ¬ Live h[t']? := fun hl => ht (r.tinj x htg hl (by rw [hh];trivial))
    match h2 : h[t']? with
    | some (.tag true) => rw [h2] at this;exact absurd trivial this
    | some (.arr cs) => rw [h2] at this;exact absurd trivial this
    | some (.tag false) => trivial
    | some (.var _) => trivial
    | some (.map _) => trivial
    | some (.loop ..) => trivial
    | some (.iter ..) => trivial
    | none => trivial
   ·exact a3.mono hp (fun he => by rw [he] at a3;exact a3.1) (fun cs he => by rw [he] at a3;exact ⟨a3.1,heap_put_other hbb⟩)
 ·have aux : ∀ u : Nat,Live (h.set t (.arr cs'))[u]? → Live h[u]? := by
   intro u hl
   rw [getElem?_set' _ _ _ _ hll] at hl
   by_cases hu : u = t
   ·subst hu;rw [hh];trivial
   ·rwa [if_neg hu] at hl
  exact r.tinj x y (aux _ l1) (aux _ l2)
 ·refine ⟨by rw [size_put];exact r.low.1,fun k hk => ?_⟩
  rw [heap_put_other (by omega)]
  exact r.low.2 k hk
 ·rw [getElem?_set' _ _ _ _ hll,if_neg (by omega)]
 ·intro k a _ d _;exact heap_put_other (fun e' => d t e (e' ▸ htg))
 ·intro l b' a x;exact heap_put_other (fun e => hnbe l (e ▸ x))
 ·intro t' b' e' cs2 a x h2
  refine heap_put_other (fun e2 => ?_)
  subst e2
  have := r.tinj x htg (by rw [h2];trivial) (by rw [hh];trivial)
  omega
 ·intro k r' x
  refine ⟨r',?_,rfl⟩
  rw [heap_put_other]
  ·exact x
  ·intro e2;subst e2;rw [hw] at x;cases x
 ·intro l' b' x y;rw [x] at y;cases y
 ·intro t b' e x y;rw [x] at y;cases y
 ·intro k n x y;rw [x] at y;cases y
end
end Go.Den
end
section
namespace Go.Den
theorem VR.share {G w p v} (h : VR G w p v) : VR G w p.share v := by
 cases p <;> try exact h
 simp only [PV.share,VR] at h ⊢
 obtain ⟨b,off,cap,h1,h2,h3,_,h5⟩ := h
 exact ⟨b,off,cap,h1,h2,h3,trivial,h5⟩
theorem VRL.share {G w} : ∀ {ps : List PV} {vs : List Value},VRL G w ps vs → VRL G w (ps.map PV.share) vs
 | [],vs,h => h
 | c :: cs,vs,h => by
  obtain ⟨v,vs',rfl,h1,h2⟩ := VRL.cons_iff.1 h
  exact VRL.cons h1.share (VRL.share h2)
theorem VRC.share {G w} : ∀ {ps : List PV} {b off : Nat},VRC G w ps b off → VRC G w (ps.map PV.share) b off
 | [],_,_,_ => by simp only [List.map_nil,VRC]
 | c :: cs,b,off,h => by
  simp only [List.map_cons,VRC] at h ⊢
  obtain ⟨⟨v,h1,h2⟩,h3⟩ := h
  exact ⟨⟨v,h1,h2.share⟩,VRC.share h3⟩
structure Restr (m : Nat) (G G2 : Gh) : Prop where
 be : ∀ {l b},l < m → G.be l = some b → G2.be l = some b
 tg : ∀ {l x},l < m → G.tg l = some x → G2.tg l = some x
 cm : ∀ {b n},G.cm b = some n → ∃ n',n ≤ n' ∧ G2.cm b = some n'
mutual
theorem VR.restr {m G G2 w} (h : Restr m G G2) : ∀ {p : PV} {v : Value},p.low m = true → VR G w p v → VR G2 w p v
 | .bool b,v,_,r => by simpa only [VR] using r
 | .int k n,v,_,r => by simpa only [VR] using r
 | .str s,v,_,r => by simpa only [VR] using r
 | .ptr l off,v,hl,r => by
  simp only [VR] at r ⊢
  simp only [PV.low,decide_eq_true_eq] at hl
  obtain ⟨b,h1,h2⟩ := r
  exact ⟨b,h.be hl h1,h2⟩
 | .cptr cs,v,hl,r => by
  simp only [VR] at r ⊢
  simp only [PV.low] at hl
  obtain ⟨b,off,h1,h2,h3⟩ := r
  refine ⟨b,off,h1,fun hne => ?_,VRC.restr h hl h3⟩
  obtain ⟨k,a1,a2⟩ := h2 hne
  obtain ⟨k',a3,a4⟩ := h.cm a1
  exact ⟨k',a4,by omega⟩
 | .nilptr,v,_,r => by simpa only [VR] using r
 | .slice o n cs,v,hl,r => by
  simp only [VR] at r ⊢
  obtain ⟨b,off,cap,h1,hc,h2,h4,h3⟩ := r
  have hl' : lowL m cs = true ∧ (∀ t sz,o = .tag t sz → t < m) := by
   cases o with
   | shared => simp only [PV.low] at hl;exact ⟨hl,fun _ _ e => by cases e⟩
   | tag t sz => simp only [PV.low,Bool.and_eq_true,decide_eq_true_eq] at hl;exact ⟨hl.2,fun _ _ e => by cases e;exact hl.1⟩
  refine ⟨b,off,cap,h1,hc,fun hne => ?_,?_,VRC.restr h hl'.1 h3⟩
  ·obtain ⟨k,a1,a2⟩ := h2 hne
   obtain ⟨k',a3,a4⟩ := h.cm a1
   exact ⟨k',a4,by omega⟩
  ·cases o with
   | shared => trivial
   | tag t sz => exact ⟨h4.1,h.tg (hl'.2 _ _ rfl) h4.2.1,h4.2.2⟩
 | .nilslice,v,_,r => by simpa only [VR] using r
 | .hslice l sz n,v,hl,r => by
  simp only [VR] at r ⊢
  simp only [PV.low,decide_eq_true_eq] at hl
  obtain ⟨b,e,cap,h1,h2,h3,h4⟩ := r
  exact ⟨b,e,cap,h.tg hl h1,h2,h3,h4⟩
 | .aptr l off,v,hl,r => by
  simp only [VR] at r ⊢
  simp only [PV.low,decide_eq_true_eq] at hl
  obtain ⟨b,e,h1,h2⟩ := r
  exact ⟨b,e,h.tg hl h1,h2⟩
 | .map l,v,hl,r => by
  simp only [VR] at r ⊢
  simp only [PV.low,decide_eq_true_eq] at hl
  obtain ⟨b,h1,h2⟩ := r
  exact ⟨b,h.be hl h1,h2⟩
 | .nilmap,v,_,r => by simpa only [VR] using r
 | .func f a c,v,hl,r => by
  simp only [VR] at r ⊢
  simp only [PV.low,Bool.and_eq_true] at hl
  obtain ⟨a',c',h1,h2,h3⟩ := r
  exact ⟨a',c',h1,VRL.restr h hl.1 h2,VRL.restr h hl.2 h3⟩
 | .nilfunc,v,_,r => by simpa only [VR] using r
 | .yield l,v,hl,r => by
  simp only [VR] at r ⊢
  simp only [PV.low,decide_eq_true_eq] at hl
  obtain ⟨b,h1,h2⟩ := r
  exact ⟨b,h.be hl h1,h2⟩
 | .iface t x,v,hl,r => by
  simp only [VR] at r ⊢
  simp only [PV.low] at hl
  obtain ⟨y,h1,h2⟩ := r
  exact ⟨y,h1,VR.restr h hl h2⟩
 | .niliface,v,_,r => by simpa only [VR] using r
 | .agg cs,v,hl,r => by
  simp only [VR] at r ⊢
  simp only [PV.low] at hl
  obtain ⟨vs,h1,h2⟩ := r
  exact ⟨vs,h1,VRL.restr h hl h2⟩
 | .tuple cs,v,hl,r => by
  simp only [VR] at r ⊢
  simp only [PV.low] at hl
  obtain ⟨vs,h1,h2⟩ := r
  exact ⟨vs,h1,VRL.restr h hl h2⟩
theorem VRL.restr {m G G2 w} (h : Restr m G G2) : ∀ {ps : List PV} {vs : List Value},lowL m ps = true → VRL G w ps vs → VRL G2 w ps vs
 | [],vs,_,r => by simpa only [VRL] using r
 | c :: cs,vs,hl,r => by
  simp only [VRL] at r ⊢
  simp only [lowL,Bool.and_eq_true] at hl
  obtain ⟨v,vs',h1,h2,h3⟩ := r
  exact ⟨v,vs',h1,VR.restr h hl.1 h2,VRL.restr h hl.2 h3⟩
theorem VRC.restr {m G G2 w} (h : Restr m G G2) : ∀ {ps : List PV} {b off : Nat},lowL m ps = true → VRC G w ps b off → VRC G2 w ps b off
 | [],b,off,_,r => by simp only [VRC]
 | c :: cs,b,off,hl,r => by
  simp only [VRC] at r ⊢
  simp only [lowL,Bool.and_eq_true] at hl
  obtain ⟨⟨v,h1,h2⟩,h3⟩ := r
  exact ⟨⟨v,h1,VR.restr h hl.1 h2⟩,VRC.restr h hl.2 h3⟩
end
section
variable {P : Program}
structure Fz (B0 : Nat) (w0 : World) (m : Nat) (G : Gh) (h : List HObj) (w : World) (G' : Gh) (h' : List HObj) : Prop where
 wr : WR P B0 w0 G' h' w
 be : G'.be = G.be
 tg : G'.tg = G.tg
 cm : ∀ {b n},G.cm b = some n → G'.cm b = some n
 ncm : ∀ {b n},G'.cm b = some n → G.cm b = none → ∃ t e,G.tg t = some (b,e)
 len : h'.length = h.length
 pre : ∀ {l},l < m → h'[l]? = h[l]?
theorem Fz.pres {B0 w0 m G h w G' h'} (f : Fz (P := P) B0 w0 m G h w G' h') : Pres G w G' w :=
 ⟨fun x => by rw [f.be];exact x,fun x => by rw [f.tg];exact x,fun x => ⟨_,Nat.le_refl _,f.cm x⟩,fun x => ⟨_,x,rfl⟩,fun _ _ => rfl⟩
theorem Fz.refl {B0 w0 m G h w} (r : WR P B0 w0 G h w) : Fz (P := P) B0 w0 m G h w G h := ⟨r,rfl,rfl,id,fun a b => (by rw [a] at b;cases b),rfl,fun _ => rfl⟩
theorem Fz.trans {B0 w0 m G h w G1 h1 G2 h2} (f : Fz (P := P) B0 w0 m G h w G1 h1) (g : Fz (P := P) B0 w0 m G1 h1 w G2 h2) : Fz (P := P) B0 w0 m G h w G2 h2 :=
 ⟨g.wr,g.be.trans f.be,g.tg.trans f.tg,fun x => g.cm (f.cm x),fun {b n} x y => by
  cases hc : G1.cm b with
  | none => rw [← f.tg];exact g.ncm x hc
  | some k => exact f.ncm hc y,g.len.trans f.len,fun a => (g.pre a).trans (f.pre a)⟩
theorem freeze1_ok {B0 w0 m G h w} (r : WR P B0 w0 G h w) {p : PV} {v : Value} (hv : VR G w p v) {p' h'} (hf : freeze1 m h p = (p',h')) :
  ∃ G',Fz (P := P) B0 w0 m G h w G' h' ∧ VR G' w p' v := by
 unfold freeze1 at hf
 split at hf
 ·rename_i t sz n
  split at hf
  ·cases hf;exact ⟨G,.refl r,hv⟩
  ·rename_i htm
   split at hf
   ·rename_i cs hh
    split at hf
    ·rename_i hcell
     cases hf
     simp only [VR] at hv
     obtain ⟨b,e,cap,h1,rfl,h3,h4⟩ := hv
     obtain ⟨t1,t2,t3⟩ := r.tag h1
     rw [hh] at t3
     obtain ⟨c1,c2,⟨arr,T,fr,c3,c4,c5⟩,c6⟩ := t3
     have hll : t < h.length := (List.getElem?_eq_some_iff.1 hh).1
     have hcne : ∀ {k},k ≠ b → upd G.cm b (some e) k = G.cm k := fun hk => upd_ne _ _ hk
     have hnbe : ∀ l,G.be l ≠ some b := fun l x => (r.obj x).2.2.2.1 t e h1
     have hp : Pres G w { G with cm := upd G.cm b (some e) } w := by
      refine ⟨id,id,fun {k n} x => ⟨n,Nat.le_refl _,?_⟩,fun x => ⟨_,x,rfl⟩,fun _ _ => rfl⟩
      show upd _ _ _ _ = _
      rw [hcne]
      ·exact x
      ·intro e;subst e;rw [c1] at x;cases x
     refine ⟨{ G with cm := upd G.cm b (some e) },⟨⟨fun {k} hk => r.dom (by simpa using hk),fun {l b'} x => ?_,r.inj,fun {t' b' e'} x => ?_,fun {u1 u2 b' e1 e2} x y l1 l2 => ?_,fun {k n} x => ?_,r.low,r.out⟩,
      rfl,rfl,fun {k n} x => ?_,fun {k n} x y => ?_,by simp,fun {l} hl => ?_⟩,?_⟩
     ·obtain ⟨a1,a2,a3,a4,o',a5,a6⟩ := r.obj x
      have hbb : b' ≠ b := fun e => hnbe l (e ▸ x)
      refine ⟨a1,a2,by show upd _ _ _ _ = _;rw [hcne hbb];exact a3,a4,o',?_,a6.mono hp rfl⟩
      rw [getElem?_set' _ _ _ _ hll,if_neg]
      ·exact a5
      ·intro e2;subst e2;rw [hh] at a5;cases a5;exact a6.elim
     ·obtain ⟨a1,a2,a3⟩ := r.tag x
      refine ⟨a1,a2,?_⟩
      rw [getElem?_set' _ _ _ _ hll]
      by_cases ht : t' = t
      ·subst ht
       rw [h1] at x;cases x
       rw [if_pos rfl]
       exact ⟨upd_same _ _ _,arr,T,fr,c3,c5⟩
      ·rw [if_neg ht]
       by_cases hbb : b' = b
       ·subst hbb
        have : ¬ Live h[t']? := fun hl => ht (r.tinj x h1 hl (by rw [hh];trivial))
        match h2 : h[t']? with
        | some (.tag true) => rw [h2] at this;exact absurd trivial this
        | some (.arr cs) => rw [h2] at this;exact absurd trivial this
        | some (.tag false) => trivial
        | some (.var _) => trivial
        | some (.map _) => trivial
        | some (.loop ..) => trivial
        | some (.iter ..) => trivial
        | none => trivial
       ·exact a3.mono hp (fun he => by rw [he] at a3;show upd _ _ _ _ = _;rw [hcne hbb];exact a3.1) (fun cs he => by rw [he] at a3;exact ⟨by show upd _ _ _ _ = _;rw [hcne hbb];exact a3.1,rfl⟩)
     ·have aux : ∀ u : Nat,Live (h.set t (.tag true))[u]? → Live h[u]? := by
       intro u hl
       rw [getElem?_set' _ _ _ _ hll] at hl
       by_cases hu : u = t
       ·subst hu;rw [hh];trivial
       ·rwa [if_neg hu] at hl
      exact r.tinj x y (aux _ l1) (aux _ l2)
     ·have x' : upd G.cm b (some e) k = some n := x
      by_cases hk : k = b
      ·subst hk;rw [upd_same] at x';cases x';exact ⟨arr,T,fr,c3,c4⟩
      ·rw [hcne hk] at x';exact r.com x'
     ·show upd _ _ _ _ = _
      rw [hcne]
      ·exact x
      ·intro e2;subst e2;rw [c1] at x;cases x
     ·have x' : upd G.cm b (some e) k = some n := x
      by_cases hk : k = b
      ·subst hk;exact ⟨t,e,h1⟩
      ·rw [hcne hk] at x';rw [x'] at y;cases y
     ·rw [getElem?_set' _ _ _ _ hll,if_neg (by omega)]
     ·simp only [VR]
      refine ⟨b,0,cap,rfl,h3,fun _ => ⟨e,upd_same _ _ _,by simp;omega⟩,⟨rfl,by simp only [List.length_map];rw [h1,c2],by simpa using h4⟩,?_⟩
      exact (c6.mono hp (fun _ _ _ => rfl)).share
    ·cases hf;exact ⟨G,.refl r,hv⟩
   ·cases hf;exact ⟨G,.refl r,hv⟩
 ·cases hf;exact ⟨G,.refl r,hv⟩
theorem freezeL_ok {B0 w0 m} : ∀ {ps : List PV} {vs : List Value} {G h w} (_ : WR P B0 w0 G h w) (_ : VRL G w ps vs) {ps' h'} (_ : freezeL m h ps = (ps',h')),
  ∃ G',Fz (P := P) B0 w0 m G h w G' h' ∧ VRL G' w ps' vs
 | [],vs,G,h,w,r,hv,ps',h',hf => by
  simp only [freezeL] at hf;cases hf
  exact ⟨G,.refl r,hv⟩
 | p :: ps,vs,G,h,w,r,hv,ps',h',hf => by
  obtain ⟨v,vs',rfl,h1,h2⟩ := VRL.cons_iff.1 hv
  simp only [freezeL] at hf
  generalize hx : freeze1 m h p = x at hf
  obtain ⟨p1,hh1⟩ := x
  simp only at hf
  generalize hy : freezeL m hh1 ps = y at hf
  obtain ⟨ps1,hh2⟩ := y
  simp only at hf
  cases hf
  obtain ⟨G1,f1,r1⟩ := freeze1_ok r h1 hx
  obtain ⟨G2,f2,r2⟩ := freezeL_ok f1.wr (h2.mono f1.pres) hy
  exact ⟨G2,f1.trans f2,VRL.cons (r1.mono f2.pres) r2⟩
structure Seen (h : List HObj) (m : Nat) (S : List Nat) : Prop where
 nodup : S.Nodup
 all : ∀ t,t ∈ S → m ≤ t ∧ h[t]? = some (.tag true)
def cut (m : Nat) (G Gf : Gh) (S : List Nat) : Gh := { be := G.be,tg := fun l => if l < m then G.tg l else (S[l - m]?).bind Gf.tg,cm := Gf.cm }
theorem retag1_ok {h : List HObj} {m : Nat} {G Gf : Gh} {w : World} {S : List Nat} (hS : Seen h m S) (hr : ∀ S,Restr m Gf (cut m G Gf S)) {p : PV} {v : Value} (hv : VR Gf w p v) {p' S'} (he : retag1 h m S p = some (p',S')) :
  Seen h m S' ∧ S <+: S' ∧ ∀ S2,S' <+: S2 → VR (cut m G Gf S2) w p' v := by
 have other : p.low m = true → ∀ S2,VR (cut m G Gf S2) w p v := fun hl S2 => VR.restr (hr S2) hl hv
 unfold retag1 at he
 split at he
 ·rename_i t sz n cs
  split at he
  ·rename_i hlow
   have shared : ∀ S2,VR (cut m G Gf S2) w (.slice .shared n cs) v := by
    intro S2
    have : VR Gf w (PV.slice .shared n cs) v := hv.share
    exact VR.restr (hr S2) (by simp only [PV.low];exact hlow) this
   split at he
   ·rename_i htm
    cases he
    exact ⟨hS,List.prefix_refl _,fun S2 _ => other (by simp only [PV.low,Bool.and_eq_true,decide_eq_true_eq];exact ⟨htm,hlow⟩) S2⟩
   ·rename_i htm
    split at he
    ·rename_i hh
     split at he
     ·cases he;exact ⟨hS,List.prefix_refl _,fun S2 _ => shared S2⟩
     ·rename_i hcon
      cases he
      refine ⟨⟨?_,?_⟩,⟨[t],rfl⟩,fun S2 hp => ?_⟩
      ·rw [List.nodup_append]
       refine ⟨hS.nodup,by simp,fun a ha b hb => ?_⟩
       simp at hb;subst hb
       intro e;subst e
       exact hcon (by simpa using ha)
      ·intro t' ht'
       rcases List.mem_append.1 ht' with h1 | h1
       ·exact hS.all _ h1
       ·simp at h1;subst h1;exact ⟨by omega,hh⟩
      ·have h1 := shared S2
       simp only [VR] at h1 hv ⊢
       obtain ⟨b,off,cap,a1,a2,a3,_,a5⟩ := h1
       obtain ⟨b',off',cap',c1,c2,c3,c4,c5⟩ := hv
       rw [a1] at c1;cases c1
       refine ⟨b,off,cap,a1,a2,a3,⟨c4.1,?_,c4.2.2⟩,a5⟩
       show (if m + S.length < m then _ else _) = _
       rw [if_neg (by omega)]
       have : S2[m + S.length - m]? = some t := by
        obtain ⟨q,rfl⟩ := hp
        rw [show m + S.length - m = S.length from by omega,List.append_assoc,List.getElem?_append_right (Nat.le_refl _)]
        simp
       rw [this]
       exact c4.2.1
    ·cases he;exact ⟨hS,List.prefix_refl _,fun S2 _ => shared S2⟩
  ·cases he
 ·split at he
  ·rename_i hl
   cases he
   exact ⟨hS,List.prefix_refl _,fun S2 _ => other hl S2⟩
  ·cases he
theorem retagL_ok {h : List HObj} {m : Nat} {G Gf : Gh} {w : World} (hr : ∀ S,Restr m Gf (cut m G Gf S)) : ∀ {ps : List PV} {vs : List Value} {S : List Nat} (_ : Seen h m S) (_ : VRL Gf w ps vs) {ps' S'} (_ : retagL h m S ps = some (ps',S')),
  Seen h m S' ∧ S <+: S' ∧ ∀ S2,S' <+: S2 → VRL (cut m G Gf S2) w ps' vs
 | [],vs,S,hS,hv,ps',S',he => by
  simp only [retagL] at he;cases he
  exact ⟨hS,List.prefix_refl _,fun _ _ => by rw [VRL.nil_iff.1 hv];exact VRL.nil_iff.2 rfl⟩
 | p :: ps,vs,S,hS,hv,ps',S',he => by
  obtain ⟨v,vs',rfl,h1,h2⟩ := VRL.cons_iff.1 hv
  simp only [retagL] at he
  split at he
  ·rename_i p1 s1 hx
   split at he
   ·rename_i ps1 s2 hy
    cases he
    obtain ⟨a1,a2,a3⟩ := retag1_ok hS hr h1 hx
    obtain ⟨b1,b2,b3⟩ := retagL_ok hr a1 h2 hy
    exact ⟨b1,a2.trans b2,fun S2 hp => VRL.cons (a3 S2 (b2.trans hp)) (b3 S2 hp)⟩
   ·cases he
  ·cases he
theorem cut_ok {B0 w0 G h w G1 h1 w1 lo Gf hf S} (r : WR P B0 w0 G h w) (x : Ext G h w G1 h1 w1 lo) (hlo : h.length ≤ lo) (f : Fz (P := P) B0 w0 h.length G1 h1 w1 Gf hf) (hS : Seen hf h.length S) :
  WR P B0 w0 (cut h.length G Gf S) (h ++ List.replicate S.length (.tag true)) w1 ∧ ∀ lo',Ext G h w (cut h.length G Gf S) (h ++ List.replicate S.length (.tag true)) w1 lo' := by
 have hbelt : ∀ {l b},G.be l = some b → l < h.length := fun {l b} hb => by
  rcases Nat.lt_or_ge l h.length with h' | h'
  ·exact h'
  ·rw [(r.dom h').1] at hb;cases hb
 have htglt : ∀ {l b},G.tg l = some b → l < h.length := fun {l b} hb => by
  rcases Nat.lt_or_ge l h.length with h' | h'
  ·exact h'
  ·rw [(r.dom h').2] at hb;cases hb
 have hp : Pres G w (cut h.length G Gf S) w1 := by
  have hp1 := x.pres.trans f.pres
  refine ⟨id,fun {l y} hx => ?_,hp1.cm,hp1.row,hp1.data⟩
  show (if l < h.length then _ else _) = _
  rw [if_pos (htglt hx)];exact hx
 have htg : ∀ {t b e},(cut h.length G Gf S).tg t = some (b,e) → ∃ t0,Gf.tg t0 = some (b,e) ∧ ((t < h.length ∧ t0 = t ∧ G.tg t = some (b,e)) ∨ (h.length ≤ t ∧ S[t - h.length]? = some t0)) := by
  intro t b e hx
  have hx' : (if t < h.length then G.tg t else (S[t - h.length]?).bind Gf.tg) = some (b,e) := hx
  split at hx'
  ·rename_i hlt
   exact ⟨t,by rw [f.tg];exact x.pres.tg hx',.inl ⟨hlt,rfl,hx'⟩⟩
  ·rename_i hlt
   obtain ⟨t0,h1,h2⟩ := Option.bind_eq_some_iff.1 hx'
   exact ⟨t0,h2,.inr ⟨by omega,h1⟩⟩
 have hfpre : ∀ {l : Nat},l < h.length → hf[l]? = h[l]? := fun hl => (f.pre hl).trans (x.pre (by omega) hl)
 have hget : ∀ {l : Nat},l < h.length → (h ++ List.replicate S.length (HObj.tag true))[l]? = h[l]? := fun hl => List.getElem?_append_left hl
 refine ⟨⟨fun {l} hl => ?_,fun {l b} y => ?_,r.inj,fun {t b e} y => ?_,fun {t t' b e e'} y z l1 l2 => ?_,fun y => f.wr.com y,f.wr.low,f.wr.out⟩,fun lo' => ⟨hp,by simp,fun {l} _ hl => hget hl,x.size,fun a b c d => x.frame a b c d,fun {l b} _ hb => x.keep (by have := hbelt hb;omega) hb,
  fun {t b e cs} _ a c => x.keepT (by have := htglt a;omega) a c,x.loops,fun {l b} a c => (by have a' : G.be l = _ := a;rw [a'] at c;cases c),fun {t b e} a c => ?_,fun {b k} a c => ?_⟩⟩
 ·simp at hl
  refine ⟨(r.dom (by omega)).1,?_⟩
  show (if l < h.length then _ else _) = _
  rw [if_neg (by omega),List.getElem?_eq_none (by omega)]
  rfl
 ·have y' : G.be l = some b := y
  obtain ⟨a1,a2,a3,a4,o,a5,a6⟩ := r.obj y'
  have hl := hbelt y'
  have yf : Gf.be l = some b := by rw [f.be];exact x.pres.be y'
  obtain ⟨c1,c2,c3,c4,_⟩ := f.wr.obj yf
  refine ⟨a1,c2,c3,fun t e hx => ?_,o,by rw [hget hl];exact a5,a6.mono hp (x.keep (by omega) y')⟩
  obtain ⟨t0,h1,_⟩ := htg hx
  exact c4 _ _ h1
 ·obtain ⟨t0,h1,h2⟩ := htg y
  obtain ⟨c1,c2,c3⟩ := f.wr.tag h1
  refine ⟨c1,c2,?_⟩
  rcases h2 with ⟨hl,rfl,hg⟩ | ⟨hl,hs⟩
  ·rw [hget hl]
   rw [hfpre hl] at c3
   obtain ⟨_,_,d3⟩ := r.tag hg
   refine d3.mono hp (fun he => by rw [he] at c3;exact c3.1) (fun cs he => ?_)
   rw [he] at c3
   exact ⟨c3.1,x.keepT (by omega) hg he⟩
  ·have hlt : t - h.length < S.length := (List.getElem?_eq_some_iff.1 hs).1
   rw [List.getElem?_append_right hl,List.getElem?_replicate,if_pos hlt]
   have := (hS.all t0 (List.mem_of_getElem? hs)).2
   rw [this] at c3
   exact c3
 ·obtain ⟨u,h1,h2⟩ := htg y
  obtain ⟨u',h1',h2'⟩ := htg z
  have live : ∀ {t u : Nat},Live (h ++ List.replicate S.length (HObj.tag true))[t]? → ((t < h.length ∧ u = t ∧ G.tg t = some (b,e)) ∨ (h.length ≤ t ∧ S[t - h.length]? = some u)) → Live hf[u]? := by
   intro t u hl hc
   rcases hc with ⟨ha,rfl,_⟩ | ⟨_,hs⟩
   ·rw [hget ha] at hl;rw [hfpre ha];exact hl
   ·rw [(hS.all u (List.mem_of_getElem? hs)).2];trivial
  have live' : ∀ {t u : Nat},Live (h ++ List.replicate S.length (HObj.tag true))[t]? → ((t < h.length ∧ u = t ∧ G.tg t = some (b,e')) ∨ (h.length ≤ t ∧ S[t - h.length]? = some u)) → Live hf[u]? := by
   intro t u hl hc
   rcases hc with ⟨ha,rfl,_⟩ | ⟨_,hs⟩
   ·rw [hget ha] at hl;rw [hfpre ha];exact hl
   ·rw [(hS.all u (List.mem_of_getElem? hs)).2];trivial
  have hu := f.wr.tinj h1 h1' (live l1 h2) (live' l2 h2')
  subst hu
  rcases h2 with ⟨ha,rfl,_⟩ | ⟨ha,hs⟩ <;> rcases h2' with ⟨ha',hb',_⟩ | ⟨ha',hs'⟩
  ·omega
  ·have := (hS.all _ (List.mem_of_getElem? hs')).1;omega
  ·have := (hS.all _ (List.mem_of_getElem? hs)).1;omega
  ·have h3 : t - h.length < S.length := (List.getElem?_eq_some_iff.1 hs).1
   have h4 : t' - h.length < S.length := (List.getElem?_eq_some_iff.1 hs').1
   have : t - h.length = t' - h.length := by
    have e1 : S[t - h.length] = S[t' - h.length] := by
     have := List.getElem?_eq_getElem h3
     have := List.getElem?_eq_getElem h4
     simp_all
    have hn := List.pairwise_iff_getElem.1 hS.nodup
    rcases Nat.lt_trichotomy (t - h.length) (t' - h.length) with h5 | h5 | h5
    ·exact absurd e1 (hn _ _ h3 h4 h5)
    ·exact h5
    ·exact absurd e1.symm (hn _ _ h4 h3 h5)
   omega
 ·obtain ⟨t0,h1,h2⟩ := htg a
  rw [f.tg] at h1
  rcases h2 with ⟨ha,rfl,hg⟩ | ⟨ha,hs⟩
  ·rw [hg] at c;cases c
  ·refine ⟨ha,?_⟩
   have := (hS.all _ (List.mem_of_getElem? hs)).1
   exact (x.ntg h1 (r.dom this).2).2
 ·have a' : Gf.cm b = some k := a
  cases hc : G1.cm b with
  | some k' => exact x.ncm hc c
  | none =>
   obtain ⟨t,e,ht⟩ := f.ncm a' hc
   cases hg : G.tg t with
   | none => exact (x.ntg ht hg).2
   | some y => have := x.pres.tg hg;rw [ht] at this;cases this;exact .inr ⟨_,_,hg⟩
theorem restr_cut {B0 w0 G h w G1 h1 w1 lo Gf hf} (_ : WR P B0 w0 G h w) (x : Ext G h w G1 h1 w1 lo) (f : Fz (P := P) B0 w0 h.length G1 h1 w1 Gf hf) (S : List Nat) : Restr h.length Gf (cut h.length G Gf S) := by
 refine ⟨fun {l b} hl hb => ?_,fun {l y} hl hb => ?_,fun hb => ⟨_,Nat.le_refl _,hb⟩⟩
 ·rw [f.be] at hb
  cases hc : G.be l with
  | none => have := (x.nbe hb hc).1;omega
  | some b' => have := x.pres.be hc;rw [hb] at this;cases this;exact hc
 ·rw [f.tg] at hb
  show (if l < h.length then _ else _) = _
  rw [if_pos hl]
  cases hc : G.tg l with
  | none => obtain ⟨b,e⟩ := y;have := (x.ntg hb hc).1;omega
  | some b' => have := x.pres.tg hc;rw [hb] at this;cases this;rfl
theorem finish_ok {B0 w0 G w G1 w1} {st st1 : St} (r : WR P B0 w0 G st.heap w) (r1 : WR P B0 w0 G1 st1.heap w1) (x : Ext G st.heap w G1 st1.heap w1 st1.lo) (hlo : st1.lo ≤ st.heap.length)
  {p : PV} {v : Value} (hv : VR G1 w1 p v) {p' st'} (he : finishCall st st1 p = (p',st')) (hdom : st.lo ≤ st.heap.length) :
  ∃ G2,WR P B0 w0 G2 st'.heap w1 ∧ Ext G st.heap w G2 st'.heap w1 st'.lo ∧ VR G2 w1 p' v ∧ st'.lo ≤ st.lo := by
 unfold finishCall at he
 split at he
 ·rename_i hle
  have hnil : ∀ h,Seen h st.heap.length [] := fun h => ⟨by simp,by simp⟩
  cases hg : letGo st.heap.length st1.heap p with
  | none =>
   rw [hg] at he
   cases he
   exact ⟨G1,r1,x.lo (show st.lo ≤ st1.lo by omega),hv,Nat.le_refl _⟩
  | some q =>
   obtain ⟨q1,k⟩ := q
   rw [hg] at he
   cases he
   have fin : ∀ {Gf hf S},Fz (P := P) B0 w0 st.heap.length G1 st1.heap w1 Gf hf → Seen hf st.heap.length S → VR (cut st.heap.length G Gf S) w1 p' v → S.length = k →
     ∃ G2,WR P B0 w0 G2 (st.heap ++ List.replicate k (.tag true)) w1 ∧ Ext G st.heap w G2 (st.heap ++ List.replicate k (.tag true)) w1 st.lo ∧ VR G2 w1 p' v ∧ st.lo ≤ st.lo := by
    intro Gf hf S f hS hv' hk
    subst hk
    obtain ⟨a,b⟩ := cut_ok r x hle f hS
    exact ⟨_,a,b _,hv',Nat.le_refl _⟩
   have list : ∀ (vs : List PV) (us : List Value),VRL G1 w1 vs us → ∀ {vs' hf},freezeL st.heap.length st1.heap vs = (vs',hf) → ∀ {ws S},retagL hf st.heap.length [] vs' = some (ws,S) →
     ∃ Gf,Fz (P := P) B0 w0 st.heap.length G1 st1.heap w1 Gf hf ∧ Seen hf st.heap.length S ∧ VRL (cut st.heap.length G Gf S) w1 ws us := by
    intro vs us h1 vs' hf h2 ws S h3
    obtain ⟨Gf,f,h4⟩ := freezeL_ok r1 h1 h2
    obtain ⟨a,_,b⟩ := retagL_ok (G := G) (fun S => restr_cut r x f S) (hnil hf) h4 h3
    exact ⟨Gf,f,a,b S (List.prefix_refl _)⟩
   have one : ∀ {q h1},freeze1 st.heap.length st1.heap p = (q,h1) → ∀ {q' S},retag1 h1 st.heap.length [] q = some (q',S) → q' = p' → S.length = k →
     ∃ G2,WR P B0 w0 G2 (st.heap ++ List.replicate k (.tag true)) w1 ∧ Ext G st.heap w G2 (st.heap ++ List.replicate k (.tag true)) w1 st.lo ∧ VR G2 w1 p' v ∧ st.lo ≤ st.lo := by
    intro q h1 h2 q' S h3 h4 h5
    subst h4
    obtain ⟨Gf,f,h6⟩ := freeze1_ok r1 hv h2
    obtain ⟨a,_,b⟩ := retag1_ok (G := G) (hnil h1) (fun S => restr_cut r x f S) h6 h3
    exact fin f a (b S (List.prefix_refl _)) h5
   unfold letGo at hg
   split at hg
   ·rename_i vs
    simp only [VR] at hv
    obtain ⟨us,rfl,h1⟩ := hv
    generalize hx : freezeL st.heap.length st1.heap vs = y at hg
    obtain ⟨vs',hf⟩ := y
    simp only at hg
    cases hy : retagL hf st.heap.length [] vs' with
    | none => rw [hy] at hg;cases hg
    | some z =>
     obtain ⟨ws,S⟩ := z
     rw [hy] at hg
     cases hg
     obtain ⟨Gf,f,a,b⟩ := list vs us.toList h1 hx hy
     exact fin f a (by simp only [VR];exact ⟨us,rfl,b⟩) rfl
   ·rename_i vs
    simp only [VR] at hv
    obtain ⟨us,rfl,h1⟩ := hv
    generalize hx : freezeL st.heap.length st1.heap vs = y at hg
    obtain ⟨vs',hf⟩ := y
    simp only at hg
    cases hy : retagL hf st.heap.length [] vs' with
    | none => rw [hy] at hg;cases hg
    | some z =>
     obtain ⟨ws,S⟩ := z
     rw [hy] at hg
     cases hg
     obtain ⟨Gf,f,a,b⟩ := list vs us.toList h1 hx hy
     exact fin f a (by simp only [VR];exact ⟨us,rfl,b⟩) rfl
   ·generalize hx : freeze1 st.heap.length st1.heap p = y at hg
    obtain ⟨q,h1⟩ := y
    simp only at hg
    cases hy : retag1 h1 st.heap.length [] q with
    | none => rw [hy] at hg;cases hg
    | some z =>
     obtain ⟨q',S⟩ := z
     rw [hy] at hg
     cases hg
     exact one hx hy rfl rfl
 ·cases he
  exact ⟨G1,r1,x.lo (Nat.min_le_right _ _),hv,Nat.min_le_left _ _⟩
end
end Go.Den
end

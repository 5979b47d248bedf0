/- Part of the proofs of laws of the package chest: the interpreter Den, its soundness, and contracts of the program's functions over it. Texts: DenWorld. -/
import Derived.Test.YtoeigapilcgelaaGreatDoorK2Ab
set_option linter.unusedSimpArgs false
set_option linter.unusedVariables false
section
namespace Go.Den
def LStR : LSt → LoopState → Prop
 | .ready, s => s = .ready
 | .busy, s => s = .busy
 | .done, s => s = .done
 | .over, s => s = .exhausted
def JumpR : Option Jump → Option Code → Prop
 | none, c => c = none
 | some .ret, c => c = some .ret
 | some (.exit id), c => c = some (.exit id)
def EsR (G : Gh) (w : World) : List (PV × PV) → List MapEntry → Prop
 | [], es => es = []
 | (k, v) :: r, es => ∃ e es', es = e :: es' ∧ VR G w k e.key ∧ VR G w v e.val ∧ EsR G w r es'
def Thawed (fr : Nat × Nat) (n : Nat) : Prop := ∀ o, o < n → (decide (fr.1 ≤ o) && decide (o < fr.2)) = false
theorem Thawed.zero (n : Nat) : Thawed (0, 0) n := fun o _ => by simp
section
variable (P : Program)
def ObjR (G : Gh) (w : World) : HObj → Nat → Prop
 | .var cs, b => ∃ (arr : Array Value) (T : TypeId), w.heap[b]? = some (Obj.cells arr T (0, 0)) ∧ VRL G w cs arr.toList
 | .map es, b => ∃ ents clock, w.heap[b]? = some (Obj.map ents clock) ∧ EsR G w es ents.toList
 | .loop tm ps as bd s pend, b => ∃ r : Loop, w.heap[b]? = some (Obj.loop r) ∧ VRL G w tm r.tmps.toList ∧ r.params.toList = ps ∧
   (∃ mu, codeC P mu r.assign = some as ∧ codeC P mu r.body = some bd) ∧ LStR s r.state ∧ JumpR pend r.pending
 | .iter s pos, b => w.heap[b]? = some (Obj.stringIter s pos)
 | _, _ => False
def Live : Option HObj → Prop
 | some (.tag true) => True
 | some (.arr _) => True
 | _ => False
def TagR (G : Gh) (w : World) (b e : Nat) : Option HObj → Prop
 | some (.tag true) => G.cm b = some e ∧ ∃ (arr : Array Value) (T : TypeId) (fr : Nat × Nat), w.heap[b]? = some (Obj.cells arr T fr) ∧ Thawed fr arr.size
 | some (.arr cs) => G.cm b = none ∧ e = cs.length ∧ (∃ (arr : Array Value) (T : TypeId) (fr : Nat × Nat), w.heap[b]? = some (Obj.cells arr T fr) ∧ e ≤ arr.size ∧ Thawed fr arr.size) ∧ VRC G w cs b 0
 | _ => True
structure WR (B0 : Nat) (w0 : World) (G : Gh) (h : List HObj) (w : World) : Prop where
 dom : ∀ {l}, h.length ≤ l → G.be l = none ∧ G.tg l = none
 obj : ∀ {l b}, G.be l = some b → B0 ≤ b ∧ b < w.heap.size ∧ G.cm b = none ∧ (∀ t e, G.tg t ≠ some (b, e)) ∧ ∃ o, h[l]? = some o ∧ ObjR P G w o b
 inj : ∀ {l l' b}, G.be l = some b → G.be l' = some b → l = l'
 tag : ∀ {t b e}, G.tg t = some (b, e) → B0 ≤ b ∧ b < w.heap.size ∧ TagR G w b e h[t]?
 tinj : ∀ {t t' b e e'}, G.tg t = some (b, e) → G.tg t' = some (b, e') → Live h[t]? → Live h[t']? → t = t'
 com : ∀ {b n}, G.cm b = some n → HasRow w b n
 low : B0 ≤ w.heap.size ∧ ∀ b, b < B0 → w.heap[b]? = w0.heap[b]?
 out : w.os = w0.os ∧ w.output = w0.output
structure Ext (G : Gh) (h : List HObj) (w : World) (G' : Gh) (h' : List HObj) (w' : World) (lo : Nat) : Prop where
 pres : Pres G w G' w'
 len : h.length ≤ h'.length
 pre : ∀ {l}, l < lo → l < h.length → h'[l]? = h[l]?
 size : w.heap.size ≤ w'.heap.size
 frame : ∀ {b}, b < w.heap.size → (∀ l, G.be l ≠ some b) → (∀ t e, G.tg t ≠ some (b, e)) → G.cm b = none → w'.heap[b]? = w.heap[b]?
 keep : ∀ {l b}, l < lo → G.be l = some b → w'.heap[b]? = w.heap[b]?
 keepT : ∀ {t b e cs}, t < lo → G.tg t = some (b, e) → h[t]? = some (.arr cs) → w'.heap[b]? = w.heap[b]?
 loops : ∀ {b : Nat} {r : Loop}, w.heap[b]? = some (Obj.loop r) → ∃ r', w'.heap[b]? = some (Obj.loop r') ∧ r'.defers = r.defers
 nbe : ∀ {l b}, G'.be l = some b → G.be l = none → h.length ≤ l ∧ w.heap.size ≤ b
 ntg : ∀ {t b e}, G'.tg t = some (b, e) → G.tg t = none → h.length ≤ t ∧ (w.heap.size ≤ b ∨ ∃ t' e', G.tg t' = some (b, e'))
 ncm : ∀ {b k}, G'.cm b = some k → G.cm b = none → w.heap.size ≤ b ∨ ∃ t e, G.tg t = some (b, e)
theorem Ext.lo {G h w G' h' w' lo lo'} (x : Ext G h w G' h' w' lo) (hl : lo' ≤ lo) : Ext G h w G' h' w' lo' :=
 { x with pre := fun a b => x.pre (by omega) b, keep := fun a b => x.keep (by omega) b, keepT := fun a b c => x.keepT (by omega) b c }
theorem Ext.refl (G h w lo) : Ext G h w G h w lo :=
 ⟨.refl _ _, Nat.le_refl _, fun _ _ => rfl, Nat.le_refl _, fun _ _ _ _ => rfl, fun _ _ => rfl, fun _ _ _ => rfl, fun h => ⟨_, h, rfl⟩,
  fun a b => (by rw [a] at b; cases b), fun a b => (by rw [a] at b; cases b), fun a b => (by rw [a] at b; cases b)⟩
theorem Ext.same {G h w w' lo} (e : w'.heap = w.heap) : Ext G h w G h w' lo := by
 have hp : Pres G w G w' := ⟨id, id, fun x => ⟨_, Nat.le_refl _, x⟩, fun x => ⟨_, by rw [e]; exact x, rfl⟩, fun _ _ => by unfold World.cell?; rw [e]⟩
 exact ⟨hp, Nat.le_refl _, fun _ _ => rfl, by rw [e]; exact Nat.le_refl _, fun _ _ _ _ => by rw [e], fun _ _ => by rw [e], fun _ _ _ => by rw [e], fun h => ⟨_, by rw [e]; exact h, rfl⟩,
  fun a b => (by rw [a] at b; cases b), fun a b => (by rw [a] at b; cases b), fun a b => (by rw [a] at b; cases b)⟩
theorem Ext.trans {G h w G1 h1 w1 G2 h2 w2 lo} (x : Ext G h w G1 h1 w1 lo) (y : Ext G1 h1 w1 G2 h2 w2 lo) : Ext G h w G2 h2 w2 lo where
 pres := x.pres.trans y.pres
 len := Nat.le_trans x.len y.len
 pre := fun a b => by rw [y.pre a (Nat.lt_of_lt_of_le b x.len), x.pre a b]
 size := Nat.le_trans x.size y.size
 frame := fun {b} a b1 b2 b3 => by
  rw [y.frame (Nat.lt_of_lt_of_le a x.size) ?_ ?_ ?_, x.frame a b1 b2 b3]
  ·intro l e
   cases hb : G.be l with
   | none => have := (x.nbe e hb).2; omega
   | some b' =>
    have := x.pres.be hb
    rw [e] at this; cases this
    exact b1 l hb
  ·intro t e he
   cases hb : G.tg t with
   | none =>
    rcases (x.ntg he hb).2 with h3 | ⟨t', e', h3⟩
    ·omega
    ·exact b2 t' e' h3
   | some p =>
    have := x.pres.tg hb
    rw [he] at this; cases this
    exact b2 t e hb
  ·cases hc : G1.cm b with
   | none => rfl
   | some k =>
    rcases x.ncm hc b3 with h3 | ⟨t', e', h3⟩
    ·omega
    ·exact absurd h3 (b2 t' e')
 keep := fun a b => by rw [y.keep a (x.pres.be b), x.keep a b]
 keepT := fun {t b e cs} a b1 c => by
  have hl : t < h.length := (List.getElem?_eq_some_iff.1 c).1
  rw [y.keepT a (x.pres.tg b1) (by rw [x.pre a hl]; exact c), x.keepT a b1 c]
 loops := fun a => by
  obtain ⟨r1, b1, c1⟩ := x.loops a
  obtain ⟨r2, b2, c2⟩ := y.loops b1
  exact ⟨r2, b2, c2.trans c1⟩
 nbe := fun {l b} a b1 => by
  cases hc : G1.be l with
  | none => have := y.nbe a hc; have := x.len; have := x.size; omega
  | some b' =>
   have := y.pres.be hc
   rw [a] at this; cases this
   exact x.nbe hc b1
 ntg := fun {t b e} a b1 => by
  cases hc : G1.tg t with
  | none =>
   obtain ⟨h3, h4⟩ := y.ntg a hc
   refine ⟨Nat.le_trans x.len h3, ?_⟩
   rcases h4 with h4 | ⟨t', e', h4⟩
   ·exact .inl (Nat.le_trans x.size h4)
   ·cases hd : G.tg t' with
    | none => exact (x.ntg h4 hd).2
    | some p => have := x.pres.tg hd; rw [h4] at this; cases this; exact .inr ⟨_, _, hd⟩
  | some p =>
   have := y.pres.tg hc
   rw [a] at this; cases this
   exact x.ntg hc b1
 ncm := fun {b k} a b1 => by
  cases hc : G1.cm b with
  | none =>
   rcases y.ncm a hc with h4 | ⟨t', e', h4⟩
   ·exact .inl (Nat.le_trans x.size h4)
   ·cases hd : G.tg t' with
    | none => exact (x.ntg h4 hd).2
    | some p => have := x.pres.tg hd; rw [h4] at this; cases this; exact .inr ⟨_, _, hd⟩
  | some p => exact x.ncm hc b1
theorem EsR.mono {G w G' w'} (h : Pres G w G' w') : ∀ {es : List (PV × PV)} {ms : List MapEntry}, EsR G w es ms → EsR G' w' es ms
 | [], ms, r => r
 | (k, v) :: es, ms, r => by
  obtain ⟨e, es', h1, h2, h3, h4⟩ := r
  exact ⟨e, es', h1, h2.mono h, h3.mono h, EsR.mono h h4⟩
variable {P}
theorem ObjR.mono {G w G' w' o b} (h : Pres G w G' w') (hb : w'.heap[b]? = w.heap[b]?) (r : ObjR P G w o b) : ObjR P G' w' o b := by
 cases o with
 | var cs => obtain ⟨arr, T, h1, h2⟩ := r; exact ⟨arr, T, by rw [hb]; exact h1, h2.mono h⟩
 | map es => obtain ⟨a, c, h1, h2⟩ := r; exact ⟨a, c, by rw [hb]; exact h1, h2.mono h⟩
 | loop tm ps as bd s pend => obtain ⟨r, h1, h2, h3⟩ := r; exact ⟨r, by rw [hb]; exact h1, h2.mono h, h3⟩
 | iter s pos => show w'.heap[b]? = _; rw [hb]; exact r
 | tag o => exact r
 | arr cs => exact r
theorem cell_of_heap {w w' : World} {b : Nat} (hb : w'.heap[b]? = w.heap[b]?) (o : Nat) : w'.cell? ⟨b, o, none⟩ = w.cell? ⟨b, o, none⟩ := by
 unfold World.cell?; simp only [hb]
theorem TagR.mono {G w G' w' b e} {o : Option HObj} (h : Pres G w G' w') (ht : o = some (.tag true) → G'.cm b = some e) (ha : ∀ cs, o = some (.arr cs) → G'.cm b = none ∧ w'.heap[b]? = w.heap[b]?)
  (r : TagR G w b e o) : TagR G' w' b e o := by
 match o, r with
 | some (.tag true), r =>
  obtain ⟨h1, arr, T, fr, h2, h3⟩ := r
  obtain ⟨arr', h4, h5⟩ := h.row h2
  exact ⟨ht rfl, arr', T, fr, h4, by rw [h5]; exact h3⟩
 | some (.tag false), _ => trivial
 | some (.arr cs), r =>
  obtain ⟨h1, h2, ⟨arr, T, fr, h3, h4⟩, h5⟩ := r
  obtain ⟨g1, g2⟩ := ha cs rfl
  exact ⟨g1, h2, ⟨arr, T, fr, by rw [g2]; exact h3, h4⟩, h5.mono h (fun o _ _ => cell_of_heap g2 o)⟩
 | some (.var _), _ => trivial
 | some (.map _), _ => trivial
 | some (.loop ..), _ => trivial
 | some (.iter ..), _ => trivial
 | none, _ => trivial
theorem WR.same {B0 w0 G h w w'} (r : WR P B0 w0 G h w) (e : w'.heap = w.heap) (eo : w'.os = w.os ∧ w'.output = w.output := by exact ⟨rfl, rfl⟩) : WR P B0 w0 G h w' := by
 have hp := (Ext.same (G := G) (h := h) (lo := 0) e).pres
 exact ⟨r.dom, fun x => let ⟨a, b, c, d, o, f, g⟩ := r.obj x; ⟨a, by rw [e]; exact b, c, d, o, f, g.mono hp (by rw [e])⟩, r.inj,
  fun x => let ⟨a, b, c⟩ := r.tag x; ⟨a, by rw [e]; exact b, c.mono hp (fun he => by rw [he] at c; exact c.1) (fun cs he => by rw [he] at c; exact ⟨c.1, by rw [e]⟩)⟩,
  r.tinj, fun x => hp.hasRow (r.com x), by rw [e]; exact r.low, by rw [eo.1, eo.2]; exact r.out⟩
def upd {α : Type} (f : Nat → α) (i : Nat) (x : α) : Nat → α := fun j => if j = i then x else f j
theorem upd_same {α : Type} (f : Nat → α) (i : Nat) (x : α) : upd f i x i = x := by simp [upd]
theorem upd_ne {α : Type} (f : Nat → α) {i j : Nat} (x : α) (h : j ≠ i) : upd f i x j = f j := by simp [upd, h]
theorem getElem?_snoc {α : Type} (l : List α) (x : α) (i : Nat) : (l ++ [x])[i]? = if i = l.length then some x else l[i]? := by
 by_cases h : i = l.length
 ·subst h; simp
 ·rw [if_neg h]
  by_cases h' : i < l.length
  ·rw [List.getElem?_append_left h']
  ·rw [List.getElem?_append_right (by omega), List.getElem?_eq_none (by simp; omega), List.getElem?_eq_none (by omega)]
theorem heap_alloc_lt (w : World) (o : Obj) {b : Nat} (h : b < w.heap.size) : (w.alloc o).heap[b]? = w.heap[b]? := by
 simp only [World.alloc]; rw [Array.getElem?_push]; rw [if_neg (by omega)]
theorem heap_alloc_new (w : World) (o : Obj) : (w.alloc o).heap[w.heap.size]? = some o := by
 show (w.heap.push o)[w.heap.size]? = some o
 simp
theorem size_alloc (w : World) (o : Obj) : (w.alloc o).heap.size = w.heap.size + 1 := by
 show (w.heap.push o).size = _
 simp
theorem lt_of_heap {w : World} {b : Nat} {o : Obj} (h : w.heap[b]? = some o) : b < w.heap.size := (Array.getElem?_eq_some_iff.1 h).1
theorem cell_alloc_lt (w : World) (o : Obj) {b i : Nat} (h : b < w.heap.size) : (w.alloc o).cell? ⟨b, i, none⟩ = w.cell? ⟨b, i, none⟩ :=
 cell_of_heap (heap_alloc_lt w o h) i
theorem WR.cmLt {B0 w0 G h w} (r : WR P B0 w0 G h w) {b n} (x : G.cm b = some n) : b < w.heap.size := by
 obtain ⟨_, _, _, h1, _⟩ := r.com x
 exact lt_of_heap h1
theorem alloc_obj {B0 w0 G h w} (r : WR P B0 w0 G h w) (o : HObj) (obj : Obj)
  (ho : ∀ G' w', Pres G w G' w' → w'.heap[w.heap.size]? = some obj → G'.be h.length = some w.heap.size → ObjR P G' w' o w.heap.size) :
  WR P B0 w0 { G with be := upd G.be h.length (some w.heap.size) } (h ++ [o]) (w.alloc obj) ∧
  ∀ lo, Ext G h w { G with be := upd G.be h.length (some w.heap.size) } (h ++ [o]) (w.alloc obj) lo := by
 have hd := r.dom (l := h.length) (Nat.le_refl _)
 have hp : Pres G w { G with be := upd G.be h.length (some w.heap.size) } (w.alloc obj) := by
  refine ⟨fun {l b} x => ?_, id, fun x => ⟨_, Nat.le_refl _, x⟩, fun {b arr T fr} x => ⟨arr, ?_, rfl⟩, fun {b n o} x y => ?_⟩
  ·show upd _ _ _ _ = _
   rw [upd_ne]
   ·exact x
   ·intro e; subst e; rw [hd.1] at x; cases x
  ·rw [heap_alloc_lt _ _ (lt_of_heap x)]; exact x
  ·exact cell_alloc_lt _ _ (r.cmLt x)
 refine ⟨⟨?_, ?_, ?_, ?_, ?_, ?_, ?_, r.out⟩, fun lo => ⟨hp, by simp, fun _ hl => ?_, by rw [size_alloc]; omega, ?_, ?_, ?_, ?_, ?_, ?_, ?_⟩⟩
 ·intro l hl
  simp at hl
  refine ⟨?_, (r.dom (by omega)).2⟩
  show upd _ _ _ _ = _
  rw [upd_ne _ _ (by omega)]
  exact (r.dom (by omega)).1
 ·intro l b hb
  by_cases hl : l = h.length
  ·subst hl
   have : upd G.be h.length (some w.heap.size) h.length = some b := hb
   rw [upd_same] at this
   cases this
   refine ⟨r.low.1, by rw [size_alloc]; omega, ?_, ?_, o, by simp, ho _ _ hp (heap_alloc_new _ _) (upd_same _ _ _)⟩
   ·cases hc : G.cm w.heap.size with
    | none => rfl
    | some n => have := r.cmLt hc; omega
   ·intro t e x
    have := (r.tag x).2.1
    omega
  ·have hb' : upd G.be h.length (some w.heap.size) l = some b := hb
   rw [upd_ne _ _ hl] at hb'
   obtain ⟨a1, a2, a3, a4, o', a5, a6⟩ := r.obj hb'
   exact ⟨a1, by rw [size_alloc]; omega, a3, a4, o', by rw [getElem?_snoc, if_neg hl]; exact a5, a6.mono hp (heap_alloc_lt _ _ a2)⟩
 ·intro l l' b x y
  have x' : upd G.be h.length (some w.heap.size) l = some b := x
  have y' : upd G.be h.length (some w.heap.size) l' = some b := y
  by_cases hl : l = h.length <;> by_cases hl' : l' = h.length
  ·omega
  ·subst hl
   rw [upd_same] at x'; cases x'
   rw [upd_ne _ _ hl'] at y'
   have := (r.obj y').2.1
   omega
  ·subst hl'
   rw [upd_same] at y'; cases y'
   rw [upd_ne _ _ hl] at x'
   have := (r.obj x').2.1
   omega
  ·rw [upd_ne _ _ hl] at x'
   rw [upd_ne _ _ hl'] at y'
   exact r.inj x' y'
 ·intro t b e x
  obtain ⟨a1, a2, a3⟩ := r.tag x
  have ht : t ≠ h.length := by intro e; subst e; rw [hd.2] at x; cases x
  refine ⟨a1, by rw [size_alloc]; omega, ?_⟩
  rw [getElem?_snoc, if_neg ht]
  exact a3.mono hp (fun he => by rw [he] at a3; exact a3.1) (fun cs he => by rw [he] at a3; exact ⟨a3.1, heap_alloc_lt _ _ a2⟩)
 ·intro t t' b e e' x y l1 l2
  have ht : t ≠ h.length := by intro e; subst e; rw [hd.2] at x; cases x
  have ht' : t' ≠ h.length := by intro e; subst e; rw [hd.2] at y; cases y
  rw [getElem?_snoc, if_neg ht] at l1
  rw [getElem?_snoc, if_neg ht'] at l2
  exact r.tinj x y l1 l2
 ·intro b n x
  exact hp.hasRow (r.com x)
 ·refine ⟨by rw [size_alloc]; have := r.low.1; omega, fun b hb => ?_⟩
  rw [heap_alloc_lt _ _ (Nat.lt_of_lt_of_le hb r.low.1)]
  exact r.low.2 b hb
 ·rw [getElem?_snoc, if_neg (by omega)]
 ·intro b a _ _ _; exact heap_alloc_lt _ _ a
 ·intro l b _ x; exact heap_alloc_lt _ _ (r.obj x).2.1
 ·intro t b e cs _ x _; exact heap_alloc_lt _ _ (r.tag x).2.1
 ·intro b r' x; exact ⟨r', by rw [heap_alloc_lt _ _ (lt_of_heap x)]; exact x, rfl⟩
 ·intro l b x y
  have x' : upd G.be h.length (some w.heap.size) l = some b := x
  by_cases hl : l = h.length
  ·subst hl; rw [upd_same] at x'; cases x'; exact ⟨Nat.le_refl _, Nat.le_refl _⟩
  ·rw [upd_ne _ _ hl] at x'; rw [x'] at y; cases y
 ·intro t b e x y; have x' : G.tg t = _ := x; rw [x'] at y; cases y
 ·intro b k x y; have x' : G.cm b = _ := x; rw [x'] at y; cases y
end
end Go.Den
end

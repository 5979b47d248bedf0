/- Part of the proofs of laws of the package chest: the interpreter Den, its soundness, and contracts of the program's functions over it. Texts: DenFinish. -/
import Derived.Test.YtoeigapilcgelaaGreatDoorK2Ad
set_option linter.unusedSimpArgs false
set_option linter.unusedVariables false
section
namespace Go.Den
theorem VR.share {G w p v} (h : VR G w p v) : VR G w p.share v := by
 cases p <;> try exact h
 simp only [PV.share, VR] at h ⊢
 obtain ⟨b, off, cap, h1, h2, h3, _, h5⟩ := h
 exact ⟨b, off, cap, h1, h2, h3, trivial, h5⟩
theorem VRL.share {G w} : ∀ {ps : List PV} {vs : List Value}, VRL G w ps vs → VRL G w (ps.map PV.share) vs
 | [], vs, h => h
 | c :: cs, vs, h => by
  obtain ⟨v, vs', rfl, h1, h2⟩ := VRL.cons_iff.1 h
  exact VRL.cons h1.share (VRL.share h2)
theorem VRC.share {G w} : ∀ {ps : List PV} {b off : Nat}, VRC G w ps b off → VRC G w (ps.map PV.share) b off
 | [], _, _, _ => by simp only [List.map_nil, VRC]
 | c :: cs, b, off, h => by
  simp only [List.map_cons, VRC] at h ⊢
  obtain ⟨⟨v, h1, h2⟩, h3⟩ := h
  exact ⟨⟨v, h1, h2.share⟩, VRC.share h3⟩
structure Restr (m : Nat) (G G2 : Gh) : Prop where
 be : ∀ {l b}, l < m → G.be l = some b → G2.be l = some b
 tg : ∀ {l x}, l < m → G.tg l = some x → G2.tg l = some x
 cm : ∀ {b n}, G.cm b = some n → ∃ n', n ≤ n' ∧ G2.cm b = some n'
mutual
theorem VR.restr {m G G2 w} (h : Restr m G G2) : ∀ {p : PV} {v : Value}, p.low m = true → VR G w p v → VR G2 w p v
 | .bool b, v, _, r => by simpa only [VR] using r
 | .int k n, v, _, r => by simpa only [VR] using r
 | .str s, v, _, r => by simpa only [VR] using r
 | .ptr l off, v, hl, r => by
  simp only [VR] at r ⊢
  simp only [PV.low, decide_eq_true_eq] at hl
  obtain ⟨b, h1, h2⟩ := r
  exact ⟨b, h.be hl h1, h2⟩
 | .cptr cs, v, hl, r => by
  simp only [VR] at r ⊢
  simp only [PV.low] at hl
  obtain ⟨b, off, h1, h2, h3⟩ := r
  refine ⟨b, off, h1, fun hne => ?_, VRC.restr h hl h3⟩
  obtain ⟨k, a1, a2⟩ := h2 hne
  obtain ⟨k', a3, a4⟩ := h.cm a1
  exact ⟨k', a4, by omega⟩
 | .nilptr, v, _, r => by simpa only [VR] using r
 | .slice o n cs, v, hl, r => by
  simp only [VR] at r ⊢
  obtain ⟨b, off, cap, h1, hc, h2, h4, h3⟩ := r
  have hl' : lowL m cs = true ∧ (∀ t sz, o = .tag t sz → t < m) := by
   cases o with
   | shared => simp only [PV.low] at hl; exact ⟨hl, fun _ _ e => by cases e⟩
   | tag t sz => simp only [PV.low, Bool.and_eq_true, decide_eq_true_eq] at hl; exact ⟨hl.2, fun _ _ e => by cases e; exact hl.1⟩
  refine ⟨b, off, cap, h1, hc, fun hne => ?_, ?_, VRC.restr h hl'.1 h3⟩
  ·obtain ⟨k, a1, a2⟩ := h2 hne
   obtain ⟨k', a3, a4⟩ := h.cm a1
   exact ⟨k', a4, by omega⟩
  ·cases o with
   | shared => trivial
   | tag t sz => exact ⟨h4.1, h.tg (hl'.2 _ _ rfl) h4.2.1, h4.2.2⟩
 | .nilslice, v, _, r => by simpa only [VR] using r
 | .hslice l sz n, v, hl, r => by
  simp only [VR] at r ⊢
  simp only [PV.low, decide_eq_true_eq] at hl
  obtain ⟨b, e, cap, h1, h2, h3, h4⟩ := r
  exact ⟨b, e, cap, h.tg hl h1, h2, h3, h4⟩
 | .aptr l off, v, hl, r => by
  simp only [VR] at r ⊢
  simp only [PV.low, decide_eq_true_eq] at hl
  obtain ⟨b, e, h1, h2⟩ := r
  exact ⟨b, e, h.tg hl h1, h2⟩
 | .map l, v, hl, r => by
  simp only [VR] at r ⊢
  simp only [PV.low, decide_eq_true_eq] at hl
  obtain ⟨b, h1, h2⟩ := r
  exact ⟨b, h.be hl h1, h2⟩
 | .nilmap, v, _, r => by simpa only [VR] using r
 | .func f a c, v, hl, r => by
  simp only [VR] at r ⊢
  simp only [PV.low, Bool.and_eq_true] at hl
  obtain ⟨a', c', h1, h2, h3⟩ := r
  exact ⟨a', c', h1, VRL.restr h hl.1 h2, VRL.restr h hl.2 h3⟩
 | .nilfunc, v, _, r => by simpa only [VR] using r
 | .yield l, v, hl, r => by
  simp only [VR] at r ⊢
  simp only [PV.low, decide_eq_true_eq] at hl
  obtain ⟨b, h1, h2⟩ := r
  exact ⟨b, h.be hl h1, h2⟩
 | .iface t x, v, hl, r => by
  simp only [VR] at r ⊢
  simp only [PV.low] at hl
  obtain ⟨y, h1, h2⟩ := r
  exact ⟨y, h1, VR.restr h hl h2⟩
 | .niliface, v, _, r => by simpa only [VR] using r
 | .agg cs, v, hl, r => by
  simp only [VR] at r ⊢
  simp only [PV.low] at hl
  obtain ⟨vs, h1, h2⟩ := r
  exact ⟨vs, h1, VRL.restr h hl h2⟩
 | .tuple cs, v, hl, r => by
  simp only [VR] at r ⊢
  simp only [PV.low] at hl
  obtain ⟨vs, h1, h2⟩ := r
  exact ⟨vs, h1, VRL.restr h hl h2⟩
theorem VRL.restr {m G G2 w} (h : Restr m G G2) : ∀ {ps : List PV} {vs : List Value}, lowL m ps = true → VRL G w ps vs → VRL G2 w ps vs
 | [], vs, _, r => by simpa only [VRL] using r
 | c :: cs, vs, hl, r => by
  simp only [VRL] at r ⊢
  simp only [lowL, Bool.and_eq_true] at hl
  obtain ⟨v, vs', h1, h2, h3⟩ := r
  exact ⟨v, vs', h1, VR.restr h hl.1 h2, VRL.restr h hl.2 h3⟩
theorem VRC.restr {m G G2 w} (h : Restr m G G2) : ∀ {ps : List PV} {b off : Nat}, lowL m ps = true → VRC G w ps b off → VRC G2 w ps b off
 | [], b, off, _, r => by simp only [VRC]
 | c :: cs, b, off, hl, r => by
  simp only [VRC] at r ⊢
  simp only [lowL, Bool.and_eq_true] at hl
  obtain ⟨⟨v, h1, h2⟩, h3⟩ := r
  exact ⟨⟨v, h1, VR.restr h hl.1 h2⟩, VRC.restr h hl.2 h3⟩
end
section
variable {P : Program}
structure Fz (B0 : Nat) (w0 : World) (m : Nat) (G : Gh) (h : List HObj) (w : World) (G' : Gh) (h' : List HObj) : Prop where
 wr : WR P B0 w0 G' h' w
 be : G'.be = G.be
 tg : G'.tg = G.tg
 cm : ∀ {b n}, G.cm b = some n → G'.cm b = some n
 ncm : ∀ {b n}, G'.cm b = some n → G.cm b = none → ∃ t e, G.tg t = some (b, e)
 len : h'.length = h.length
 pre : ∀ {l}, l < m → h'[l]? = h[l]?
theorem Fz.pres {B0 w0 m G h w G' h'} (f : Fz (P := P) B0 w0 m G h w G' h') : Pres G w G' w :=
 ⟨fun x => by rw [f.be]; exact x, fun x => by rw [f.tg]; exact x, fun x => ⟨_, Nat.le_refl _, f.cm x⟩, fun x => ⟨_, x, rfl⟩, fun _ _ => rfl⟩
theorem Fz.refl {B0 w0 m G h w} (r : WR P B0 w0 G h w) : Fz (P := P) B0 w0 m G h w G h := ⟨r, rfl, rfl, id, fun a b => (by rw [a] at b; cases b), rfl, fun _ => rfl⟩
theorem Fz.trans {B0 w0 m G h w G1 h1 G2 h2} (f : Fz (P := P) B0 w0 m G h w G1 h1) (g : Fz (P := P) B0 w0 m G1 h1 w G2 h2) : Fz (P := P) B0 w0 m G h w G2 h2 :=
 ⟨g.wr, g.be.trans f.be, g.tg.trans f.tg, fun x => g.cm (f.cm x), fun {b n} x y => by
  cases hc : G1.cm b with
  | none => rw [← f.tg]; exact g.ncm x hc
  | some k => exact f.ncm hc y, g.len.trans f.len, fun a => (g.pre a).trans (f.pre a)⟩
theorem freeze1_ok {B0 w0 m G h w} (r : WR P B0 w0 G h w) {p : PV} {v : Value} (hv : VR G w p v) {p' h'} (hf : freeze1 m h p = (p', h')) :
  ∃ G', Fz (P := P) B0 w0 m G h w G' h' ∧ VR G' w p' v := by
 unfold freeze1 at hf
 split at hf
 ·rename_i t sz n
  split at hf
  ·cases hf; exact ⟨G, .refl r, hv⟩
  ·rename_i htm
   split at hf
   ·rename_i cs hh
    split at hf
    ·rename_i hcell
     cases hf
     simp only [VR] at hv
     obtain ⟨b, e, cap, h1, rfl, h3, h4⟩ := hv
     obtain ⟨t1, t2, t3⟩ := r.tag h1
     rw [hh] at t3
     obtain ⟨c1, c2, ⟨arr, T, fr, c3, c4, c5⟩, c6⟩ := t3
     have hll : t < h.length := (List.getElem?_eq_some_iff.1 hh).1
     have hcne : ∀ {k}, k ≠ b → upd G.cm b (some e) k = G.cm k := fun hk => upd_ne _ _ hk
     have hnbe : ∀ l, G.be l ≠ some b := fun l x => (r.obj x).2.2.2.1 t e h1
     have hp : Pres G w { G with cm := upd G.cm b (some e) } w := by
      refine ⟨id, id, fun {k n} x => ⟨n, Nat.le_refl _, ?_⟩, fun x => ⟨_, x, rfl⟩, fun _ _ => rfl⟩
      show upd _ _ _ _ = _
      rw [hcne]
      ·exact x
      ·intro e; subst e; rw [c1] at x; cases x
     refine ⟨{ G with cm := upd G.cm b (some e) }, ⟨⟨fun {k} hk => r.dom (by simpa using hk), fun {l b'} x => ?_, r.inj, fun {t' b' e'} x => ?_, fun {u1 u2 b' e1 e2} x y l1 l2 => ?_, fun {k n} x => ?_, r.low, r.out⟩,
      rfl, rfl, fun {k n} x => ?_, fun {k n} x y => ?_, by simp, fun {l} hl => ?_⟩, ?_⟩
     ·obtain ⟨a1, a2, a3, a4, o', a5, a6⟩ := r.obj x
      have hbb : b' ≠ b := fun e => hnbe l (e ▸ x)
      refine ⟨a1, a2, by show upd _ _ _ _ = _; rw [hcne hbb]; exact a3, a4, o', ?_, a6.mono hp rfl⟩
      rw [getElem?_set' _ _ _ _ hll, if_neg]
      ·exact a5
      ·intro e2; subst e2; rw [hh] at a5; cases a5; exact a6.elim
     ·obtain ⟨a1, a2, a3⟩ := r.tag x
      refine ⟨a1, a2, ?_⟩
      rw [getElem?_set' _ _ _ _ hll]
      by_cases ht : t' = t
      ·subst ht
       rw [h1] at x; cases x
       rw [if_pos rfl]
       exact ⟨upd_same _ _ _, arr, T, fr, c3, c5⟩
      ·rw [if_neg ht]
       by_cases hbb : b' = b
       ·subst hbb
        have : ¬ Live h[t']? := fun hl => ht (r.tinj x h1 hl (by rw [hh]; trivial))
        match h2 : h[t']? with
        | some (.tag true) => rw [h2] at this; exact absurd trivial this
        | some (.arr cs) => rw [h2] at this; exact absurd trivial this
        | some (.tag false) => trivial
        | some (.var _) => trivial
        | some (.map _) => trivial
        | some (.loop ..) => trivial
        | some (.iter ..) => trivial
        | none => trivial
       ·exact a3.mono hp (fun he => by rw [he] at a3; show upd _ _ _ _ = _; rw [hcne hbb]; exact a3.1) (fun cs he => by rw [he] at a3; exact ⟨by show upd _ _ _ _ = _; rw [hcne hbb]; exact a3.1, rfl⟩)
     ·have aux : ∀ u : Nat, Live (h.set t (.tag true))[u]? → Live h[u]? := by
       intro u hl
       rw [getElem?_set' _ _ _ _ hll] at hl
       by_cases hu : u = t
       ·subst hu; rw [hh]; trivial
       ·rwa [if_neg hu] at hl
      exact r.tinj x y (aux _ l1) (aux _ l2)
     ·have x' : upd G.cm b (some e) k = some n := x
      by_cases hk : k = b
      ·subst hk; rw [upd_same] at x'; cases x'; exact ⟨arr, T, fr, c3, c4⟩
      ·rw [hcne hk] at x'; exact r.com x'
     ·show upd _ _ _ _ = _
      rw [hcne]
      ·exact x
      ·intro e2; subst e2; rw [c1] at x; cases x
     ·have x' : upd G.cm b (some e) k = some n := x
      by_cases hk : k = b
      ·subst hk; exact ⟨t, e, h1⟩
      ·rw [hcne hk] at x'; rw [x'] at y; cases y
     ·rw [getElem?_set' _ _ _ _ hll, if_neg (by omega)]
     ·simp only [VR]
      refine ⟨b, 0, cap, rfl, h3, fun _ => ⟨e, upd_same _ _ _, by simp; omega⟩, ⟨rfl, by simp only [List.length_map]; rw [h1, c2], by simpa using h4⟩, ?_⟩
      exact (c6.mono hp (fun _ _ _ => rfl)).share
    ·cases hf; exact ⟨G, .refl r, hv⟩
   ·cases hf; exact ⟨G, .refl r, hv⟩
 ·cases hf; exact ⟨G, .refl r, hv⟩
theorem freezeL_ok {B0 w0 m} : ∀ {ps : List PV} {vs : List Value} {G h w} (_ : WR P B0 w0 G h w) (_ : VRL G w ps vs) {ps' h'} (_ : freezeL m h ps = (ps', h')),
  ∃ G', Fz (P := P) B0 w0 m G h w G' h' ∧ VRL G' w ps' vs
 | [], vs, G, h, w, r, hv, ps', h', hf => by
  simp only [freezeL] at hf; cases hf
  exact ⟨G, .refl r, hv⟩
 | p :: ps, vs, G, h, w, r, hv, ps', h', hf => by
  obtain ⟨v, vs', rfl, h1, h2⟩ := VRL.cons_iff.1 hv
  simp only [freezeL] at hf
  generalize hx : freeze1 m h p = x at hf
  obtain ⟨p1, hh1⟩ := x
  simp only at hf
  generalize hy : freezeL m hh1 ps = y at hf
  obtain ⟨ps1, hh2⟩ := y
  simp only at hf
  cases hf
  obtain ⟨G1, f1, r1⟩ := freeze1_ok r h1 hx
  obtain ⟨G2, f2, r2⟩ := freezeL_ok f1.wr (h2.mono f1.pres) hy
  exact ⟨G2, f1.trans f2, VRL.cons (r1.mono f2.pres) r2⟩
structure Seen (h : List HObj) (m : Nat) (S : List Nat) : Prop where
 nodup : S.Nodup
 all : ∀ t, t ∈ S → m ≤ t ∧ h[t]? = some (.tag true)
def cut (m : Nat) (G Gf : Gh) (S : List Nat) : Gh := { be := G.be, tg := fun l => if l < m then G.tg l else (S[l - m]?).bind Gf.tg, cm := Gf.cm }
theorem retag1_ok {h : List HObj} {m : Nat} {G Gf : Gh} {w : World} {S : List Nat} (hS : Seen h m S) (hr : ∀ S, Restr m Gf (cut m G Gf S)) {p : PV} {v : Value} (hv : VR Gf w p v) {p' S'} (he : retag1 h m S p = some (p', S')) :
  Seen h m S' ∧ S <+: S' ∧ ∀ S2, S' <+: S2 → VR (cut m G Gf S2) w p' v := by
 have other : p.low m = true → ∀ S2, VR (cut m G Gf S2) w p v := fun hl S2 => VR.restr (hr S2) hl hv
 unfold retag1 at he
 split at he
 ·rename_i t sz n cs
  split at he
  ·rename_i hlow
   have shared : ∀ S2, VR (cut m G Gf S2) w (.slice .shared n cs) v := by
    intro S2
    have : VR Gf w (PV.slice .shared n cs) v := hv.share
    exact VR.restr (hr S2) (by simp only [PV.low]; exact hlow) this
   split at he
   ·rename_i htm
    cases he
    exact ⟨hS, List.prefix_refl _, fun S2 _ => other (by simp only [PV.low, Bool.and_eq_true, decide_eq_true_eq]; exact ⟨htm, hlow⟩) S2⟩
   ·rename_i htm
    split at he
    ·rename_i hh
     split at he
     ·cases he; exact ⟨hS, List.prefix_refl _, fun S2 _ => shared S2⟩
     ·rename_i hcon
      cases he
      refine ⟨⟨?_, ?_⟩, ⟨[t], rfl⟩, fun S2 hp => ?_⟩
      ·rw [List.nodup_append]
       refine ⟨hS.nodup, by simp, fun a ha b hb => ?_⟩
       simp at hb; subst hb
       intro e; subst e
       exact hcon (by simpa using ha)
      ·intro t' ht'
       rcases List.mem_append.1 ht' with h1 | h1
       ·exact hS.all _ h1
       ·simp at h1; subst h1; exact ⟨by omega, hh⟩
      ·have h1 := shared S2
       simp only [VR] at h1 hv ⊢
       obtain ⟨b, off, cap, a1, a2, a3, _, a5⟩ := h1
       obtain ⟨b', off', cap', c1, c2, c3, c4, c5⟩ := hv
       rw [a1] at c1; cases c1
       refine ⟨b, off, cap, a1, a2, a3, ⟨c4.1, ?_, c4.2.2⟩, a5⟩
       show (if m + S.length < m then _ else _) = _
       rw [if_neg (by omega)]
       have : S2[m + S.length - m]? = some t := by
        obtain ⟨q, rfl⟩ := hp
        rw [show m + S.length - m = S.length from by omega, List.append_assoc, List.getElem?_append_right (Nat.le_refl _)]
        simp
       rw [this]
       exact c4.2.1
    ·cases he; exact ⟨hS, List.prefix_refl _, fun S2 _ => shared S2⟩
  ·cases he
 ·split at he
  ·rename_i hl
   cases he
   exact ⟨hS, List.prefix_refl _, fun S2 _ => other hl S2⟩
  ·cases he
theorem retagL_ok {h : List HObj} {m : Nat} {G Gf : Gh} {w : World} (hr : ∀ S, Restr m Gf (cut m G Gf S)) : ∀ {ps : List PV} {vs : List Value} {S : List Nat} (_ : Seen h m S) (_ : VRL Gf w ps vs) {ps' S'} (_ : retagL h m S ps = some (ps', S')),
  Seen h m S' ∧ S <+: S' ∧ ∀ S2, S' <+: S2 → VRL (cut m G Gf S2) w ps' vs
 | [], vs, S, hS, hv, ps', S', he => by
  simp only [retagL] at he; cases he
  exact ⟨hS, List.prefix_refl _, fun _ _ => by rw [VRL.nil_iff.1 hv]; exact VRL.nil_iff.2 rfl⟩
 | p :: ps, vs, S, hS, hv, ps', S', he => by
  obtain ⟨v, vs', rfl, h1, h2⟩ := VRL.cons_iff.1 hv
  simp only [retagL] at he
  split at he
  ·rename_i p1 s1 hx
   split at he
   ·rename_i ps1 s2 hy
    cases he
    obtain ⟨a1, a2, a3⟩ := retag1_ok hS hr h1 hx
    obtain ⟨b1, b2, b3⟩ := retagL_ok hr a1 h2 hy
    exact ⟨b1, a2.trans b2, fun S2 hp => VRL.cons (a3 S2 (b2.trans hp)) (b3 S2 hp)⟩
   ·cases he
  ·cases he
theorem cut_ok {B0 w0 G h w G1 h1 w1 lo Gf hf S} (r : WR P B0 w0 G h w) (x : Ext G h w G1 h1 w1 lo) (hlo : h.length ≤ lo) (f : Fz (P := P) B0 w0 h.length G1 h1 w1 Gf hf) (hS : Seen hf h.length S) :
  WR P B0 w0 (cut h.length G Gf S) (h ++ List.replicate S.length (.tag true)) w1 ∧ ∀ lo', Ext G h w (cut h.length G Gf S) (h ++ List.replicate S.length (.tag true)) w1 lo' := by
 have hbelt : ∀ {l b}, G.be l = some b → l < h.length := fun {l b} hb => by
  rcases Nat.lt_or_ge l h.length with h' | h'
  ·exact h'
  ·rw [(r.dom h').1] at hb; cases hb
 have htglt : ∀ {l b}, G.tg l = some b → l < h.length := fun {l b} hb => by
  rcases Nat.lt_or_ge l h.length with h' | h'
  ·exact h'
  ·rw [(r.dom h').2] at hb; cases hb
 have hp : Pres G w (cut h.length G Gf S) w1 := by
  have hp1 := x.pres.trans f.pres
  refine ⟨id, fun {l y} hx => ?_, hp1.cm, hp1.row, hp1.data⟩
  show (if l < h.length then _ else _) = _
  rw [if_pos (htglt hx)]; exact hx
 have htg : ∀ {t b e}, (cut h.length G Gf S).tg t = some (b, e) → ∃ t0, Gf.tg t0 = some (b, e) ∧ ((t < h.length ∧ t0 = t ∧ G.tg t = some (b, e)) ∨ (h.length ≤ t ∧ S[t - h.length]? = some t0)) := by
  intro t b e hx
  have hx' : (if t < h.length then G.tg t else (S[t - h.length]?).bind Gf.tg) = some (b, e) := hx
  split at hx'
  ·rename_i hlt
   exact ⟨t, by rw [f.tg]; exact x.pres.tg hx', .inl ⟨hlt, rfl, hx'⟩⟩
  ·rename_i hlt
   obtain ⟨t0, h1, h2⟩ := Option.bind_eq_some_iff.1 hx'
   exact ⟨t0, h2, .inr ⟨by omega, h1⟩⟩
 have hfpre : ∀ {l : Nat}, l < h.length → hf[l]? = h[l]? := fun hl => (f.pre hl).trans (x.pre (by omega) hl)
 have hget : ∀ {l : Nat}, l < h.length → (h ++ List.replicate S.length (HObj.tag true))[l]? = h[l]? := fun hl => List.getElem?_append_left hl
 refine ⟨⟨fun {l} hl => ?_, fun {l b} y => ?_, r.inj, fun {t b e} y => ?_, fun {t t' b e e'} y z l1 l2 => ?_, fun y => f.wr.com y, f.wr.low, f.wr.out⟩, fun lo' => ⟨hp, by simp, fun {l} _ hl => hget hl, x.size, fun a b c d => x.frame a b c d, fun {l b} _ hb => x.keep (by have := hbelt hb; omega) hb,
  fun {t b e cs} _ a c => x.keepT (by have := htglt a; omega) a c, x.loops, fun {l b} a c => (by have a' : G.be l = _ := a; rw [a'] at c; cases c), fun {t b e} a c => ?_, fun {b k} a c => ?_⟩⟩
 ·simp at hl
  refine ⟨(r.dom (by omega)).1, ?_⟩
  show (if l < h.length then _ else _) = _
  rw [if_neg (by omega), List.getElem?_eq_none (by omega)]
  rfl
 ·have y' : G.be l = some b := y
  obtain ⟨a1, a2, a3, a4, o, a5, a6⟩ := r.obj y'
  have hl := hbelt y'
  have yf : Gf.be l = some b := by rw [f.be]; exact x.pres.be y'
  obtain ⟨c1, c2, c3, c4, _⟩ := f.wr.obj yf
  refine ⟨a1, c2, c3, fun t e hx => ?_, o, by rw [hget hl]; exact a5, a6.mono hp (x.keep (by omega) y')⟩
  obtain ⟨t0, h1, _⟩ := htg hx
  exact c4 _ _ h1
 ·obtain ⟨t0, h1, h2⟩ := htg y
  obtain ⟨c1, c2, c3⟩ := f.wr.tag h1
  refine ⟨c1, c2, ?_⟩
  rcases h2 with ⟨hl, rfl, hg⟩ | ⟨hl, hs⟩
  ·rw [hget hl]
   rw [hfpre hl] at c3
   obtain ⟨_, _, d3⟩ := r.tag hg
   refine d3.mono hp (fun he => by rw [he] at c3; exact c3.1) (fun cs he => ?_)
   rw [he] at c3
   exact ⟨c3.1, x.keepT (by omega) hg he⟩
  ·have hlt : t - h.length < S.length := (List.getElem?_eq_some_iff.1 hs).1
   rw [List.getElem?_append_right hl, List.getElem?_replicate, if_pos hlt]
   have := (hS.all t0 (List.mem_of_getElem? hs)).2
   rw [this] at c3
   exact c3
 ·obtain ⟨u, h1, h2⟩ := htg y
  obtain ⟨u', h1', h2'⟩ := htg z
  have live : ∀ {t u : Nat}, Live (h ++ List.replicate S.length (HObj.tag true))[t]? → ((t < h.length ∧ u = t ∧ G.tg t = some (b, e)) ∨ (h.length ≤ t ∧ S[t - h.length]? = some u)) → Live hf[u]? := by
   intro t u hl hc
   rcases hc with ⟨ha, rfl, _⟩ | ⟨_, hs⟩
   ·rw [hget ha] at hl; rw [hfpre ha]; exact hl
   ·rw [(hS.all u (List.mem_of_getElem? hs)).2]; trivial
  have live' : ∀ {t u : Nat}, Live (h ++ List.replicate S.length (HObj.tag true))[t]? → ((t < h.length ∧ u = t ∧ G.tg t = some (b, e')) ∨ (h.length ≤ t ∧ S[t - h.length]? = some u)) → Live hf[u]? := by
   intro t u hl hc
   rcases hc with ⟨ha, rfl, _⟩ | ⟨_, hs⟩
   ·rw [hget ha] at hl; rw [hfpre ha]; exact hl
   ·rw [(hS.all u (List.mem_of_getElem? hs)).2]; trivial
  have hu := f.wr.tinj h1 h1' (live l1 h2) (live' l2 h2')
  subst hu
  rcases h2 with ⟨ha, rfl, _⟩ | ⟨ha, hs⟩ <;> rcases h2' with ⟨ha', hb', _⟩ | ⟨ha', hs'⟩
  ·omega
  ·have := (hS.all _ (List.mem_of_getElem? hs')).1; omega
  ·have := (hS.all _ (List.mem_of_getElem? hs)).1; omega
  ·have h3 : t - h.length < S.length := (List.getElem?_eq_some_iff.1 hs).1
   have h4 : t' - h.length < S.length := (List.getElem?_eq_some_iff.1 hs').1
   have : t - h.length = t' - h.length := by
    have e1 : S[t - h.length] = S[t' - h.length] := by
     have := List.getElem?_eq_getElem h3
     have := List.getElem?_eq_getElem h4
     simp_all
    have hn := List.pairwise_iff_getElem.1 hS.nodup
    rcases Nat.lt_trichotomy (t - h.length) (t' - h.length) with h5 | h5 | h5
    ·exact absurd e1 (hn _ _ h3 h4 h5)
    ·exact h5
    ·exact absurd e1.symm (hn _ _ h4 h3 h5)
   omega
 ·obtain ⟨t0, h1, h2⟩ := htg a
  rw [f.tg] at h1
  rcases h2 with ⟨ha, rfl, hg⟩ | ⟨ha, hs⟩
  ·rw [hg] at c; cases c
  ·refine ⟨ha, ?_⟩
   have := (hS.all _ (List.mem_of_getElem? hs)).1
   exact (x.ntg h1 (r.dom this).2).2
 ·have a' : Gf.cm b = some k := a
  cases hc : G1.cm b with
  | some k' => exact x.ncm hc c
  | none =>
   obtain ⟨t, e, ht⟩ := f.ncm a' hc
   cases hg : G.tg t with
   | none => exact (x.ntg ht hg).2
   | some y => have := x.pres.tg hg; rw [ht] at this; cases this; exact .inr ⟨_, _, hg⟩
theorem restr_cut {B0 w0 G h w G1 h1 w1 lo Gf hf} (_ : WR P B0 w0 G h w) (x : Ext G h w G1 h1 w1 lo) (f : Fz (P := P) B0 w0 h.length G1 h1 w1 Gf hf) (S : List Nat) : Restr h.length Gf (cut h.length G Gf S) := by
 refine ⟨fun {l b} hl hb => ?_, fun {l y} hl hb => ?_, fun hb => ⟨_, Nat.le_refl _, hb⟩⟩
 ·rw [f.be] at hb
  cases hc : G.be l with
  | none => have := (x.nbe hb hc).1; omega
  | some b' => have := x.pres.be hc; rw [hb] at this; cases this; exact hc
 ·rw [f.tg] at hb
  show (if l < h.length then _ else _) = _
  rw [if_pos hl]
  cases hc : G.tg l with
  | none => obtain ⟨b, e⟩ := y; have := (x.ntg hb hc).1; omega
  | some b' => have := x.pres.tg hc; rw [hb] at this; cases this; rfl
theorem finish_ok {B0 w0 G w G1 w1} {st st1 : St} (r : WR P B0 w0 G st.heap w) (r1 : WR P B0 w0 G1 st1.heap w1) (x : Ext G st.heap w G1 st1.heap w1 st1.lo) (hlo : st1.lo ≤ st.heap.length)
  {p : PV} {v : Value} (hv : VR G1 w1 p v) {p' st'} (he : finishCall st st1 p = (p', st')) (hdom : st.lo ≤ st.heap.length) :
  ∃ G2, WR P B0 w0 G2 st'.heap w1 ∧ Ext G st.heap w G2 st'.heap w1 st'.lo ∧ VR G2 w1 p' v ∧ st'.lo ≤ st.lo := by
 unfold finishCall at he
 split at he
 ·rename_i hle
  have hnil : ∀ h, Seen h st.heap.length [] := fun h => ⟨by simp, by simp⟩
  cases hg : letGo st.heap.length st1.heap p with
  | none =>
   rw [hg] at he
   cases he
   exact ⟨G1, r1, x.lo (show st.lo ≤ st1.lo by omega), hv, Nat.le_refl _⟩
  | some q =>
   obtain ⟨q1, k⟩ := q
   rw [hg] at he
   cases he
   have fin : ∀ {Gf hf S}, Fz (P := P) B0 w0 st.heap.length G1 st1.heap w1 Gf hf → Seen hf st.heap.length S → VR (cut st.heap.length G Gf S) w1 p' v → S.length = k →
     ∃ G2, WR P B0 w0 G2 (st.heap ++ List.replicate k (.tag true)) w1 ∧ Ext G st.heap w G2 (st.heap ++ List.replicate k (.tag true)) w1 st.lo ∧ VR G2 w1 p' v ∧ st.lo ≤ st.lo := by
    intro Gf hf S f hS hv' hk
    subst hk
    obtain ⟨a, b⟩ := cut_ok r x hle f hS
    exact ⟨_, a, b _, hv', Nat.le_refl _⟩
   have list : ∀ (vs : List PV) (us : List Value), VRL G1 w1 vs us → ∀ {vs' hf}, freezeL st.heap.length st1.heap vs = (vs', hf) → ∀ {ws S}, retagL hf st.heap.length [] vs' = some (ws, S) →
     ∃ Gf, Fz (P := P) B0 w0 st.heap.length G1 st1.heap w1 Gf hf ∧ Seen hf st.heap.length S ∧ VRL (cut st.heap.length G Gf S) w1 ws us := by
    intro vs us h1 vs' hf h2 ws S h3
    obtain ⟨Gf, f, h4⟩ := freezeL_ok r1 h1 h2
    obtain ⟨a, _, b⟩ := retagL_ok (G := G) (fun S => restr_cut r x f S) (hnil hf) h4 h3
    exact ⟨Gf, f, a, b S (List.prefix_refl _)⟩
   have one : ∀ {q h1}, freeze1 st.heap.length st1.heap p = (q, h1) → ∀ {q' S}, retag1 h1 st.heap.length [] q = some (q', S) → q' = p' → S.length = k →
     ∃ G2, WR P B0 w0 G2 (st.heap ++ List.replicate k (.tag true)) w1 ∧ Ext G st.heap w G2 (st.heap ++ List.replicate k (.tag true)) w1 st.lo ∧ VR G2 w1 p' v ∧ st.lo ≤ st.lo := by
    intro q h1 h2 q' S h3 h4 h5
    subst h4
    obtain ⟨Gf, f, h6⟩ := freeze1_ok r1 hv h2
    obtain ⟨a, _, b⟩ := retag1_ok (G := G) (hnil h1) (fun S => restr_cut r x f S) h6 h3
    exact fin f a (b S (List.prefix_refl _)) h5
   unfold letGo at hg
   split at hg
   ·rename_i vs
    simp only [VR] at hv
    obtain ⟨us, rfl, h1⟩ := hv
    generalize hx : freezeL st.heap.length st1.heap vs = y at hg
    obtain ⟨vs', hf⟩ := y
    simp only at hg
    cases hy : retagL hf st.heap.length [] vs' with
    | none => rw [hy] at hg; cases hg
    | some z =>
     obtain ⟨ws, S⟩ := z
     rw [hy] at hg
     cases hg
     obtain ⟨Gf, f, a, b⟩ := list vs us.toList h1 hx hy
     exact fin f a (by simp only [VR]; exact ⟨us, rfl, b⟩) rfl
   ·rename_i vs
    simp only [VR] at hv
    obtain ⟨us, rfl, h1⟩ := hv
    generalize hx : freezeL st.heap.length st1.heap vs = y at hg
    obtain ⟨vs', hf⟩ := y
    simp only at hg
    cases hy : retagL hf st.heap.length [] vs' with
    | none => rw [hy] at hg; cases hg
    | some z =>
     obtain ⟨ws, S⟩ := z
     rw [hy] at hg
     cases hg
     obtain ⟨Gf, f, a, b⟩ := list vs us.toList h1 hx hy
     exact fin f a (by simp only [VR]; exact ⟨us, rfl, b⟩) rfl
   ·generalize hx : freeze1 st.heap.length st1.heap p = y at hg
    obtain ⟨q, h1⟩ := y
    simp only at hg
    cases hy : retag1 h1 st.heap.length [] q with
    | none => rw [hy] at hg; cases hg
    | some z =>
     obtain ⟨q', S⟩ := z
     rw [hy] at hg
     cases hg
     exact one hx hy rfl rfl
 ·cases he
  exact ⟨G1, r1, x.lo (Nat.min_le_right _ _), hv, Nat.min_le_left _ _⟩
end
end Go.Den
end

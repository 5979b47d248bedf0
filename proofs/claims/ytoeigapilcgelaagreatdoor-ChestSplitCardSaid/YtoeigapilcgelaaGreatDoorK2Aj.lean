/- Part of the proofs of laws of the package chest: the interpreter Den, its soundness, and contracts of the program's functions over it. Texts: DenOpsG, DenOpsH. -/
import Derived.Test.YtoeigapilcgelaaGreatDoorK2Ai
set_option linter.unusedSimpArgs false
set_option linter.unusedVariables false
section
namespace Go.Den
section
variable {P : Program} {B0 : Nat} {w0 : World} {G : Gh} {st : St} {w : World} {tm : List PV} {a : Act} {o : Oper} {E : Env} {rec : Rec} {v : PV} {st' : St}
theorem app_run {t : TypeId} {c : Call} {x y : Operand} (ho : o.op = .call c) (hc : c.callee = .builtin .append) (hat : c.argTypes = #[t, t]) (har : c.args = #[x, y]) {u : Value} {w' : World} (h : (Builtin.append_ #[t, t] o.type #[a.eval x, a.eval y]).run P w = .ok u w') : OpRun P a o w = .ok (.value u) w' := by
 unfold OpRun execOp
 rw [ho]
 simp [resolve, hc, har, hat, invoke, builtin, h]
theorem run_append_zero (t ty e : TypeId) (i : TypeInfo) (ht : P.underlying t = some (.slice e)) (hi : P.info? e = some i) (base b : Option Addr) (n cap c : Nat) (hn : n ≤ cap) :
  (Builtin.append_ #[t, t] ty #[.slice base n cap, .slice b 0 c]).run P w = .ok (.slice base n cap) w := by
 have hf : (Builtin.firstCells i.size 0 (.slice b 0 c)).run P w = .ok #[] w := by
  cases b <;> simp [Builtin.firstCells, loadCells, loadCellsFrom]
 cases base <;> simp [Builtin.append_, run_underlying ht, sizeOf, typeInfo, hi, Builtin.lenOf, hn, hf, storeCells]
theorem zeroT_info {e : TypeId} {z : List PV} {i : TypeInfo} (h : zeroT P e = some z) (hi : P.info? e = some i) : ∃ u, i.zero = some u ∧ cells0 u.cells.toList = some z := by
 unfold zeroT at h
 rw [hi] at h
 simp only [Option.bind_some] at h
 split at h
 ·rename_i u hu; exact ⟨u, hu, h⟩
 ·cases h
theorem cells0_length : ∀ {vs : List Value} {ps : List PV}, cells0 vs = some ps → ps.length = vs.length
 | [], ps, h => by simp only [cells0] at h; cases h; rfl
 | v :: vs, ps, h => by
  simp only [cells0] at h
  split at h
  ·rename_i p ps' h1 h2
   cases h
   simp [cells0_length h2]
  ·cases h
theorem new_row {e : TypeId} {z : Value} {vs : List Value} {cs : List PV} {need gc sz lo' : Nat} {h1 : List HObj} (m : Bool) (hw : WR P B0 w0 G h1 w) (hvl : VRL G w cs vs) (hl : vs.length = need * sz) (hz : z.cells.size = sz) (hge : need ≤ gc) :
  ∃ G', WR P B0 w0 G' (h1 ++ [if m then HObj.arr cs else HObj.tag true]) (w.drew.alloc (.cells (vs.toArray ++ Builtin.zeroCells z.cells (gc - need)) e)) ∧
   Ext G h1 w G' (h1 ++ [if m then HObj.arr cs else HObj.tag true]) (w.drew.alloc (.cells (vs.toArray ++ Builtin.zeroCells z.cells (gc - need)) e)) lo' ∧
   G'.tg h1.length = some (w.heap.size, cs.length) ∧ (m = false → G'.cm w.heap.size = some cs.length) ∧ VRC G' (w.drew.alloc (.cells (vs.toArray ++ Builtin.zeroCells z.cells (gc - need)) e)) cs w.heap.size 0 ∧
   HasRow (w.drew.alloc (.cells (vs.toArray ++ Builtin.zeroCells z.cells (gc - need)) e)) w.heap.size (gc * sz) := by
 have hsz : (vs.toArray ++ Builtin.zeroCells z.cells (gc - need)).size = gc * sz := by
  simp only [Array.size_append, List.size_toArray, size_zeroCells, hz, hl, ← Nat.add_mul]
  congr 1
  omega
 have hcl := hvl.length
 have hw1 : WR P B0 w0 G h1 w.drew := hw.same rfl
 have hext : Ext G h1 w G h1 w.drew lo' := .same rfl
 obtain ⟨g1, g2, g3⟩ := alloc_row hw1 m cs (vs.toArray ++ Builtin.zeroCells z.cells (gc - need)) e (0, 0) (by simp; omega) (Thawed.zero _)
  (fun G' w' hp hh => VRC.of_row hh ((hvl.mono hext.pres).mono hp) (fun j u hj => by
   rw [Nat.zero_add]
   rw [Array.getElem?_append_left (by have := (List.getElem?_eq_some_iff.1 hj).1; simpa using this)]
   simpa using hj))
 refine ⟨_, g1, hext.trans (g2 lo'), upd_same _ _ _, fun hm => ?_, g3, ⟨_, _, _, heap_alloc_new w.drew _, by rw [hsz]; exact Nat.le_refl _⟩⟩
 subst hm
 exact upd_same _ _ _
theorem tag_dead {h1 : List HObj} {t b e : Nat} (hw : WR P B0 w0 G h1 w) (htg : G.tg t = some (b, e)) (hlive : Live h1[t]?) : ∀ t' e', G.tg t' = some (b, e') → ¬ Live (h1.set t (.tag false))[t']? := by
 intro t' e' h2 hl
 have hlt : t < h1.length := by
  rcases Nat.lt_or_ge t h1.length with h | h
  ·exact h
  ·rw [List.getElem?_eq_none h] at hlive; exact hlive.elim
 rw [getElem?_set' _ _ _ _ hlt] at hl
 split at hl
 ·exact hl
 ·rename_i hne
  exact hne (hw.tinj h2 htg hl hlive)
theorem ok_append (hw : WR P B0 w0 G st.heap w) (ht : VRL G w tm a.tmps.toList) {t e : TypeId} {c : Call} {x y : Operand} {mu : Bool} {i : TypeInfo} {z : List PV} {d g : Opd} (ho : o.op = .call c) (hc : c.callee = .builtin .append) (hat : c.argTypes = #[t, t]) (har : c.args = #[x, y])
  (hu : P.underlying t = some (.slice e)) (hi : P.info? e = some i) (hz : zeroT P e = some z) (hby : i.bytes ≤ 1024) (hs1 : 1 ≤ i.size) (hzl : z.length = i.size) (hd : opd x = some d) (hg : opd y = some g)
  (hs : stepOp E rec tm st (.append mu i.size d g) = some (.val v st')) : Yields P B0 w0 G st w v st' (OpRun P a o w) := by
 have hx := opd_ok ht hd
 have hy := opd_ok ht hg
 obtain ⟨zv, hzv, hzc⟩ := zeroT_info hz hi
 have hzs : zv.cells.size = i.size := by have := cells0_length hzc; simp at this; omega
 have zero : ∀ {xp : PV} {b2 : Option Addr} {c2 : Nat}, a.eval y = .slice b2 0 c2 → d.ev tm = xp → (match xp with | .nilslice => some (OpR.val .nilslice st) | .slice o n cs => some (.val (.slice o n cs) st) | .hslice t s n => some (.val (.hslice t s n) st) | _ => none) = some (.val v st') →
   Yields P B0 w0 G st w v st' (OpRun P a o w) := by
  intro xp b2 c2 h1 h2 h3
  rw [h2] at hx
  have fin : ∀ {base : Option Addr} {n cap : Nat}, a.eval x = .slice base n cap → n ≤ cap → VR G w v (.slice base n cap) → st' = st → Yields P B0 w0 G st w v st' (OpRun P a o w) := by
   intro base n cap h4 h5 h6 h7
   subst h7
   exact .pure hw (app_run ho hc hat har (by rw [h1, h4]; exact run_append_zero t o.type e i hu hi base b2 n cap c2 h5)) h6
  split at h3
  ·cases h3
   have h0 := hx
   simp only [VR] at hx
   rw [hx] at h0
   exact fin hx (Nat.le_refl _) h0 rfl
  ·cases h3
   have h0 := hx
   simp only [VR] at hx
   obtain ⟨b, off, cap, h4, h5, _⟩ := hx
   rw [h4] at h0
   exact fin h4 h5 h0 rfl
  ·cases h3
   have h0 := hx
   simp only [VR] at hx
   obtain ⟨b, e', cap, _, h4, h5, _⟩ := hx
   rw [h4] at h0
   exact fin h4 h5 h0 rfl
  ·cases h3
 simp only [stepOp] at hs
 split at hs
 ·rename_i hev
  rw [hev] at hy
  simp only [VR] at hy
  unfold doAppend at hs
  rw [if_pos ⟨by simp, by simp⟩, if_pos rfl] at hs
  exact zero hy rfl hs
 ·rename_i oo m ys hev
  rw [hev] at hy
  simp only [VR] at hy
  obtain ⟨b2, off2, c2, hy1, hy2, hy3, _, hy4⟩ := hy
  unfold doAppend at hs
  split at hs
  ·rename_i hcond
   obtain ⟨hyl, hcell⟩ := hcond
   split at hs
   ·rename_i hm
    subst hm
    exact zero hy1 rfl hs
   ·rename_i hm
    obtain ⟨news, hn1, hn2⟩ := hy4.vals
    have hnl : news.length = m * i.size := by rw [hn1.length, hyl]
    have hone := oneCells_of hn1 hcell
    have hmax : maxList = 1000000 := rfl
    split at hs
    · -- onto nil
     rename_i hxe
     rw [hxe] at hx
     simp only [VR] at hx
     split at hs
     ·rename_i hle
      have hbb : m * i.bytes ≤ 281474976710656 := by
       have : m * i.bytes ≤ 1000000 * 1024 := Nat.mul_le_mul (by omega) hby
       omega
      have hrun := run_append_nil (P := P) w t o.type e i zv hu hi hzv ⟨b2, off2, none⟩ m c2 news hnl hn2 (by omega) (by omega) hbb
      have hrun' := app_run (P := P) (a := a) ho hc hat har (by rw [hx, hy1]; exact hrun)
      have hge := grownCap_ge w m 0 e
      split at hs
      ·rename_i hmu
       subst hmu
       cases hs
       obtain ⟨G', g1, g2, g3, _, _, g6⟩ := new_row (e := e) (lo' := st.lo) true hw hn1 hnl hzs hge
       refine ⟨G', _, g1, g2, Nat.le_refl _, .inl ⟨_, hrun', ?_⟩⟩
       simp only [VR]
       exact ⟨_, _, _, g3, rfl, hge, g6⟩
      ·rename_i hmu
       cases hs
       have hmu' : mu = false := by simpa using hmu
       obtain ⟨G', g1, g2, g3, g4, g5, g6⟩ := new_row (e := e) (lo' := st.lo) false hw hn1.share hnl hzs hge
       refine ⟨G', _, g1, g2, Nat.le_refl _, .inl ⟨_, hrun', ?_⟩⟩
       simp only [VR]
       exact ⟨_, 0, _, rfl, hge, fun _ => ⟨_, g4 rfl, by simp⟩, ⟨rfl, g3, g6⟩, g5⟩
     ·cases hs
    · -- onto a slice of the run's own
     rename_i tt sz' n cs hxe
     split at hs
     ·rename_i hc3
      obtain ⟨hc3, hc4, hc5⟩ := hc3
      split at hs
      ·rename_i htag
       cases hs
       subst hc3
       rw [hxe] at hx
       simp only [VR] at hx
       obtain ⟨b, off, cap, x1, x2, x3, ⟨x4, x5, x6⟩, x7⟩ := hx
       subst x4
       obtain ⟨t1, t2, t3⟩ := hw.tag x5
       rw [htag] at t3
       obtain ⟨k1, arr, T, fr, k2, k3⟩ := t3
       have htl : tt < st.heap.length := (List.getElem?_eq_some_iff.1 htag).1
       have hbe : G.be tt = none := by
        cases hh : G.be tt with
        | none => rfl
        | some b' =>
         obtain ⟨_, _, _, _, oo, h4, h5⟩ := hw.obj hh
         rw [htag] at h4; cases h4; exact h5.elim
       obtain ⟨c1, c2'⟩ := close_tag hw htl hbe
       have hlen1 : (st.heap.set tt (.tag false)).length = st.heap.length := by simp
       obtain ⟨ols, o1, o2⟩ := x7.vals
       have hol : ols.length = n * i.size := by rw [o1.length, hc4]
       have hlo : min st.lo tt ≤ tt := Nat.min_le_right _ _
       by_cases hroom : n + m ≤ cap
       · -- there is room
        obtain ⟨arr2, T2, fr2, r1, r2⟩ := x6
        rw [k2] at r1; cases r1
        have hfit : n * i.size + news.length ≤ arr.size := by rw [hnl, ← Nat.add_mul]; exact Nat.le_trans (Nat.mul_le_mul_right _ hroom) r2
        have hst := run_storeCells_th (P := P) b (n * i.size) T fr news 0 arr w k2 k3 (by simpa using hfit) hone
        simp only [Nat.add_zero] at hst
        have hf := run_firstCells_some (P := P) w i.size m ⟨b2, off2, none⟩ m c2 news hnl hn2
        have hrun : (Builtin.append_ #[t, t] o.type #[.slice (some ⟨b, 0, none⟩) n cap, .slice (some ⟨b2, off2, none⟩) m c2]).run P w = .ok (.slice (some ⟨b, 0, none⟩) (n + m) cap) (w.putObj b (Obj.cells (arr.toList.take (n * i.size) ++ news ++ arr.toList.drop (n * i.size + news.length)).toArray T fr)) := by
         simp [Builtin.append_, run_underlying hu, sizeOf, typeInfo, hi, Builtin.lenOf, hroom, hf, Addr.add_lit, hst]
        have hrun' := app_run (P := P) (a := a) ho hc hat har (by rw [x1, hy1]; exact hrun)
        have hasz : (arr.toList.take (n * i.size) ++ news ++ arr.toList.drop (n * i.size + news.length)).toArray.size = arr.size := by
         simp only [List.size_toArray, List.length_append, List.length_take, List.length_drop, Array.length_toList]; omega
        obtain ⟨g1, g2⟩ := grow_row c1 false x5 (tag_dead hw x5 (by rw [htag]; trivial)) (by simpa using k1) (cs ++ ys.map PV.share) arr _ T fr k2 k3 hasz (by simp; omega) (by simp)
         (fun _ j hj => by
          rw [List.getElem?_toArray, List.append_assoc, List.getElem?_append_left (by simp; omega), List.getElem?_take, if_pos (by omega)]
          simp)
         (fun _ _ _ _ h => by cases h)
        rw [hlen1] at g1 g2
        have hext := (c2' (min st.lo tt) hlo).trans (g2 (min st.lo tt))
        refine ⟨_, _, g1, hext, Nat.min_le_left _ _, .inl ⟨_, hrun', ?_⟩⟩
        simp only [VR]
        have hplt : b < w.heap.size := t2
        have hvr : VRL G w (cs ++ ys.map PV.share) (ols ++ news) := o1.append hn1.share
        refine ⟨b, 0, cap, rfl, hroom, fun _ => ⟨(cs ++ ys.map PV.share).length, by simpa using upd_same _ _ _, by simp⟩, ⟨rfl, by simpa using upd_same _ _ _, ⟨_, T, fr, heap_put_same hplt, by rw [hasz]; exact r2⟩⟩, ?_⟩
        refine VRC.of_row (heap_put_same hplt) (hvr.mono hext.pres) (fun j u hj => ?_)
        rw [Nat.zero_add, List.getElem?_toArray]
        by_cases hjl : j < n * i.size
        ·rw [List.getElem?_append_left (by omega)] at hj
         rw [List.append_assoc, List.getElem?_append_left (by simp; omega), List.getElem?_take, if_pos hjl]
         have := o2 j u hj
         rw [Addr.add_lit, cell_row k2, Nat.zero_add] at this
         simpa using this
        ·rw [List.getElem?_append_right (by omega)] at hj
         have hj2 := (List.getElem?_eq_some_iff.1 hj).1
         rw [List.getElem?_append_left (by simp; omega), List.getElem?_append_right (by simp; omega)]
         rw [← hj]
         congr 1
         simp only [List.length_take, Array.length_toList]
         omega
       · -- a new row
        have hbb : (n + m) * i.bytes ≤ 140737488355328 := by
         have : (n + m) * i.bytes ≤ 1000000 * 1024 := Nat.mul_le_mul (by omega) hby
         omega
        have hrun := run_append_grow (P := P) w t o.type e i zv hu hi hzv ⟨b, 0, none⟩ n cap ols hol o2 ⟨b2, off2, none⟩ m c2 news hnl hn2 (by omega) (by omega) (growslice_fits (by omega) hbb)
        have hrun' := app_run (P := P) (a := a) ho hc hat har (by rw [x1, hy1]; exact hrun)
        have hge := grownCap_ge w (n + m) cap e
        have hvr : VRL G w (cs ++ ys.map PV.share) (ols ++ news) := o1.append hn1.share
        obtain ⟨G', g1, g2, g3, g4, g5, g6⟩ := new_row (e := e) (lo' := min st.lo tt) false c1 hvr (by rw [List.length_append, hol, hnl, Nat.add_mul]) hzs hge
        have e1 : (ols.toArray ++ news.toArray) = (ols ++ news).toArray := by simp
        rw [e1] at hrun'
        rw [hlen1] at g3
        refine ⟨G', _, g1, (c2' (min st.lo tt) hlo).trans g2, Nat.min_le_left _ _, .inl ⟨_, hrun', ?_⟩⟩
        simp only [VR]
        exact ⟨_, 0, _, rfl, hge, fun _ => ⟨_, g4 rfl, by simp⟩, ⟨rfl, g3, g6⟩, g5⟩
      ·cases hs
     ·cases hs
    · -- onto a slice that may be written
     rename_i tt sz' n hxe
     split at hs
     ·rename_i cs htag
      split at hs
      ·rename_i hc3
       obtain ⟨hc3, hc4, hc5⟩ := hc3
       cases hs
       subst hc3
       rw [hxe] at hx
       simp only [VR] at hx
       obtain ⟨b, eb, cap, x5, x1, x2, x6⟩ := hx
       obtain ⟨k1, k2e, ⟨arr, T, fr, k2, k4, k3⟩, x7⟩ := hw.arr x5 htag
       obtain ⟨t1, t2, _⟩ := hw.tag x5
       have htl : tt < st.heap.length := (List.getElem?_eq_some_iff.1 htag).1
       have hbe : G.be tt = none := by
        cases hh : G.be tt with
        | none => rfl
        | some b' =>
         obtain ⟨_, _, _, _, oo, h4, h5⟩ := hw.obj hh
         rw [htag] at h4; cases h4; exact h5.elim
       obtain ⟨c1, c2'⟩ := close_tag hw htl hbe
       have hlen1 : (st.heap.set tt (.tag false)).length = st.heap.length := by simp
       obtain ⟨ols, o1, o2⟩ := x7.vals
       have hol : ols.length = n * i.size := by rw [o1.length, hc4]
       have hlo : min st.lo tt ≤ tt := Nat.min_le_right _ _
       by_cases hroom : n + m ≤ cap
       ·obtain ⟨arr2, T2, fr2, r1, r2⟩ := x6
        rw [k2] at r1; cases r1
        have hfit : n * i.size + news.length ≤ arr.size := by rw [hnl, ← Nat.add_mul]; exact Nat.le_trans (Nat.mul_le_mul_right _ hroom) r2
        have hst := run_storeCells_th (P := P) b (n * i.size) T fr news 0 arr w k2 k3 (by simpa using hfit) hone
        simp only [Nat.add_zero] at hst
        have hf := run_firstCells_some (P := P) w i.size m ⟨b2, off2, none⟩ m c2 news hnl hn2
        have hrun : (Builtin.append_ #[t, t] o.type #[.slice (some ⟨b, 0, none⟩) n cap, .slice (some ⟨b2, off2, none⟩) m c2]).run P w = .ok (.slice (some ⟨b, 0, none⟩) (n + m) cap) (w.putObj b (Obj.cells (arr.toList.take (n * i.size) ++ news ++ arr.toList.drop (n * i.size + news.length)).toArray T fr)) := by
         simp [Builtin.append_, run_underlying hu, sizeOf, typeInfo, hi, Builtin.lenOf, hroom, hf, Addr.add_lit, hst]
        have hrun' := app_run (P := P) (a := a) ho hc hat har (by rw [x1, hy1]; exact hrun)
        have hasz : (arr.toList.take (n * i.size) ++ news ++ arr.toList.drop (n * i.size + news.length)).toArray.size = arr.size := by
         simp only [List.size_toArray, List.length_append, List.length_take, List.length_drop, Array.length_toList]; omega
        have hvr : VRL G w (cs ++ ys) (ols ++ news) := o1.append hn1
        have hcells : ∀ (j : Nat) (u : Value), (ols ++ news)[j]? = some u → (arr.toList.take (n * i.size) ++ news ++ arr.toList.drop (n * i.size + news.length)).toArray[0 + j]? = some u := by
         intro j u hj
         rw [Nat.zero_add, List.getElem?_toArray]
         by_cases hjl : j < n * i.size
         ·rw [List.getElem?_append_left (by omega)] at hj
          rw [List.append_assoc, List.getElem?_append_left (by simp; omega), List.getElem?_take, if_pos hjl]
          have := o2 j u hj
          rw [Addr.add_lit, cell_row k2, Nat.zero_add] at this
          simpa using this
         ·rw [List.getElem?_append_right (by omega)] at hj
          have hj2 := (List.getElem?_eq_some_iff.1 hj).1
          rw [List.getElem?_append_left (by simp; omega), List.getElem?_append_right (by simp; omega)]
          rw [← hj]
          congr 1
          simp only [List.length_take, Array.length_toList]
          omega
        obtain ⟨g1, g2⟩ := grow_row c1 true x5 (tag_dead hw x5 (by rw [htag]; trivial)) (by simpa using k1) (cs ++ ys) arr _ T fr k2 k3 hasz (by simp; omega) (by simp; omega) (fun h => by cases h)
         (fun G' w' hp hh _ => VRC.of_row hh (hvr.mono hp) hcells)
        rw [hlen1] at g1 g2
        refine ⟨_, _, g1, (c2' (min st.lo tt) hlo).trans (g2 (min st.lo tt)), Nat.min_le_left _ _, .inl ⟨_, hrun', ?_⟩⟩
        simp only [VR]
        exact ⟨b, _, cap, upd_same _ _ _, rfl, hroom, ⟨_, T, fr, heap_put_same t2, by rw [hasz]; exact r2⟩⟩
       ·have hbb : (n + m) * i.bytes ≤ 140737488355328 := by
         have : (n + m) * i.bytes ≤ 1000000 * 1024 := Nat.mul_le_mul (by omega) hby
         omega
        have hrun := run_append_grow (P := P) w t o.type e i zv hu hi hzv ⟨b, 0, none⟩ n cap ols hol o2 ⟨b2, off2, none⟩ m c2 news hnl hn2 (by omega) (by omega) (growslice_fits (by omega) hbb)
        have hrun' := app_run (P := P) (a := a) ho hc hat har (by rw [x1, hy1]; exact hrun)
        have hge := grownCap_ge w (n + m) cap e
        have hvr : VRL G w (cs ++ ys) (ols ++ news) := o1.append hn1
        obtain ⟨G', g1, g2, g3, g4, g5, g6⟩ := new_row (e := e) (lo' := min st.lo tt) true c1 hvr (by rw [List.length_append, hol, hnl, Nat.add_mul]) hzs hge
        have e1 : (ols.toArray ++ news.toArray) = (ols ++ news).toArray := by simp
        rw [e1] at hrun'
        rw [hlen1] at g3
        refine ⟨G', _, g1, (c2' (min st.lo tt) hlo).trans g2, Nat.min_le_left _ _, .inl ⟨_, hrun', ?_⟩⟩
        simp only [VR]
        exact ⟨_, _, _, g3, rfl, hge, g6⟩
      ·cases hs
     ·cases hs
    ·cases hs
  ·cases hs
 ·cases hs
end
end Go.Den
end
section
namespace Go.Den
section
variable {P : Program} {B0 : Nat} {w0 : World} {G : Gh} {st : St} {w : World} {tm : List PV} {a : Act} {o : Oper} {E : Env} {rec : Rec} {v : PV} {st' : St}
theorem bytesOf_ok : ∀ {cs : List PV} {l : List UInt8} {vs : List Value}, bytesOf cs = some l → VRL G w cs vs → ∃ ns : List Int, vs = ns.map (Value.int .u8) ∧ l = ns.map (fun n => UInt8.ofNat n.toNat)
 | [], l, vs, h, hv => by simp only [bytesOf] at h; cases h; exact ⟨[], VRL.nil_iff.1 hv, rfl⟩
 | p :: ps, l, vs, h, hv => by
  obtain ⟨u, vs', rfl, h1, h2⟩ := VRL.cons_iff.1 hv
  unfold bytesOf at h
  split at h
  ·rename_i h0; cases h0
  ·rename_i n r h0
   cases h0
   obtain ⟨l', h3, h4⟩ := Option.map_eq_some_iff.1 h
   subst h4
   obtain ⟨ns, h5, h6⟩ := bytesOf_ok h3 h2
   exact ⟨n :: ns, by rw [h1.int_inv, h5]; rfl, by rw [h6]; rfl⟩
  ·cases h
theorem bytesToString_run {b off n cap : Nat} {ns : List Int} (hn : ns.length = n) (h : ∀ j v, (ns.map (Value.int .u8))[j]? = some v → w.cell? ((⟨b, off, none⟩ : Addr).add j) = some v) :
  (Conv.bytesToString (.slice (some ⟨b, off, none⟩) n cap)).run P w = .ok (.string ⟨(ns.map (fun n => UInt8.ofNat n.toNat)).toArray⟩) w := by
 unfold Conv.bytesToString
 have hl := run_loadCells_list (P := P) w ⟨b, off, none⟩ (ns.map (Value.int .u8)) h
 rw [List.length_map, hn] at hl
 simp only [Sem.run_bind, hl, Result.andThen_ok]
 rw [← Array.forIn_toList]
 have key : ∀ (ns : List Int) (acc : ByteArray), List.foldl (fun (b : ByteArray) (a : Int) => b.push (UInt8.ofNat a.toNat)) acc ns = ⟨acc.data ++ (ns.map (fun n => UInt8.ofNat n.toNat)).toArray⟩ := by
  intro ns
  induction ns with
  | nil => intro acc; simp
  | cons n ns ih =>
   intro acc
   simp only [List.foldl_cons, ih]
   cases acc
   simp [ByteArray.push]
 have := key ns ⟨#[]⟩
 simp only [Array.empty_append] at this
 simp [ByteArray.empty, ByteArray.emptyWithCapacity]
 exact this
theorem ok_bytesToStr (hw : WR P B0 w0 G st.heap w) (ht : VRL G w tm a.tmps.toList) {s t e : TypeId} {x : Operand} {d : Opd} (ho : o.op = .convert s t x) (hsrc : P.underlying s = some (.slice e)) (he : P.underlying e = some (.int .u8)) (hdst : P.underlying t = some .string) (hd : opd x = some d)
  (hs : stepOp E rec tm st (.bytesToStr d) = some (.val v st')) : Yields P B0 w0 G st w v st' (OpRun P a o w) := by
 have hx := opd_ok ht hd
 have conv : ∀ {b : Option Addr} {n c : Nat} {u : Value}, a.eval x = .slice b n c → (Conv.bytesToString (.slice b n c)).run P w = .ok u w → OpRun P a o w = .ok (.value u) w := by
  intro b n c u h1 h2
  refine OpRun.val (by unfold execOp; rw [ho]) ?_
  cases b <;> simp [convert, run_underlying hsrc, run_underlying hdst, run_underlying he, h1, h2]
 simp only [stepOp] at hs
 split at hs
 ·rename_i hev
  cases hs
  rw [hev] at hx
  simp only [VR] at hx
  exact .pure hw (conv hx (by simp [Conv.bytesToString])) VR.str_mk
 ·rename_i oo n cs hev
  split at hs
  ·rename_i hlen
   obtain ⟨l, h1, h2⟩ := Option.map_eq_some_iff.1 hs
   cases h2
   rw [hev] at hx
   simp only [VR] at hx
   obtain ⟨b, off, cap, h3, _, _, _, h4⟩ := hx
   obtain ⟨vs, h5, h6⟩ := h4.vals
   obtain ⟨ns, h7, h8⟩ := bytesOf_ok h1 h5
   subst h7; subst h8
   have hnl : ns.length = n := by have := h5.length; simp at this; omega
   exact .pure hw (conv h3 (bytesToString_run hnl h6)) VR.str_mk
  ·cases hs
 ·rename_i l0 sz n hev
  split at hs
  ·rename_i cs hh
   split at hs
   ·rename_i hlen
    obtain ⟨l, h1, h2⟩ := Option.map_eq_some_iff.1 hs
    cases h2
    rw [hev] at hx
    simp only [VR] at hx
    obtain ⟨b, e', cap, h3, h4, _⟩ := hx
    obtain ⟨_, _, _, h6⟩ := hw.arr h3 hh
    obtain ⟨vs, h5, h7⟩ := h6.vals
    obtain ⟨ns, h8, h9⟩ := bytesOf_ok h1 h5
    subst h8; subst h9
    have hnl : ns.length = n := by have := h5.length; simp at this; omega
    exact .pure hw (conv h4 (bytesToString_run hnl h7)) VR.str_mk
   ·cases hs
  ·cases hs
 ·cases hs
def DOp.isCall : DOp → Bool
 | .call _ _ => true
 | .invoke _ _ _ => true
 | _ => false
theorem opds_one {xs : List Operand} {x : Opd} (h : opds xs = some [x]) : ∃ y, xs = [y] ∧ opd y = some x := by
 cases xs with
 | nil => simp [opds] at h
 | cons y ys =>
  simp only [opds] at h
  split at h
  ·rename_i p ps h1 h2
   cases h
   cases ys with
   | nil => exact ⟨y, rfl, h1⟩
   | cons z zs =>
    simp only [opds] at h2
    split at h2 <;> cases h2
  ·cases h
theorem opds_two {xs : List Operand} {x z : Opd} (h : opds xs = some [x, z]) : ∃ y u, xs = [y, u] ∧ opd y = some x ∧ opd u = some z := by
 cases xs with
 | nil => simp [opds] at h
 | cons y ys =>
  simp only [opds] at h
  split at h
  ·rename_i p ps h1 h2
   cases h
   obtain ⟨u, h3, h4⟩ := opds_one h2
   subst h3
   exact ⟨y, u, rfl, h1, h4⟩
  ·cases h
theorem arr_of_list {α : Type} {a : Array α} {l : List α} (h : a.toList = l) : a = l.toArray := by subst h; simp
theorem op_ok {mu : TypeId → Bool} {d : DOp} (hc : opC P mu o = some d) (hw : WR P B0 w0 G st.heap w) (ht : VRL G w tm a.tmps.toList) (hn : d.isCall = false) (hs : stepOp E rec tm st d = some (.val v st')) : Yields P B0 w0 G st w v st' (OpRun P a o w) := by
 unfold opC at hc
 split at hc
 ·rename_i x ho; obtain ⟨d', h1, h2⟩ := Option.map_eq_some_iff.1 hc; subst h2; exact ok_move hw ht (.inl ho) h1 hs
 ·rename_i x ho; obtain ⟨d', h1, h2⟩ := Option.map_eq_some_iff.1 hc; subst h2; exact ok_move hw ht (.inr ho) h1 hs
 ·rename_i c x y ho
  split at hc
  ·rename_i h1 h2 h3; cases hc; exact ok_pick hw ht ho h1 h2 h3 hs
  ·cases hc
 ·rename_i t x ho; obtain ⟨d', h1, h2⟩ := Option.map_eq_some_iff.1 hc; subst h2; exact ok_box hw ht ho h1 hs
 ·rename_i t ho; obtain ⟨d', h1, h2⟩ := Option.map_eq_some_iff.1 hc; subst h2; exact ok_alloc hw ho h1 hs
 ·rename_i t parts ho
  split at hc
  ·rename_i fields hu
   split at hc
   ·rename_i z ps h1 h2
    split at hc
    ·rename_i h3; cases hc; exact ok_build hw ht ho h1 h2 (.inl ⟨_, hu, h3⟩) hs
    ·cases hc
   ·cases hc
  ·rename_i n e hu
   split at hc
   ·rename_i z ps h1 h2
    split at hc
    ·rename_i h3; cases hc
     obtain ⟨s, h4⟩ := Option.isSome_iff_exists.1 h3
     exact ok_build hw ht ho h1 h2 (.inr ⟨_, _, _, hu, h4⟩) hs
    ·cases hc
   ·cases hc
  ·cases hc
 ·rename_i t n parts ho
  split at hc
  ·rename_i e hu
   split at hc
   ·rename_i s z ps h1 h2 h3
    split at hc
    ·rename_i h4; cases hc
     simp only [Bool.and_eq_true, decide_eq_true_eq, beq_iff_eq] at h4
     exact ok_buildSlice hw ht ho hu h1 h2 h3 h4.1.1 h4.1.2 h4.2 hs
    ·cases hc
   ·cases hc
  ·cases hc
 ·rename_i t x ho
  split at hc
  ·rename_i h0
   split at hc
   ·rename_i s d' h1 h2; cases hc; exact ok_load hw ht ho h0 h1 h2 hs
   ·cases hc
  ·cases hc
 ·rename_i t x y ho
  split at hc
  ·rename_i s d' e' h1 h2 h3; cases hc; exact ok_store hw ht ho h1 h2 h3 hs
  ·cases hc
 ·rename_i x ho; obtain ⟨d', h1, h2⟩ := Option.map_eq_some_iff.1 hc; subst h2; exact ok_nilCheck hw ht ho h1 hs
 ·rename_i op t x y u ho
  unfold binC at hc
  split at hc
  ·rename_i d1 d2 h1 h2
   split at hc
   ·cases hc; exact ok_binI hw ht ho h1 h2 hs
   ·cases hc; exact ok_binS hw ht ho h1 h2 hs
   ·rename_i hu
    split at hc
    ·cases hc; exact ok_binB (neg := false) hw ht ho hu rfl h1 h2 hs
    ·cases hc; exact ok_binB (neg := true) hw ht ho hu rfl h1 h2 hs
    ·cases hc
   ·rename_i fields hu
    split at hc
    ·rename_i h3
     simp only [Bool.and_eq_true, Bool.not_eq_true'] at h3
     split at hc
     ·cases hc; exact ok_eqAgg (neg := false) hw ht ho hu h3.1.1.1 h3.1.1.2 h3.1.2 h3.2 rfl h1 h2 hs
     ·cases hc; exact ok_eqAgg (neg := true) hw ht ho hu h3.1.1.1 h3.1.1.2 h3.1.2 h3.2 rfl h1 h2 hs
     ·cases hc
    ·cases hc
   ·rename_i e hu
    split at hc
    ·cases hc; exact ok_isNilS (neg := false) hw ht ho hu rfl h1 h2 hs
    ·cases hc; exact ok_isNilS (neg := true) hw ht ho hu rfl h1 h2 hs
    ·cases hc
   ·cases hc
  ·cases hc
 ·rename_i op t x ho
  split at hc
  ·rename_i d' h1; cases hc; exact ok_not hw ht ho h1 hs
  ·rename_i d' h1; cases hc; exact ok_neg hw ht ho h1 hs
  ·cases hc
 ·rename_i s t x ho
  split at hc
  ·rename_i k0 k d' h1 h2 h3; cases hc; exact ok_toInt hw ht ho h1 h2 h3 hs
  ·rename_i e d' h1 h2 h3
   split at hc
   ·rename_i h4; cases hc; exact ok_bytesToStr hw ht ho h1 h4 h2 h3 hs
   ·cases hc
  ·cases hc
 ·rename_i t x ho
  split at hc
  ·cases hc
  ·rename_i td d' h1 h2 h3; cases hc; exact ok_mkIface hw ht ho h2 (fun ms e => h1 ms e) h3 hs
  ·cases hc
 ·rename_i f fi ca ho
  split at hc
  ·rename_i d1 d2 h1 h2; cases hc; exact ok_mkFunc hw ht ho h1 h2 hs
  ·cases hc
 ·rename_i t r ho
  split at hc
  ·rename_i h1; cases hc; exact ok_mkMap hw ho h1 (.inl rfl) hs
  ·rename_i h1; cases hc; exact ok_mkMap hw ho h1 (.inr ⟨_, _, rfl⟩) hs
  ·cases hc
 ·rename_i t x lo hi ho
  split at hc
  ·rename_i e hu
   split at hc
   ·rename_i s d' dl dh h1 h2 h3 h4
    split at hc
    ·rename_i h5; cases hc; exact ok_slice hw ht ho hu h1 h5 h2 h3 h4 hs
    ·cases hc
   ·cases hc
  ·rename_i hu
   split at hc
   ·rename_i d' dl dh h2 h3 h4; cases hc; exact ok_sliceStr hw ht ho hu h2 h3 h4 hs
   ·cases hc
  ·cases hc
 ·rename_i t x f ho
  split at hc
  ·rename_i fields d' hu h1
   split at hc
   ·rename_i fd hf
    split at hc
    ·rename_i s h2
     split at hc
     ·rename_i h3; cases hc; exact ok_fieldAddr hw ht ho hu hf h2 h3 h1 hs
     ·cases hc
    ·cases hc
   ·cases hc
  ·cases hc
 ·rename_i t x f ho
  split at hc
  ·rename_i fields d' hu h1
   split at hc
   ·rename_i fd hf
    split at hc
    ·rename_i h2
     split at hc
     ·rename_i s h3; cases hc; exact ok_part hw ht ho hu hf h2 h3 h1 hs
     ·cases hc
    ·cases hc
   ·cases hc
  ·cases hc
 ·rename_i t x i ho
  split at hc
  ·rename_i e d1 d2 hu h1 h2
   obtain ⟨s, h3, h4⟩ := Option.map_eq_some_iff.1 hc
   subst h4; exact ok_indexAddr hw ht ho hu h3 h1 h2 hs
  ·rename_i n e d1 d2 hu h1 h2
   split at hc
   ·obtain ⟨s, h3, h4⟩ := Option.map_eq_some_iff.1 hc
    subst h4; exact ok_indexVar hw ht ho hu h3 h1 h2 hs
   ·cases hc
  ·cases hc
 ·rename_i t x i ho
  split at hc
  ·rename_i d1 d2 hu h1 h2; cases hc; exact ok_indexStr hw ht ho hu h1 h2 hs
  ·rename_i n e d1 d2 hu h1 h2
   split at hc
   ·rename_i h0
    obtain ⟨s, h3, h4⟩ := Option.map_eq_some_iff.1 hc
    subst h4; exact ok_indexArr hw ht ho hu h0 h3 h1 h2 hs
   ·cases hc
  ·cases hc
 ·rename_i t m k ok ho
  split at hc
  ·rename_i kt e d1 d2 hut h1 h2
   split at hc
   ·rename_i fields zv hu hz
    split at hc
    ·rename_i z hz2
     split at hc
     ·rename_i h3
      simp only [Bool.and_eq_true, Bool.not_eq_true'] at h3
      cases hc; exact ok_lookup hw ht ho hut hu h3.1.1 h3.1.2 h3.2 hz hz2 h1 h2 hs
     ·cases hc
    ·cases hc
   ·cases hc
  ·cases hc
 ·rename_i t m k x ho
  split at hc
  ·rename_i kt e d1 d2 d3 hut h1 h2 h4
   split at hc
   ·rename_i fields hu
    split at hc
    ·rename_i h3
     simp only [Bool.and_eq_true, Bool.not_eq_true'] at h3
     cases hc; exact ok_mapUpdate hw ht ho hut hu h3.1.1 h3.1.2 h3.2 h1 h2 h4 hs
    ·cases hc
   ·cases hc
  ·cases hc
 ·rename_i t x ho
  split at hc
  ·rename_i d' hu h1; cases hc; exact ok_rangeStr hw ht ho hu h1 hs
  ·cases hc
 ·rename_i x ho; obtain ⟨d', h1, h2⟩ := Option.map_eq_some_iff.1 hc; subst h2; exact ok_nextStr hw ht ho h1 hs
 ·rename_i x xt t ho
  split at hc
  ·cases hc
  ·rename_i td zv d' h1 h2 h3 h4
   obtain ⟨z, h5, h6⟩ := Option.map_eq_some_iff.1 hc
   subst h6
   obtain ⟨i, h7, h8⟩ := Option.bind_eq_some_iff.1 h3
   exact ok_assertT hw ht ho h2 (fun ms e => h1 ms e) h7 h8 h5 h4 hs
  ·cases hc
 ·rename_i x i ho; obtain ⟨d', h1, h2⟩ := Option.map_eq_some_iff.1 hc; subst h2; exact ok_extract hw ht ho h1 hs
 ·rename_i c ho
  split at hc
  ·rename_i b hb
   split at hc
   ·rename_i args hargs
    unfold builtinC at hc
    split at hc
    ·rename_i t x hat
     obtain ⟨y, h1, h2⟩ := opds_one hargs
     split at hc
     ·rename_i e hu; cases hc; exact ok_len hw ht ho hb (arr_of_list hat) (arr_of_list h1) hu h2 hs
     ·rename_i hu; cases hc; exact ok_lenStr hw ht ho hb (arr_of_list hat) (arr_of_list h1) hu h2 hs
     ·cases hc
    ·rename_i t u x y hat
     obtain ⟨x1, y1, h1, h2, h3⟩ := opds_two hargs
     split at hc
     ·rename_i e e2 hu hu2
      split at hc
      ·rename_i i hi
       split at hc
       ·rename_i z hz
        split at hc
        ·rename_i h4
         simp only [Bool.and_eq_true, decide_eq_true_eq, beq_iff_eq] at h4
         obtain ⟨⟨⟨rfl, h5⟩, h6⟩, h7⟩ := h4
         cases hc; exact ok_append hw ht ho hb (arr_of_list hat) (arr_of_list h1) hu hi hz h5 h6 h7 h2 h3 hs
        ·cases hc
       ·cases hc
      ·cases hc
     ·cases hc
    ·rename_i x ys hat; cases hc; exact ok_minmax (mx := true) hw ht ho (by simpa using hb) hargs hs
    ·rename_i x ys hat; cases hc; exact ok_minmax (mx := false) hw ht ho (by simpa using hb) hargs hs
    ·cases hc
   ·cases hc
  ·rename_i f hf
   split at hc
   ·cases hc; simp [DOp.isCall] at hn
   ·cases hc
  ·split at hc
   ·cases hc; simp [DOp.isCall] at hn
   ·cases hc
 ·rename_i x ho
  obtain ⟨d', h1, h2⟩ := Option.map_eq_some_iff.1 hc; subst h2
  simp only [stepOp] at hs
  split at hs <;> cases hs
 ·cases hc
end
end Go.Den
end

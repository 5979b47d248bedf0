/- Part of the proof that for every input the function ChestFaulty returns true and each argument reads as it did. Texts: DenOpsG. -/
import Derived.Test.YtoeigapilcgelaaGreatDoorFAj
set_option linter.unusedSimpArgs false
set_option linter.unusedVariables false
section
namespace Go.Den
section
variable {P : Program} {B0 : Nat} {w0 : World} {G : Gh} {st : St} {w : World} {tm : List PV} {a : Act} {o : Oper} {E : Env} {rec : Rec} {v : PV} {st' : St}
theorem app_run {t : TypeId} {c : Call} {x y : Operand} (ho : o.op = .call c) (hc : c.callee = .builtin .append) (hat : c.argTypes = #[t, t]) (har : c.args = #[x, y]) {u : Value} {w' : World} (h : (Builtin.append_ #[t, t] o.type #[a.eval x, a.eval y]).run P w = .ok u w') : OpRun P a o w = .ok (.value u) w' := by
  unfold OpRun execOp
  rw [ho]
  simp [resolve, hc, har, hat, invoke, builtin, h]
theorem run_append_zero (t ty e : TypeId) (i : TypeInfo) (ht : P.underlying t = some (.slice e)) (hi : P.info? e = some i) (base b : Option Addr) (n cap c : Nat) (hn : n ≤ cap) :
    (Builtin.append_ #[t, t] ty #[.slice base n cap, .slice b 0 c]).run P w = .ok (.slice base n cap) w := by
  have hf : (Builtin.firstCells i.size 0 (.slice b 0 c)).run P w = .ok #[] w := by
    cases b <;> simp [Builtin.firstCells, loadCells, loadCellsFrom]
  cases base <;> simp [Builtin.append_, run_underlying ht, sizeOf, typeInfo, hi, Builtin.lenOf, hn, hf, storeCells]
theorem zeroT_info {e : TypeId} {z : List PV} {i : TypeInfo} (h : zeroT P e = some z) (hi : P.info? e = some i) : ∃ u, i.zero = some u ∧ cells0 u.cells.toList = some z := by
  unfold zeroT at h
  rw [hi] at h
  simp only [Option.bind_some] at h
  split at h
  · rename_i u hu; exact ⟨u, hu, h⟩
  · cases h
theorem cells0_length : ∀ {vs : List Value} {ps : List PV}, cells0 vs = some ps → ps.length = vs.length
  | [], ps, h => by simp only [cells0] at h; cases h; rfl
  | v :: vs, ps, h => by
    simp only [cells0] at h
    split at h
    · rename_i p ps' h1 h2
      cases h
      simp [cells0_length h2]
    · cases h
theorem drew_same (w : World) : w.drew.heap = w.heap := rfl
theorem new_row {e : TypeId} {z : Value} {vs : List Value} {cs : List PV} {need gc sz lo' : Nat} {h1 : List HObj} (m : Bool) (hw : WR P B0 w0 G h1 w) (hvl : VRL G w cs vs) (hl : vs.length = need * sz) (hz : z.cells.size = sz) (hge : need ≤ gc) :
    ∃ G', WR P B0 w0 G' (h1 ++ [if m then HObj.arr cs else HObj.tag true]) (w.drew.alloc (.cells (vs.toArray ++ Builtin.zeroCells z.cells (gc - need)) e)) ∧
      Ext G h1 w G' (h1 ++ [if m then HObj.arr cs else HObj.tag true]) (w.drew.alloc (.cells (vs.toArray ++ Builtin.zeroCells z.cells (gc - need)) e)) lo' ∧
      G'.tg h1.length = some (w.heap.size, cs.length) ∧ (m = false → G'.cm w.heap.size = some cs.length) ∧ VRC G' (w.drew.alloc (.cells (vs.toArray ++ Builtin.zeroCells z.cells (gc - need)) e)) cs w.heap.size 0 ∧
      HasRow (w.drew.alloc (.cells (vs.toArray ++ Builtin.zeroCells z.cells (gc - need)) e)) w.heap.size (gc * sz) := by
  have hsz : (vs.toArray ++ Builtin.zeroCells z.cells (gc - need)).size = gc * sz := by
    simp only [Array.size_append, List.size_toArray, size_zeroCells, hz, hl, ← Nat.add_mul]
    congr 1
    omega
  have hcl := hvl.length
  have hw1 : WR P B0 w0 G h1 w.drew := hw.same rfl
  have hext : Ext G h1 w G h1 w.drew lo' := .same rfl
  obtain ⟨g1, g2, g3⟩ := alloc_row hw1 m cs (vs.toArray ++ Builtin.zeroCells z.cells (gc - need)) e (0, 0) (by simp; omega) (Thawed.zero _)
    (fun G' w' hp hh => VRC.of_row hh ((hvl.mono hext.pres).mono hp) (fun j u hj => by
      rw [Nat.zero_add]
      rw [Array.getElem?_append_left (by have := (List.getElem?_eq_some_iff.1 hj).1; simpa using this)]
      simpa using hj))
  refine ⟨_, g1, hext.trans (g2 lo'), upd_same _ _ _, fun hm => ?_, g3, ⟨_, _, _, heap_alloc_new w.drew _, by rw [hsz]; exact Nat.le_refl _⟩⟩
  subst hm
  exact upd_same _ _ _
theorem tag_dead {h1 : List HObj} {t b e : Nat} (hw : WR P B0 w0 G h1 w) (htg : G.tg t = some (b, e)) (hlive : Live h1[t]?) : ∀ t' e', G.tg t' = some (b, e') → ¬ Live (h1.set t (.tag false))[t']? := by
  intro t' e' h2 hl
  have hlt : t < h1.length := by
    rcases Nat.lt_or_ge t h1.length with h | h
    · exact h
    · rw [List.getElem?_eq_none h] at hlive; exact hlive.elim
  rw [getElem?_set' _ _ _ _ hlt] at hl
  split at hl
  · exact hl
  · rename_i hne
    exact hne (hw.tinj h2 htg hl hlive)
theorem ok_append (hw : WR P B0 w0 G st.heap w) (ht : VRL G w tm a.tmps.toList) {t e : TypeId} {c : Call} {x y : Operand} {mu : Bool} {i : TypeInfo} {z : List PV} {d g : Opd} (ho : o.op = .call c) (hc : c.callee = .builtin .append) (hat : c.argTypes = #[t, t]) (har : c.args = #[x, y])
    (hu : P.underlying t = some (.slice e)) (hi : P.info? e = some i) (hz : zeroT P e = some z) (hby : i.bytes ≤ 1024) (hs1 : 1 ≤ i.size) (hzl : z.length = i.size) (hd : opd x = some d) (hg : opd y = some g)
    (hs : stepOp E rec tm st (.append mu i.size d g) = some (.val v st')) : Yields P B0 w0 G st w v st' (OpRun P a o w) := by
  have hx := opd_ok ht hd
  have hy := opd_ok ht hg
  obtain ⟨zv, hzv, hzc⟩ := zeroT_info hz hi
  have hzs : zv.cells.size = i.size := by have := cells0_length hzc; simp at this; omega
  have zero : ∀ {xp : PV} {b2 : Option Addr} {c2 : Nat}, a.eval y = .slice b2 0 c2 → d.ev tm = xp → (match xp with | .nilslice => some (OpR.val .nilslice st) | .slice o n cs => some (.val (.slice o n cs) st) | .hslice t s n => some (.val (.hslice t s n) st) | _ => none) = some (.val v st') →
      Yields P B0 w0 G st w v st' (OpRun P a o w) := by
    intro xp b2 c2 h1 h2 h3
    rw [h2] at hx
    have fin : ∀ {base : Option Addr} {n cap : Nat}, a.eval x = .slice base n cap → n ≤ cap → VR G w v (.slice base n cap) → st' = st → Yields P B0 w0 G st w v st' (OpRun P a o w) := by
      intro base n cap h4 h5 h6 h7
      subst h7
      exact .pure hw (app_run ho hc hat har (by rw [h1, h4]; exact run_append_zero t o.type e i hu hi base b2 n cap c2 h5)) h6
    split at h3
    · cases h3
      have h0 := hx
      simp only [VR] at hx
      rw [hx] at h0
      exact fin hx (Nat.le_refl _) h0 rfl
    · cases h3
      have h0 := hx
      simp only [VR] at hx
      obtain ⟨b, off, cap, h4, h5, _⟩ := hx
      rw [h4] at h0
      exact fin h4 h5 h0 rfl
    · cases h3
      have h0 := hx
      simp only [VR] at hx
      obtain ⟨b, e', cap, _, h4, h5, _⟩ := hx
      rw [h4] at h0
      exact fin h4 h5 h0 rfl
    · cases h3
  simp only [stepOp] at hs
  split at hs
  · rename_i hev
    rw [hev] at hy
    simp only [VR] at hy
    unfold doAppend at hs
    rw [if_pos ⟨by simp, by simp⟩, if_pos rfl] at hs
    exact zero hy rfl hs
  · rename_i oo m ys hev
    rw [hev] at hy
    simp only [VR] at hy
    obtain ⟨b2, off2, c2, hy1, hy2, hy3, _, hy4⟩ := hy
    unfold doAppend at hs
    split at hs
    · rename_i hcond
      obtain ⟨hyl, hcell⟩ := hcond
      split at hs
      · rename_i hm
        subst hm
        exact zero hy1 rfl hs
      · rename_i hm
        obtain ⟨news, hn1, hn2⟩ := hy4.vals
        have hnl : news.length = m * i.size := by rw [hn1.length, hyl]
        have hone := oneCells_of hn1 hcell
        have hmax : maxList = 1000000 := rfl
        split at hs
        · -- onto nil
          rename_i hxe
          rw [hxe] at hx
          simp only [VR] at hx
          split at hs
          · rename_i hle
            have hbb : m * i.bytes ≤ 281474976710656 := by
              have : m * i.bytes ≤ 1000000 * 1024 := Nat.mul_le_mul (by omega) hby
              omega
            have hrun := run_append_nil (P := P) w t o.type e i zv hu hi hzv ⟨b2, off2, none⟩ m c2 news hnl hn2 (by omega) (by omega) hbb
            have hrun' := app_run (P := P) (a := a) ho hc hat har (by rw [hx, hy1]; exact hrun)
            have hge := grownCap_ge w m 0 e
            split at hs
            · rename_i hmu
              subst hmu
              cases hs
              obtain ⟨G', g1, g2, g3, _, _, g6⟩ := new_row (e := e) (lo' := st.lo) true hw hn1 hnl hzs hge
              refine ⟨G', _, g1, g2, Nat.le_refl _, .inl ⟨_, hrun', ?_⟩⟩
              simp only [VR]
              exact ⟨_, _, _, g3, rfl, hge, g6⟩
            · rename_i hmu
              cases hs
              have hmu' : mu = false := by simpa using hmu
              obtain ⟨G', g1, g2, g3, g4, g5, g6⟩ := new_row (e := e) (lo' := st.lo) false hw hn1.share hnl hzs hge
              refine ⟨G', _, g1, g2, Nat.le_refl _, .inl ⟨_, hrun', ?_⟩⟩
              simp only [VR]
              exact ⟨_, 0, _, rfl, hge, fun _ => ⟨_, g4 rfl, by simp⟩, ⟨rfl, g3, g6⟩, g5⟩
          · cases hs
        · -- onto a slice of the run's own
          rename_i tt sz' n cs hxe
          split at hs
          · rename_i hc3
            obtain ⟨hc3, hc4, hc5⟩ := hc3
            split at hs
            · rename_i htag
              cases hs
              subst hc3
              rw [hxe] at hx
              simp only [VR] at hx
              obtain ⟨b, off, cap, x1, x2, x3, ⟨x4, x5, x6⟩, x7⟩ := hx
              subst x4
              obtain ⟨t1, t2, t3⟩ := hw.tag x5
              rw [htag] at t3
              obtain ⟨k1, arr, T, fr, k2, k3⟩ := t3
              have htl : tt < st.heap.length := (List.getElem?_eq_some_iff.1 htag).1
              have hbe : G.be tt = none := by
                cases hh : G.be tt with
                | none => rfl
                | some b' =>
                  obtain ⟨_, _, _, _, oo, h4, h5⟩ := hw.obj hh
                  rw [htag] at h4; cases h4; exact h5.elim
              obtain ⟨c1, c2'⟩ := close_tag hw htl hbe
              have hlen1 : (st.heap.set tt (.tag false)).length = st.heap.length := by simp
              obtain ⟨ols, o1, o2⟩ := x7.vals
              have hol : ols.length = n * i.size := by rw [o1.length, hc4]
              have hlo : min st.lo tt ≤ tt := Nat.min_le_right _ _
              by_cases hroom : n + m ≤ cap
              · -- there is room
                obtain ⟨arr2, T2, fr2, r1, r2⟩ := x6
                rw [k2] at r1; cases r1
                have hfit : n * i.size + news.length ≤ arr.size := by rw [hnl, ← Nat.add_mul]; exact Nat.le_trans (Nat.mul_le_mul_right _ hroom) r2
                have hst := run_storeCells_th (P := P) b (n * i.size) T fr news 0 arr w k2 k3 (by simpa using hfit) hone
                simp only [Nat.add_zero] at hst
                have hf := run_firstCells_some (P := P) w i.size m ⟨b2, off2, none⟩ m c2 news hnl hn2
                have hrun : (Builtin.append_ #[t, t] o.type #[.slice (some ⟨b, 0, none⟩) n cap, .slice (some ⟨b2, off2, none⟩) m c2]).run P w = .ok (.slice (some ⟨b, 0, none⟩) (n + m) cap) (w.putObj b (Obj.cells (arr.toList.take (n * i.size) ++ news ++ arr.toList.drop (n * i.size + news.length)).toArray T fr)) := by
                  simp [Builtin.append_, run_underlying hu, sizeOf, typeInfo, hi, Builtin.lenOf, hroom, hf, Addr.add_lit, hst]
                have hrun' := app_run (P := P) (a := a) ho hc hat har (by rw [x1, hy1]; exact hrun)
                have hasz : (arr.toList.take (n * i.size) ++ news ++ arr.toList.drop (n * i.size + news.length)).toArray.size = arr.size := by
                  simp only [List.size_toArray, List.length_append, List.length_take, List.length_drop, Array.length_toList]; omega
                obtain ⟨g1, g2⟩ := grow_row c1 false x5 (tag_dead hw x5 (by rw [htag]; trivial)) (by simpa using k1) (cs ++ ys.map PV.share) arr _ T fr k2 k3 hasz (by simp; omega) (by simp)
                  (fun _ j hj => by
                    rw [List.getElem?_toArray, List.append_assoc, List.getElem?_append_left (by simp; omega), List.getElem?_take, if_pos (by omega)]
                    simp)
                  (fun _ _ _ _ h => by cases h)
                rw [hlen1] at g1 g2
                have hext := (c2' (min st.lo tt) hlo).trans (g2 (min st.lo tt))
                refine ⟨_, _, g1, hext, Nat.min_le_left _ _, .inl ⟨_, hrun', ?_⟩⟩
                simp only [VR]
                have hplt : b < w.heap.size := t2
                have hvr : VRL G w (cs ++ ys.map PV.share) (ols ++ news) := o1.append hn1.share
                refine ⟨b, 0, cap, rfl, hroom, fun _ => ⟨(cs ++ ys.map PV.share).length, by simpa using upd_same _ _ _, by simp⟩, ⟨rfl, by simpa using upd_same _ _ _, ⟨_, T, fr, heap_put_same hplt, by rw [hasz]; exact r2⟩⟩, ?_⟩
                refine VRC.of_row (heap_put_same hplt) (hvr.mono hext.pres) (fun j u hj => ?_)
                rw [Nat.zero_add, List.getElem?_toArray]
                by_cases hjl : j < n * i.size
                · rw [List.getElem?_append_left (by omega)] at hj
                  rw [List.append_assoc, List.getElem?_append_left (by simp; omega), List.getElem?_take, if_pos hjl]
                  have := o2 j u hj
                  rw [Addr.add_lit, cell_row k2, Nat.zero_add] at this
                  simpa using this
                · rw [List.getElem?_append_right (by omega)] at hj
                  have hj2 := (List.getElem?_eq_some_iff.1 hj).1
                  rw [List.getElem?_append_left (by simp; omega), List.getElem?_append_right (by simp; omega)]
                  rw [← hj]
                  congr 1
                  simp only [List.length_take, Array.length_toList]
                  omega
              · -- a new row
                have hbb : (n + m) * i.bytes ≤ 140737488355328 := by
                  have : (n + m) * i.bytes ≤ 1000000 * 1024 := Nat.mul_le_mul (by omega) hby
                  omega
                have hrun := run_append_grow (P := P) w t o.type e i zv hu hi hzv ⟨b, 0, none⟩ n cap ols hol o2 ⟨b2, off2, none⟩ m c2 news hnl hn2 (by omega) (by omega) (growslice_fits (by omega) hbb)
                have hrun' := app_run (P := P) (a := a) ho hc hat har (by rw [x1, hy1]; exact hrun)
                have hge := grownCap_ge w (n + m) cap e
                have hvr : VRL G w (cs ++ ys.map PV.share) (ols ++ news) := o1.append hn1.share
                obtain ⟨G', g1, g2, g3, g4, g5, g6⟩ := new_row (e := e) (lo' := min st.lo tt) false c1 hvr (by rw [List.length_append, hol, hnl, Nat.add_mul]) hzs hge
                have e1 : (ols.toArray ++ news.toArray) = (ols ++ news).toArray := by simp
                rw [e1] at hrun'
                rw [hlen1] at g3
                refine ⟨G', _, g1, (c2' (min st.lo tt) hlo).trans g2, Nat.min_le_left _ _, .inl ⟨_, hrun', ?_⟩⟩
                simp only [VR]
                exact ⟨_, 0, _, rfl, hge, fun _ => ⟨_, g4 rfl, by simp⟩, ⟨rfl, g3, g6⟩, g5⟩
            · cases hs
          · cases hs
        · -- onto a slice that may be written
          rename_i tt sz' n hxe
          split at hs
          · rename_i cs htag
            split at hs
            · rename_i hc3
              obtain ⟨hc3, hc4, hc5⟩ := hc3
              cases hs
              subst hc3
              rw [hxe] at hx
              simp only [VR] at hx
              obtain ⟨b, eb, cap, x5, x1, x2, x6⟩ := hx
              obtain ⟨k1, k2e, ⟨arr, T, fr, k2, k4, k3⟩, x7⟩ := hw.arr x5 htag
              obtain ⟨t1, t2, _⟩ := hw.tag x5
              have htl : tt < st.heap.length := (List.getElem?_eq_some_iff.1 htag).1
              have hbe : G.be tt = none := by
                cases hh : G.be tt with
                | none => rfl
                | some b' =>
                  obtain ⟨_, _, _, _, oo, h4, h5⟩ := hw.obj hh
                  rw [htag] at h4; cases h4; exact h5.elim
              obtain ⟨c1, c2'⟩ := close_tag hw htl hbe
              have hlen1 : (st.heap.set tt (.tag false)).length = st.heap.length := by simp
              obtain ⟨ols, o1, o2⟩ := x7.vals
              have hol : ols.length = n * i.size := by rw [o1.length, hc4]
              have hlo : min st.lo tt ≤ tt := Nat.min_le_right _ _
              by_cases hroom : n + m ≤ cap
              · obtain ⟨arr2, T2, fr2, r1, r2⟩ := x6
                rw [k2] at r1; cases r1
                have hfit : n * i.size + news.length ≤ arr.size := by rw [hnl, ← Nat.add_mul]; exact Nat.le_trans (Nat.mul_le_mul_right _ hroom) r2
                have hst := run_storeCells_th (P := P) b (n * i.size) T fr news 0 arr w k2 k3 (by simpa using hfit) hone
                simp only [Nat.add_zero] at hst
                have hf := run_firstCells_some (P := P) w i.size m ⟨b2, off2, none⟩ m c2 news hnl hn2
                have hrun : (Builtin.append_ #[t, t] o.type #[.slice (some ⟨b, 0, none⟩) n cap, .slice (some ⟨b2, off2, none⟩) m c2]).run P w = .ok (.slice (some ⟨b, 0, none⟩) (n + m) cap) (w.putObj b (Obj.cells (arr.toList.take (n * i.size) ++ news ++ arr.toList.drop (n * i.size + news.length)).toArray T fr)) := by
                  simp [Builtin.append_, run_underlying hu, sizeOf, typeInfo, hi, Builtin.lenOf, hroom, hf, Addr.add_lit, hst]
                have hrun' := app_run (P := P) (a := a) ho hc hat har (by rw [x1, hy1]; exact hrun)
                have hasz : (arr.toList.take (n * i.size) ++ news ++ arr.toList.drop (n * i.size + news.length)).toArray.size = arr.size := by
                  simp only [List.size_toArray, List.length_append, List.length_take, List.length_drop, Array.length_toList]; omega
                have hvr : VRL G w (cs ++ ys) (ols ++ news) := o1.append hn1
                have hcells : ∀ (j : Nat) (u : Value), (ols ++ news)[j]? = some u → (arr.toList.take (n * i.size) ++ news ++ arr.toList.drop (n * i.size + news.length)).toArray[0 + j]? = some u := by
                  intro j u hj
                  rw [Nat.zero_add, List.getElem?_toArray]
                  by_cases hjl : j < n * i.size
                  · rw [List.getElem?_append_left (by omega)] at hj
                    rw [List.append_assoc, List.getElem?_append_left (by simp; omega), List.getElem?_take, if_pos hjl]
                    have := o2 j u hj
                    rw [Addr.add_lit, cell_row k2, Nat.zero_add] at this
                    simpa using this
                  · rw [List.getElem?_append_right (by omega)] at hj
                    have hj2 := (List.getElem?_eq_some_iff.1 hj).1
                    rw [List.getElem?_append_left (by simp; omega), List.getElem?_append_right (by simp; omega)]
                    rw [← hj]
                    congr 1
                    simp only [List.length_take, Array.length_toList]
                    omega
                obtain ⟨g1, g2⟩ := grow_row c1 true x5 (tag_dead hw x5 (by rw [htag]; trivial)) (by simpa using k1) (cs ++ ys) arr _ T fr k2 k3 hasz (by simp; omega) (by simp; omega) (fun h => by cases h)
                  (fun G' w' hp hh _ => VRC.of_row hh (hvr.mono hp) hcells)
                rw [hlen1] at g1 g2
                refine ⟨_, _, g1, (c2' (min st.lo tt) hlo).trans (g2 (min st.lo tt)), Nat.min_le_left _ _, .inl ⟨_, hrun', ?_⟩⟩
                simp only [VR]
                exact ⟨b, _, cap, upd_same _ _ _, rfl, hroom, ⟨_, T, fr, heap_put_same t2, by rw [hasz]; exact r2⟩⟩
              · have hbb : (n + m) * i.bytes ≤ 140737488355328 := by
                  have : (n + m) * i.bytes ≤ 1000000 * 1024 := Nat.mul_le_mul (by omega) hby
                  omega
                have hrun := run_append_grow (P := P) w t o.type e i zv hu hi hzv ⟨b, 0, none⟩ n cap ols hol o2 ⟨b2, off2, none⟩ m c2 news hnl hn2 (by omega) (by omega) (growslice_fits (by omega) hbb)
                have hrun' := app_run (P := P) (a := a) ho hc hat har (by rw [x1, hy1]; exact hrun)
                have hge := grownCap_ge w (n + m) cap e
                have hvr : VRL G w (cs ++ ys) (ols ++ news) := o1.append hn1
                obtain ⟨G', g1, g2, g3, g4, g5, g6⟩ := new_row (e := e) (lo' := min st.lo tt) true c1 hvr (by rw [List.length_append, hol, hnl, Nat.add_mul]) hzs hge
                have e1 : (ols.toArray ++ news.toArray) = (ols ++ news).toArray := by simp
                rw [e1] at hrun'
                rw [hlen1] at g3
                refine ⟨G', _, g1, (c2' (min st.lo tt) hlo).trans g2, Nat.min_le_left _ _, .inl ⟨_, hrun', ?_⟩⟩
                simp only [VR]
                exact ⟨_, _, _, g3, rfl, hge, g6⟩
            · cases hs
          · cases hs
        · cases hs
    · cases hs
  · cases hs
end
end Go.Den
end

/- Part of the proofs of laws of the package chest: the interpreter Den, its soundness, and contracts of the program's functions over it. Texts: DenOpsA, DenOpsB. -/
import Derived.Test.YtoeigapilcgelaaGreatDoorK2Ae
import Derived.Laws.AppendOwn
import Derived.Laws.Append
import Derived.Laws.Cells
import Derived.Laws.CopyRow
import Derived.Laws.StructEq
import Derived.ChangeKeysEq
set_option linter.unusedSimpArgs false
set_option linter.unusedVariables false
section
namespace Go.Den
section
variable {P : Program}
theorem cell0_ok {G w} : ∀ {v : Value} {p : PV}, cell0 v = some p → VR G w p v := by
  intro v p h
  unfold cell0 at h
  split at h <;> first | (cases h; simp only [VR]) | cases h
theorem cells0_ok {G w} : ∀ {vs : List Value} {ps : List PV}, cells0 vs = some ps → VRL G w ps vs
  | [], ps, h => by simp only [cells0] at h; cases h; exact VRL.nil_iff.2 rfl
  | v :: vs, ps, h => by
    simp only [cells0] at h
    split at h
    · rename_i p ps' h1 h2
      cases h
      exact VRL.cons (cell0_ok h1) (cells0_ok h2)
    · cases h
theorem const0_ok {G w} {v : Value} {p : PV} (h : const0 v = some p) : VR G w p v := by
  unfold const0 at h
  split at h
  · rename_i cs
    obtain ⟨ps, h1, h2⟩ := Option.map_eq_some_iff.1 h
    subst h2
    simp only [VR]
    exact ⟨_, rfl, cells0_ok h1⟩
  · exact cell0_ok h
theorem opd_ok {G w} {tm : List PV} {a : Act} (ht : VRL G w tm a.tmps.toList) {x : Operand} {d : Opd} (h : opd x = some d) : VR G w (d.ev tm) (a.eval x) := by
  unfold opd at h
  split at h
  · rename_i t
    cases h
    have := ht.getD t
    simp only [Opd.ev, Act.eval]
    have e : a.tmps.getD t Go.undef = a.tmps.toList.getD t Go.undef := by
      simp [Array.getD_eq_getD_getElem?, List.getD_eq_getElem?_getD]
    rw [e]
    exact this
  · rename_i v
    obtain ⟨p, h1, h2⟩ := Option.map_eq_some_iff.1 h
    subst h2
    exact const0_ok h1
  · cases h
    simp only [Opd.ev, Act.eval, VR]
    exact ⟨#[], #[], rfl, VRL.nil_iff.2 rfl, VRL.nil_iff.2 rfl⟩
  · cases h
theorem opds_ok {G w} {tm : List PV} {a : Act} (ht : VRL G w tm a.tmps.toList) : ∀ {xs : List Operand} {ds : List Opd}, opds xs = some ds → VRL G w (evs tm ds) (xs.map a.eval)
  | [], ds, h => by simp only [opds] at h; cases h; exact VRL.nil_iff.2 rfl
  | x :: xs, ds, h => by
    simp only [opds] at h
    split at h
    · rename_i p ps' h1 h2
      cases h
      exact VRL.cons (opd_ok ht h1) (opds_ok ht h2)
    · cases h
theorem VRC.of_row {G w} {b : Nat} {arr : Array Value} {T : TypeId} {fr : Nat × Nat} (hw : w.heap[b]? = some (Obj.cells arr T fr)) : ∀ {cs : List PV} {off : Nat} {vs : List Value}, VRL G w cs vs → (∀ j v, vs[j]? = some v → arr[off + j]? = some v) → VRC G w cs b off
  | [], off, vs, _, _ => by simp only [VRC]
  | c :: cs, off, vs, h, hv => by
    obtain ⟨v, vs', rfl, h1, h2⟩ := VRL.cons_iff.1 h
    simp only [VRC]
    refine ⟨⟨v, ?_, h1⟩, VRC.of_row hw h2 (fun j u hu => ?_)⟩
    · rw [cell_row hw]
      exact hv 0 v rfl
    · have := hv (j + 1) u (by simpa using hu)
      rw [← this]
      congr 1
      omega
theorem VRC.drop {G w b} : ∀ {cs : List PV} {off : Nat} (k : Nat), VRC G w cs b off → k ≤ cs.length → VRC G w (cs.drop k) b (off + k)
  | cs, off, 0, h, _ => by simpa using h
  | [], off, k + 1, h, hk => by simp at hk
  | c :: cs, off, k + 1, h, hk => by
    simp only [VRC] at h
    have := VRC.drop (cs := cs) (off := off + 1) k h.2 (by simpa using hk)
    simpa [Nat.add_assoc, Nat.add_comm 1 k] using this
theorem VRC.take {G w b} : ∀ {cs : List PV} {off : Nat} (k : Nat), VRC G w cs b off → VRC G w (cs.take k) b off
  | cs, off, 0, h => by simp only [List.take_zero, VRC]
  | [], off, k + 1, h => by simp only [List.take_nil, VRC]
  | c :: cs, off, k + 1, h => by
    simp only [VRC] at h
    simp only [List.take_succ_cons, VRC]
    exact ⟨h.1, VRC.take k h.2⟩
theorem VRC.vals {G w b} : ∀ {cs : List PV} {off : Nat}, VRC G w cs b off → ∃ vs : List Value, VRL G w cs vs ∧ ∀ j v, vs[j]? = some v → w.cell? ((⟨b, off, none⟩ : Addr).add j) = some v
  | [], off, _ => ⟨[], VRL.nil_iff.2 rfl, fun j v h => by simp at h⟩
  | c :: cs, off, h => by
    simp only [VRC] at h
    obtain ⟨⟨v, h1, h2⟩, h3⟩ := h
    obtain ⟨vs, h4, h5⟩ := VRC.vals h3
    refine ⟨v :: vs, VRL.cons h2 h4, fun j u hu => ?_⟩
    cases j with
    | zero => simp at hu; subst hu; rw [Addr.add_lit]; simpa using h1
    | succ j =>
      have := h5 j u (by simpa using hu)
      rw [Addr.add_lit] at this ⊢
      rw [show off + (j + 1) = off + 1 + j from by omega]
      exact this
theorem isAgg_run {t : TypeId} (h : okT P t = true) (w : World) : (isAgg t).run P w = .ok (aggT P t) w := by
  unfold okT at h
  simp only [Bool.and_eq_true] at h
  obtain ⟨d, hd⟩ := Option.isSome_iff_exists.1 h.1
  unfold isAgg aggT
  simp only [Sem.run_bind, run_underlying hd, Result.andThen_ok, hd]
  cases d <;> rfl
theorem sizeOf_run {t : TypeId} {s : Nat} (h : sizeT P t = some s) (w : World) : (sizeOf t).run P w = .ok s w := by
  obtain ⟨i, h1, h2⟩ := Option.map_eq_some_iff.1 h
  subst h2
  unfold sizeOf
  simp [run_typeInfo w h1]
theorem loadVar_ok {G w} {t : TypeId} {s b off : Nat} {cs : List PV} {p : PV} (ht : okT P t = true) (hs : sizeT P t = some s) (h : VRC G w cs b off) (hr : rdPart (aggT P t) s cs = some p) :
    ∃ v, (loadVar t ⟨b, off, none⟩).run P w = .ok v w ∧ VR G w p v := by
  obtain ⟨vs, h1, h2⟩ := h.vals
  unfold rdPart at hr
  unfold loadVar
  simp only [Sem.run_bind, isAgg_run ht, Result.andThen_ok]
  cases ha : aggT P t with
  | true =>
    simp only [ha, if_true] at hr ⊢
    split at hr
    · rename_i hle
      cases hr
      have hl := h1.length
      have h3 := run_loadCells_list (P := P) w ⟨b, off, none⟩ (vs.take s) (fun j v hj => h2 j v (by rw [List.getElem?_take] at hj; split at hj; exact hj; cases hj))
      rw [List.length_take, Nat.min_eq_left (by omega)] at h3
      refine ⟨.agg (vs.take s).toArray, ?_, ?_⟩
      · simp [sizeOf_run hs, h3]
      · simp only [VR]
        exact ⟨_, rfl, by simpa using h1.take s⟩
    · cases hr
  | false =>
    simp only [ha, Bool.false_eq_true, if_false] at hr ⊢
    cases cs with
    | nil => simp at hr
    | cons c cs =>
      simp at hr; subst hr
      obtain ⟨v, vs', rfl, h3, _⟩ := VRL.cons_iff.1 h1
      refine ⟨v, ?_, h3⟩
      have := h2 0 v rfl
      rw [Addr.add_lit] at this
      simp [run_load, show w.cell? ⟨b, off, none⟩ = some v from this]
theorem rdPart_vals {G w} {agg : Bool} {s : Nat} {cs : List PV} {vs : List Value} {p : PV} (h : VRL G w cs vs) (hr : rdPart agg s cs = some p) :
    (agg = true → ∃ q, p = .agg q ∧ s ≤ vs.length ∧ VRL G w q (vs.take s)) ∧ (agg = false → ∃ v, vs[0]? = some v ∧ VR G w p v) := by
  unfold rdPart at hr
  refine ⟨fun ha => ?_, fun ha => ?_⟩
  · rw [ha] at hr
    simp only [if_true] at hr
    split at hr
    · cases hr
      exact ⟨_, rfl, by rw [h.length]; assumption, h.take s⟩
    · cases hr
  · rw [ha] at hr
    simp only [Bool.false_eq_true, if_false] at hr
    cases cs with
    | nil => simp at hr
    | cons c cs =>
      simp at hr; subst hr
      obtain ⟨v, vs', rfl, h3, _⟩ := VRL.cons_iff.1 h
      exact ⟨v, rfl, h3⟩
theorem part_ok {G w} {t : TypeId} {s off : Nat} {cs : List PV} {arr : Array Value} {p : PV} (ht : okT P t = true) (hs : sizeT P t = some s) (h : VRL G w cs arr.toList) (hr : rdPart (aggT P t) s (cs.drop off) = some p) :
    ∃ v, (part t arr off).run P w = .ok v w ∧ VR G w p v := by
  have h' := h.drop off
  have hv := rdPart_vals h' hr
  unfold part
  simp only [Sem.run_bind, isAgg_run ht, Result.andThen_ok]
  cases ha : aggT P t with
  | true =>
    obtain ⟨q, rfl, h1, h2⟩ := hv.1 ha
    refine ⟨.agg (arr.extract off (off + s)), by simp [sizeOf_run hs], ?_⟩
    simp only [VR]
    refine ⟨_, rfl, ?_⟩
    have e : (arr.extract off (off + s)).toList = (arr.toList.drop off).take s := by
      simp [Array.toList_extract, List.extract]
    rw [e]; exact h2
  | false =>
    obtain ⟨v, h1, h2⟩ := hv.2 ha
    refine ⟨v, ?_, h2⟩
    have : arr[off]? = some v := by simpa using h1
    simp [this]
def Yields (P : Program) (B0 : Nat) (w0 : World) (G : Gh) (st : St) (w : World) (p : PV) (st' : St) (r : Result Next) : Prop :=
  ∃ G' w', WR P B0 w0 G' st'.heap w' ∧ Ext G st.heap w G' st'.heap w' st'.lo ∧ st'.lo ≤ st.lo ∧ ((∃ v, r = .ok (.value v) w' ∧ VR G' w' p v) ∨ (r = .ok .skip w' ∧ p = undef))
theorem Yields.pure {B0 w0 G st w p r v} (hw : WR P B0 w0 G st.heap w) (hr : r = .ok (.value v) w) (hv : VR G w p v) : Yields P B0 w0 G st w p st r :=
  ⟨G, w, hw, .refl _ _ _ _, Nat.le_refl _, .inl ⟨v, hr, hv⟩⟩
theorem VR.int_inv {G w k n v} (h : VR G w (.int k n) v) : v = .int k n := by simpa only [VR] using h
theorem VR.bool_inv {G w b v} (h : VR G w (.bool b) v) : v = .bool b := by simpa only [VR] using h
theorem VR.str_inv {G w s v} (h : VR G w (.str s) v) : v = .string s := by simpa only [VR] using h
theorem VR.int_mk {G w k n} : VR G w (.int k n) (.int k n) := by simp only [VR]
theorem VR.bool_mk {G w b} : VR G w (.bool b) (.bool b) := by simp only [VR]
theorem VR.str_mk {G w s} : VR G w (.str s) (.string s) := by simp only [VR]
theorem binI_ok {G w} {op : BinOp} {t : TypeId} {k : IntKind} {a b : Int} {p : PV} (h : binI op k a b = some p) (x y : Operand) :
    ∃ v, (do eqGuard op t x y (.int k a) (.int k b); binOp op t (.int k a) (.int k b) : Sem Value).run P w = .ok v w ∧ VR G w p v := by
  have hg : (eqGuard op t x y (.int k a) (.int k b)).run P w = .ok () w := by
    unfold eqGuard
    cases op <;> rfl
  simp only [Sem.run_bind, hg, Result.andThen_ok]
  cases op <;> simp only [binI] at h <;> first
    | (cases h; refine ⟨_, ?_, VR.int_mk⟩; simp [binOp, Op.intArith, Op.intCmp, Op.intBits]; done)
    | (cases h; refine ⟨_, ?_, VR.bool_mk⟩; simp [binOp, Op.intArith, Op.intCmp, Op.intBits]; done)
    | (split at h
       · cases h
       · rename_i hy
         cases h
         refine ⟨_, ?_, VR.int_mk⟩
         simp [binOp, Op.intDiv, Op.shift, hy])
    | cases h
end
end Go.Den
end
section
namespace Go.Den
section
variable {P : Program} {B0 : Nat} {w0 : World} {G : Gh} {st : St} {w : World} {tm : List PV} {a : Act} {o : Oper} {E : Env} {rec : Rec} {v : PV} {st' : St}
def OpRun (P : Program) (a : Act) (o : Oper) (w : World) : Result Next := (execOp a.eval o).run P w
theorem OpRun.val {x : Sem Value} {u : Value} {w' : World} (h : execOp a.eval o = (do pure (.value (← x)))) (hx : x.run P w = .ok u w') : OpRun P a o w = .ok (.value u) w' := by
 unfold OpRun; rw [h]; simp [hx]
theorem OpRun.unit {x : Sem Unit} {w' : World} (h : execOp a.eval o = (do x; pure .skip)) (hx : x.run P w = .ok () w') : OpRun P a o w = .ok .skip w' := by
 unfold OpRun; rw [h]; simp [hx]
theorem ok_move (hw : WR P B0 w0 G st.heap w) (ht : VRL G w tm a.tmps.toList) {x : Operand} {d : Opd} (ho : o.op = .move x ∨ o.op = .assign x) (hd : opd x = some d)
  (hs : stepOp E rec tm st (.val d) = some (.val v st')) : Yields P B0 w0 G st w v st' (OpRun P a o w) := by
 simp only [stepOp] at hs
 cases hs
 refine .pure hw ?_ (opd_ok ht hd)
 unfold OpRun execOp
 rcases ho with h | h <;> rw [h] <;> rfl
theorem ok_pick (hw : WR P B0 w0 G st.heap w) (ht : VRL G w tm a.tmps.toList) {x y z : Operand} {d e f : Opd} (ho : o.op = .pick x y z) (hd : opd x = some d) (he : opd y = some e) (hf : opd z = some f)
  (hs : stepOp E rec tm st (.pick d e f) = some (.val v st')) : Yields P B0 w0 G st w v st' (OpRun P a o w) := by
 simp only [stepOp] at hs
 split at hs
 ·rename_i t hev
  cases hs
  have h1 := (hev ▸ opd_ok ht hd).bool_inv
  refine .pure hw (v := if t then a.eval y else a.eval z) ?_ ?_
  ·unfold OpRun execOp
   rw [ho]
   cases t <;> simp [asBool, h1]
  ·cases t
   ·exact opd_ok ht hf
   ·exact opd_ok ht he
 ·cases hs
theorem ok_new {t : TypeId} {cs : List PV} {u : Value} (hw : WR P B0 w0 G st.heap w) (hc : VRL G w cs u.cells.toList)
  (hr : OpRun P a o w = .ok (.value (.pointer (some ⟨w.heap.size, 0, none⟩))) (w.alloc (.cells u.cells t))) :
  Yields P B0 w0 G st w (.ptr st.heap.length 0) { st with heap := st.heap ++ [.var cs] } (OpRun P a o w) := by
 obtain ⟨h1, h2⟩ := alloc_obj hw (.var cs) (.cells u.cells t) (fun G' w' hp hh _ => ⟨_, _, hh, hc.mono hp⟩)
 refine ⟨_, _, h1, h2 _, Nat.le_refl _, .inl ⟨_, hr, ?_⟩⟩
 simp only [VR]
 exact ⟨_, upd_same _ _ _, rfl⟩
theorem ok_box (hw : WR P B0 w0 G st.heap w) (ht : VRL G w tm a.tmps.toList) {t : TypeId} {x : Operand} {d : Opd} (ho : o.op = .box t x) (hd : opd x = some d)
  (hs : stepOp E rec tm st (.box d) = some (.val v st')) : Yields P B0 w0 G st w v st' (OpRun P a o w) := by
 simp only [stepOp] at hs
 cases hs
 refine ok_new (t := t) (u := a.eval x) hw (opd_ok ht hd).cells ?_
 unfold OpRun execOp
 rw [ho]
 simp [Instr.box, newVar, newRow]
theorem zeroT_run {t : TypeId} {z : List PV} (h : zeroT P t = some z) (w : World) : ∃ u, (zeroValue t).run P w = .ok u w ∧ cells0 u.cells.toList = some z ∧ ∃ i, P.info? t = some i ∧ i.zero = some u := by
 unfold zeroT at h
 split at h
 ·rename_i u hu
  obtain ⟨i, h1, h2⟩ := Option.bind_eq_some_iff.1 hu
  refine ⟨u, ?_, h, i, h1, h2⟩
  unfold zeroValue
  simp [run_typeInfo w h1, h2]
 ·cases h
theorem ok_alloc (hw : WR P B0 w0 G st.heap w) {t : TypeId} {z : List PV} (ho : o.op = .alloc t) (hz : zeroT P t = some z)
  (hs : stepOp E rec tm st (.alloc z) = some (.val v st')) : Yields P B0 w0 G st w v st' (OpRun P a o w) := by
 simp only [stepOp] at hs
 cases hs
 obtain ⟨u, h1, h2, _⟩ := zeroT_run hz w
 refine ok_new (t := t) (u := u) hw (cells0_ok h2) ?_
 unfold OpRun execOp
 rw [ho]
 simp [Instr.alloc, newVar, newRow, h1]
theorem foldl_set (l : List Value) : ∀ (k : Nat) (cs : Array Value) (off : Nat), off + k + l.length ≤ cs.size →
  ((l.zipIdx k).foldl (fun cs (c, j) => cs.setIfInBounds (off + j) c) cs).toList = cs.toList.take (off + k) ++ l ++ cs.toList.drop (off + k + l.length) := by
 induction l with
 | nil => intro k cs off h; simp
 | cons x l ih =>
  intro k cs off h
  simp only [List.zipIdx_cons, List.foldl_cons]
  rw [ih (k + 1) _ off (by simp at h ⊢; omega)]
  simp only [Array.toList_setIfInBounds, List.length_cons]
  simp only [List.length_cons] at h
  have hlt : off + k < cs.toList.length := by simp; omega
  rw [show off + (k + 1) = off + k + 1 from by omega, show off + k + 1 + l.length = off + k + (l.length + 1) from by omega]
  rw [List.take_set, List.drop_set]
  rw [if_pos (by omega)]
  rw [List.take_succ_eq_append_getElem hlt]
  rw [List.set_append]
  simp
  rw [Nat.min_eq_left (by omega)]
  simp
theorem VRL.splice {cs p : List PV} {vs us : List Value} {off : Nat} (h : VRL G w cs vs) (h' : VRL G w p us) : VRL G w (Den.splice cs off p) (vs.take off ++ us ++ vs.drop (off + us.length)) := by
 unfold Den.splice
 rw [h'.length]
 exact ((h.take off).append h').append (h.drop _)
theorem fill_ok (ht : VRL G w tm a.tmps.toList) {t : TypeId} (place : Nat → Option (Nat × Nat)) (hp : ∀ i x, placeOf P t i = some x → place i = some x) :
  ∀ {ps : List (Nat × Operand)} {ds : List (Nat × Nat × Opd)} {cs cs' : List PV} {arr : Array Value}, partsC P t ps = some ds → VRL G w cs arr.toList → fillD tm cs ds = some cs' →
   ∃ arr', Instr.fill place arr (ps.map fun (i, x) => (i, a.eval x)) = some arr' ∧ VRL G w cs' arr'.toList
 | [], ds, cs, cs', arr, h, hc, hf => by
  simp only [partsC] at h; cases h
  simp only [fillD] at hf; cases hf
  exact ⟨arr, rfl, hc⟩
 | (i, x) :: ps, ds, cs, cs', arr, h, hc, hf => by
  simp only [partsC] at h
  split at h
  ·rename_i off s y ps' h1 h2 h3
   cases h
   simp only [fillD] at hf
   split at hf
   ·rename_i hcond
    obtain ⟨hlen, hle⟩ := hcond
    have hy := (opd_ok ht h2).cells
    have hyl := hy.length
    have hcl := hc.length
    have hx : (a.eval x).cells.size = s := by rw [← Array.length_toList, hyl, hlen]
    have hfold := foldl_set (a.eval x).cells.toList 0 arr off (by simp at hcl ⊢; omega)
    simp only [Nat.add_zero] at hfold
    have hnew : VRL G w (Den.splice cs off (y.ev tm).cells) (((a.eval x).cells.toList.zipIdx.foldl (fun cs (c, j) => cs.setIfInBounds (off + j) c) arr).toList) := by
     rw [hfold]; exact hc.splice hy
    obtain ⟨arr', h4, h5⟩ := fill_ok ht place hp h3 hnew hf
    refine ⟨arr', ?_, h5⟩
    simp only [List.map_cons, Instr.fill, hp i _ h1]
    rw [if_neg (by simp [hx]; simp at hcl; omega)]
    rw [← h4]
    congr 1
    rw [← Array.foldl_toList, Array.toList_zipIdx]
   ·cases hf
  ·cases h
theorem run_mapM_sizes (fields : Array Field) (w : World) (h : ∀ f ∈ fields.toList, (P.info? f.type).isSome = true) : ∃ places : Array (Nat × Nat),
  (fields.mapM (fun (f : Field) => do pure (f.offset, ← sizeOf f.type)) : Sem (Array (Nat × Nat))).run P w = .ok places w ∧ ∀ (i : Nat) (f : Field) (s : Nat), fields[i]? = some f → sizeT P f.type = some s → places[i]? = some (f.offset, s) := by
 rw [Array.mapM_eq_mapM_toList]
 have key : ∀ (l : List Field), (∀ f ∈ l, (P.info? f.type).isSome = true) → ∃ places : List (Nat × Nat), (l.mapM (fun (f : Field) => do pure (f.offset, ← sizeOf f.type)) : Sem (List (Nat × Nat))).run P w = .ok places w ∧
   ∀ (i : Nat) (f : Field) (s : Nat), l[i]? = some f → sizeT P f.type = some s → places[i]? = some (f.offset, s) := by
  intro l
  induction l with
  | nil => intro _; exact ⟨[], by simp, fun i f s hf => by simp at hf⟩
  | cons f l ih =>
   intro hl
   obtain ⟨ps, h1, h2⟩ := ih (fun g hg => hl g (by simp [hg]))
   obtain ⟨i, hi⟩ := Option.isSome_iff_exists.1 (hl f (by simp))
   have hs : sizeT P f.type = some i.size := by unfold sizeT; rw [hi]; rfl
   refine ⟨(f.offset, i.size) :: ps, ?_, fun j g s hg hgs => ?_⟩
   ·simp only [List.mapM_cons, Sem.run_bind, sizeOf_run hs, Result.andThen_ok, Sem.run_pure, h1]
   ·cases j with
    | zero => simp at hg; subst hg; rw [hs] at hgs; cases hgs; rfl
    | succ j => simpa using h2 j g s (by simpa using hg) hgs
 obtain ⟨ps, h1, h2⟩ := key fields.toList h
 refine ⟨ps.toArray, ?_, fun i f s hf hs => by simpa using h2 i f s (by simpa using hf) hs⟩
 rw [Sem.run_map, h1]
 rfl
theorem ok_build (hw : WR P B0 w0 G st.heap w) (ht : VRL G w tm a.tmps.toList) {t : TypeId} {parts : Array (Nat × Operand)} {z : List PV} {ds : List (Nat × Nat × Opd)} (ho : o.op = .build t parts)
  (hz : zeroT P t = some z) (hd : partsC P t parts.toList = some ds)
  (hu : (∃ fields, P.underlying t = some (.struct fields) ∧ fields.toList.all (fun f => (P.info? f.type).isSome) = true) ∨ ∃ n e s, P.underlying t = some (.array n e) ∧ sizeT P e = some s)
  (hs : stepOp E rec tm st (.build z ds) = some (.val v st')) : Yields P B0 w0 G st w v st' (OpRun P a o w) := by
 simp only [stepOp] at hs
 split at hs
 ·rename_i cs hf
  cases hs
  obtain ⟨u, z1, z2, _⟩ := zeroT_run hz w
  have hzr : VRL G w z u.cells.toList := cells0_ok z2
  have hmap : (parts.map fun (i, x) => (i, a.eval x)).toList = parts.toList.map fun (i, x) => (i, a.eval x) := by simp
  rcases hu with ⟨fields, hu, hall⟩ | ⟨n, e, s, hu, hsz'⟩
  ·obtain ⟨places, h1, h2⟩ := run_mapM_sizes (P := P) fields w (List.all_eq_true.1 hall)
   obtain ⟨arr', h3, h4⟩ := fill_ok (P := P) ht (t := t) (fun i => places[i]?) (fun i x hx => by
    unfold placeOf at hx
    simp only [hu] at hx
    split at hx
    ·rename_i f hf
     obtain ⟨inf, h5, h6⟩ := Option.map_eq_some_iff.1 hx
     subst h6
     exact h2 i f inf.size hf (by unfold sizeT; rw [h5]; rfl)
    ·cases hx) hd hzr hf
   refine .pure hw (v := .agg arr') ?_ (by simp only [VR]; exact ⟨_, rfl, h4⟩)
   refine OpRun.val (by unfold execOp; rw [ho]) ?_
   unfold Instr.build
   simp only [Sem.run_bind, z1, Result.andThen_ok, run_underlying hu, h1, hmap, h3, Sem.run_pure]
  ·have hsz : ∀ i x, placeOf P t i = some x → ∃ s, sizeT P e = some s ∧ x = (i * s, s) := by
    intro i x hx
    unfold placeOf at hx
    simp only [hu] at hx
    obtain ⟨inf, h5, h6⟩ := Option.map_eq_some_iff.1 hx
    exact ⟨inf.size, by unfold sizeT; rw [h5]; rfl, h6.symm⟩
   obtain ⟨arr', h3, h4⟩ := fill_ok (P := P) ht (t := t) (fun i => some (i * s, s)) (fun i x hx => by
    obtain ⟨s', h5, h6⟩ := hsz i x hx
    rw [hsz'] at h5; cases h5; rw [h6]) hd hzr hf
   refine .pure hw (v := .agg arr') ?_ (by simp only [VR]; exact ⟨_, rfl, h4⟩)
   refine OpRun.val (by unfold execOp; rw [ho]) ?_
   unfold Instr.build
   simp only [Sem.run_bind, z1, Result.andThen_ok, run_underlying hu, sizeOf_run hsz', hmap, h3, Sem.run_pure]
 ·cases hs
end
end Go.Den
end

/- Part of the proof that for every input the function ChestFaulty returns true and each argument reads as it did. Texts: DenOpsF. -/
import Derived.Test.YtoeigapilcgelaaGreatDoorFAi
set_option linter.unusedSimpArgs false
set_option linter.unusedVariables false
section
namespace Go.Den
section
variable {P : Program} {B0 : Nat} {w0 : World} {G : Gh} {st : St} {w : World} {tm : List PV} {a : Act} {o : Oper} {E : Env} {rec : Rec} {v : PV} {st' : St}
theorem checkKey_ok {t : TypeId} {fields : Array Field} {xs : Array Value} {l : List Int} (emp : Bool) (hu : P.underlying t = some (.struct fields)) (hi : intFields P fields.toList = true) (hoff : offsFrom 0 fields.toList = true)
    (hl : l.length = fields.size) (hx : xs.toList = l.map (Value.int .i64)) : (Instr.checkKey emp 10000 t (.agg xs)).run P w = .ok () w := by
  have key : ∀ (d : Nat) (fs : List Field) (k : Nat) (l : List Int), intFields P fs = true → offsFrom k fs = true → l.length = fs.length → (∀ i n, l[i]? = some n → xs[k + i]? = some (.int .i64 n)) →
      (forIn fs PUnit.unit (fun f _ => if f.name ≠ "_" then do Instr.checkKey emp (d + 1) f.type (← part f.type xs f.offset); pure (ForInStep.yield PUnit.unit) else pure (ForInStep.yield PUnit.unit)) : Sem PUnit).run P w = .ok PUnit.unit w := by
    intro d fs
    induction fs with
    | nil => intro k l _ _ _ _; simp
    | cons f fs ih =>
      intro k l hi hoff hl hx
      cases l with
      | nil => simp at hl
      | cons n l =>
        obtain ⟨h1, h2⟩ := intFields_spec hi f (by simp)
        simp only [offsFrom, Bool.and_eq_true, beq_iff_eq] at hoff
        have hagg : (isAgg f.type).run P w = .ok false w := by unfold isAgg; simp [run_underlying h2]
        have p1 : (part f.type xs f.offset).run P w = .ok (.int .i64 n) w := by
          unfold part; simp [hagg, hoff.1, show xs[k]? = some (.int .i64 n) from hx 0 n rfl]
        have hi' : intFields P fs = true := by
          unfold intFields at hi ⊢
          rw [List.all_cons, Bool.and_eq_true] at hi
          exact hi.2
        have hck : (Instr.checkKey emp (d + 1) f.type (.int .i64 n)).run P w = .ok () w := by
          simp [Instr.checkKey, run_underlying h2]
        have := ih (k + 1) l hi' hoff.2 (by simpa using hl) (fun i q hq => by have := hx (i + 1) q (by simpa using hq); rwa [show k + (i + 1) = k + 1 + i from by omega] at this)
        simp only [List.forIn_cons, Sem.run_bind, ne_eq, h1, not_false_eq_true, if_true, p1, Result.andThen_ok, hck, Sem.run_pure]
        exact this
  rw [show (10000 : Nat) = 9999 + 1 from rfl]
  unfold Instr.checkKey
  simp only [Sem.run_bind, run_underlying hu, Result.andThen_ok]
  rw [← Array.forIn_toList]
  have := key 9998 fields.toList 0 l hi hoff (by simpa using hl) (fun i n hn => by rw [Nat.zero_add, ← Array.getElem?_toList, hx]; simp [hn])
  simp only [this, Result.andThen_ok, Sem.run_pure]
theorem ints_length : ∀ {ps : List PV} {l : List Int}, ints ps = some l → l.length = ps.length
  | [], l, h => by simp only [ints] at h; cases h; rfl
  | p :: ps, l, h => by
    unfold ints at h
    split at h
    · rename_i h0; cases h0
    · rename_i h0; cases h0
      obtain ⟨l', h3, h4⟩ := Option.map_eq_some_iff.1 h
      subst h4
      simp [ints_length h3]
    · cases h
theorem findAsking_ok {t : TypeId} {fields : Array Field} {kv : Array Value} {ki : List Int} (hu : P.underlying t = some (.struct fields)) (hi : intFields P fields.toList = true) (hoff : offsFrom 0 fields.toList = true) (hst : P.stoodInHeld t = false)
    (hl : ki.length = fields.size) (hk : kv.toList = ki.map (Value.int .i64)) : ∀ (es : List (PV × PV)) (ms : List MapEntry) (i : Nat) (r : Option Nat), EsR G w es ms → findKey ki es i = some r →
      ∃ q, (Instr.findAsking t (.agg kv) ms i).run P w = .ok q w ∧ (match r with | some j => ∃ x, q = some (j, x) ∧ i ≤ j ∧ ∃ e, es[j - i]? = some e ∧ VR G w e.2 x | none => q = none)
  | [], ms, i, r, hr, h => by
    simp only [findKey] at h; cases h
    have : ms = [] := hr
    subst this
    exact ⟨none, rfl, rfl⟩
  | (k', v') :: es, ms, i, r, hr, h => by
    obtain ⟨e, ms', rfl, h1, h2, h3⟩ := hr
    cases k' with
    | agg cs =>
      simp only [findKey] at h
      simp only [VR] at h1
      obtain ⟨xs, hx1, hx2⟩ := h1
      split at h
      · rename_i l hll
        split at h
        · rename_i hlen0
          have hxs := ints_inv hll hx2
          have hlen : l.length = fields.size := by omega
          have heq := equal_struct (P := P) (w := w) hu hi hoff hst hl hlen hk hxs
          have hrun : (Op.equal t (.agg kv) e.key).run P w = .ok (ki == l) w := by rw [hx1]; unfold Op.equal Op.maxDepth; exact heq
          split at h
          · rename_i hlk
            cases h
            subst hlk
            refine ⟨some (i, e.val), ?_, e.val, rfl, Nat.le_refl _, (PV.agg cs, v'), by simp, h2⟩
            simp [Instr.findAsking, hrun]
          · rename_i hlk
            obtain ⟨q, h4, h5⟩ := findAsking_ok hu hi hoff hst hl hk es ms' (i + 1) r h3 h
            refine ⟨q, ?_, ?_⟩
            · have : (ki == l) = false := by simp; exact fun e => hlk e.symm
              simp [Instr.findAsking, hrun, this, h4]
            · cases r with
              | none => exact h5
              | some j =>
                obtain ⟨x, h6, h7, e', h8, h9⟩ := h5
                refine ⟨x, h6, by omega, e', ?_, h9⟩
                rw [show j - i = j - (i + 1) + 1 from by omega]
                simpa using h8
        · cases h
      · cases h
    | _ => simp only [findKey] at h; cases h
theorem findKey_run {t : TypeId} {fields : Array Field} {k : Value} {ms : List MapEntry} (hu : P.underlying t = some (.struct fields)) : (Instr.findKey t k ms).run P w = (Instr.findAsking t k ms 0).run P w := by
  unfold Instr.findKey
  simp only [Sem.run_bind, run_underlying hu, Result.andThen_ok]
  cases ms with
  | nil => simp [Instr.findNow, Instr.findAsking]
  | cons e ms =>
    have : Instr.findNow (.struct fields) k (e :: ms) 0 = none := by
      simp only [Instr.findNow, Instr.sameNow]
    rw [this]
theorem ok_lookup (hw : WR P B0 w0 G st.heap w) (ht : VRL G w tm a.tmps.toList) {t kt e : TypeId} {m k : Operand} {ok : Bool} {fields : Array Field} {zv : Value} {z : PV} {d g : Opd} (ho : o.op = .lookup t m k ok) (hut : P.underlying t = some (.map kt e)) (hu : P.underlying kt = some (.struct fields)) (hi : intFields P fields.toList = true) (hoff : offsFrom 0 fields.toList = true) (hst : P.stoodInHeld kt = false)
    (hze : (P.info? e).bind (·.zero) = some zv) (hz : const0 zv = some z) (hd : opd m = some d) (hg : opd k = some g)
    (hs : stepOp E rec tm st (.lookup fields.size z d g ok) = some (.val v st')) : Yields P B0 w0 G st w v st' (OpRun P a o w) := by
  have hm := opd_ok ht hd
  have hk := opd_ok ht hg
  simp only [stepOp] at hs
  split at hs
  · rename_i l kc h1 h2
    rw [h1] at hm
    rw [h2] at hk
    simp only [VR] at hm hk
    obtain ⟨b, hb1, hb2⟩ := hm
    obtain ⟨kv, hk1, hk2⟩ := hk
    split at hs
    · rename_i es hh
      obtain ⟨_, hbl, _, _, ob, hob, hor⟩ := hw.obj hb1
      rw [hh] at hob; cases hob
      obtain ⟨ents, clock, hhp, hes⟩ := hor
      split at hs
      · rename_i ki hki
        split at hs
        · rename_i hlen
          have hget : (getObj b).run P w = .ok (.map ents clock) w := by simp [getObj, Sem.run, hhp]
          have hkv := ints_inv hki hk2
          have hck : ∀ emp, (Instr.checkKey emp 10000 kt (.agg kv)).run P w = .ok () w := fun emp => checkKey_ok emp hu hi hoff hlen hkv
          obtain ⟨i, hi1, hi2⟩ := Option.bind_eq_some_iff.1 hze
          have hzr : (zeroValue e).run P w = .ok zv w := by unfold zeroValue; simp [run_typeInfo w hi1, hi2]
          split at hs
          · rename_i j hf
            obtain ⟨en, he1, he2⟩ := Option.map_eq_some_iff.1 hs
            cases he2
            obtain ⟨q, hq1, x, hq2, _, e', he3, hx⟩ := findAsking_ok (P := P) hu hi hoff hst hlen hkv es ents.toList 0 (some j) hes hf
            simp only [Nat.sub_zero] at he3
            rw [he1] at he3; cases he3
            subst hq2
            refine .pure hw (v := if ok then .tuple #[x, .bool true] else x) (OpRun.val (by unfold execOp; rw [ho]) ?_) ?_
            · unfold Instr.lookup
              simp only [Sem.run_bind, run_underlying hut, Result.andThen_ok, hb2, hget, hck, hk1, findKey_run hu, hq1, Sem.run_pure]
            · cases ok
              · exact hx
              · simp only [if_true, VR]
                exact ⟨_, rfl, VRL.cons hx (VRL.cons VR.bool_mk (VRL.nil_iff.2 rfl))⟩
          · rename_i hf
            cases hs
            obtain ⟨q, hq1, hq2⟩ := findAsking_ok (P := P) hu hi hoff hst hlen hkv es ents.toList 0 none hes hf
            simp only at hq2
            subst hq2
            refine .pure hw (v := if ok then .tuple #[zv, .bool false] else zv) (OpRun.val (by unfold execOp; rw [ho]) ?_) ?_
            · unfold Instr.lookup
              simp only [Sem.run_bind, run_underlying hut, Result.andThen_ok, hb2, hget, hck, hk1, findKey_run hu, hq1, Sem.run_pure, hzr]
            · cases ok
              · exact const0_ok hz
              · simp only [if_true, VR]
                exact ⟨_, rfl, VRL.cons (const0_ok hz) (VRL.cons VR.bool_mk (VRL.nil_iff.2 rfl))⟩
          · cases hs
        · cases hs
      · cases hs
    · cases hs
  · cases hs
theorem EsR.snoc : ∀ {es : List (PV × PV)} {ms : List MapEntry} {k x : PV} {e : MapEntry}, EsR G w es ms → VR G w k e.key → VR G w x e.val → EsR G w (es ++ [(k, x)]) (ms ++ [e])
  | [], ms, k, x, e, h, h1, h2 => by
    have : ms = [] := h
    subst this
    exact ⟨e, [], rfl, h1, h2, rfl⟩
  | (k', v') :: es, ms, k, x, e, h, h1, h2 => by
    obtain ⟨e', ms', rfl, a1, a2, a3⟩ := h
    exact ⟨e', ms' ++ [e], rfl, a1, a2, EsR.snoc a3 h1 h2⟩
theorem ok_mapUpdate (hw : WR P B0 w0 G st.heap w) (ht : VRL G w tm a.tmps.toList) {t kt e : TypeId} {m k x : Operand} {fields : Array Field} {d g f : Opd} (ho : o.op = .mapUpdate t m k x) (hut : P.underlying t = some (.map kt e)) (hu : P.underlying kt = some (.struct fields)) (hi : intFields P fields.toList = true) (hoff : offsFrom 0 fields.toList = true) (hst : P.stoodInHeld kt = false)
    (hd : opd m = some d) (hg : opd k = some g) (hf0 : opd x = some f)
    (hs : stepOp E rec tm st (.mapUpdate fields.size d g f) = some (.val v st')) : Yields P B0 w0 G st w v st' (OpRun P a o w) := by
  have hm := opd_ok ht hd
  have hk := opd_ok ht hg
  have hxv := opd_ok ht hf0
  simp only [stepOp] at hs
  split at hs
  · rename_i l kc h1 h2
    rw [h1] at hm
    rw [h2] at hk
    have hk0 := hk
    simp only [VR] at hm hk
    obtain ⟨b, hb1, hb2⟩ := hm
    obtain ⟨kv, hk1, hk2⟩ := hk
    split at hs
    · rename_i es hh
      obtain ⟨_, hbl, _, _, ob, hob, hor⟩ := hw.obj hb1
      rw [hh] at hob; cases hob
      obtain ⟨ents, clock, hhp, hes⟩ := hor
      split at hs
      · rename_i ki hki
        split at hs
        · rename_i hlen
          have hget : (getObj b).run P w = .ok (.map ents clock) w := by simp [getObj, Sem.run, hhp]
          have hkv := ints_inv hki hk2
          have hck : (Instr.checkKey false 10000 kt (.agg kv)).run P w = .ok () w := checkKey_ok false hu hi hoff hlen hkv
          split at hs
          · rename_i hf
            cases hs
            obtain ⟨q, hq1, hq2⟩ := findAsking_ok (P := P) hu hi hoff hst hlen hkv es ents.toList 0 none hes hf
            simp only at hq2
            subst hq2
            obtain ⟨g1, g2⟩ := set_obj hw hb1 (.map (es ++ [(.agg kc, f.ev tm)])) (.map (ents.push { key := .agg kv, val := a.eval x, born := clock }) (clock + 1)) (fun _ _ _ hh => by rw [hhp] at hh; cases hh) (fun _ hh => by rw [hhp] at hh; cases hh)
              (fun w' hp hh => ⟨_, _, hh, by
                rw [Array.toList_push]
                exact EsR.snoc (hes.mono hp) (by rw [hk1] at hk0; exact hk0.mono hp) (hxv.mono hp)⟩)
            have hset : (setObj b (.map (ents.push { key := .agg kv, val := a.eval x, born := clock }) (clock + 1))).run P w = .ok () (w.putObj b (.map (ents.push { key := .agg kv, val := a.eval x, born := clock }) (clock + 1))) := by
              simp [setObj, Sem.run, hhp, World.putObj]
            refine ⟨G, _, g1, g2 _ (Nat.min_le_right _ _), Nat.min_le_left _ _, .inr ⟨OpRun.unit (by unfold execOp; rw [ho]) ?_, rfl⟩⟩
            unfold Instr.mapUpdate
            simp only [Sem.run_bind, run_underlying hut, Result.andThen_ok, hb2, hget, hck, hk1, findKey_run hu, hq1, hset]
          · cases hs
        · cases hs
      · cases hs
    · cases hs
  · cases hs
end
end Go.Den
end

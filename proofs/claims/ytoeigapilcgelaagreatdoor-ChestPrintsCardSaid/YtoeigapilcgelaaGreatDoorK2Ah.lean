/- Part of the proofs of laws of the package chest: the interpreter Den, its soundness, and contracts of the program's functions over it. Texts: DenOpsD. -/
import Derived.Test.YtoeigapilcgelaaGreatDoorK2Ag
set_option linter.unusedSimpArgs false
set_option linter.unusedVariables false
section
namespace Go.Den
section
variable {P : Program} {B0 : Nat} {w0 : World} {G : Gh} {st : St} {w : World} {tm : List PV} {a : Act} {o : Oper} {E : Env} {rec : Rec} {v : PV} {st' : St}
theorem ok_nilCheck (hw : WR P B0 w0 G st.heap w) (ht : VRL G w tm a.tmps.toList) {x : Operand} {d : Opd} (ho : o.op = .nilCheck x) (hd : opd x = some d)
  (hs : stepOp E rec tm st (.nilCheck d) = some (.val v st')) : Yields P B0 w0 G st w v st' (OpRun P a o w) := by
 have hx := opd_ok ht hd
 simp only [stepOp] at hs
 split at hs
 ·rename_i l off hev
  cases hs
  rw [hev] at hx
  have h0 := hx
  simp only [VR] at hx
  obtain ⟨b, h1, h2⟩ := hx
  exact .pure hw (v := a.eval x) (by unfold OpRun execOp; rw [ho]; simp [h2]) h0
 ·rename_i cs hev
  cases hs
  rw [hev] at hx
  have h0 := hx
  simp only [VR] at hx
  obtain ⟨b, off, h2, _⟩ := hx
  exact .pure hw (v := a.eval x) (by unfold OpRun execOp; rw [ho]; simp [h2]) h0
 ·rename_i f fa fc hev
  cases hs
  rw [hev] at hx
  have h0 := hx
  simp only [VR] at hx
  obtain ⟨a', c', h2, _⟩ := hx
  exact .pure hw (v := a.eval x) (by unfold OpRun execOp; rw [ho]; simp [h2]) h0
 ·cases hs
theorem ok_binI (hw : WR P B0 w0 G st.heap w) (ht : VRL G w tm a.tmps.toList) {op : BinOp} {t u : TypeId} {x y : Operand} {d e : Opd} (ho : o.op = .binOp op t x y u) (hd : opd x = some d) (he : opd y = some e)
  (hs : stepOp E rec tm st (.binI op d e) = some (.val v st')) : Yields P B0 w0 G st w v st' (OpRun P a o w) := by
 have hx := opd_ok ht hd
 have hy := opd_ok ht he
 simp only [stepOp] at hs
 split at hs
 ·rename_i k m k' m' h1 h2
  split at hs
  ·rename_i hk
   subst hk
   obtain ⟨p, h3, h4⟩ := Option.map_eq_some_iff.1 hs
   cases h4
   rw [h1] at hx
   rw [h2] at hy
   obtain ⟨u, h5, h6⟩ := binI_ok (P := P) (G := G) (w := w) (t := t) h3 x y
   refine .pure hw (OpRun.val (by unfold execOp; rw [ho]) ?_) h6
   rw [hx.int_inv, hy.int_inv]
   exact h5
  ·cases hs
 ·cases hs
theorem ok_binS (hw : WR P B0 w0 G st.heap w) (ht : VRL G w tm a.tmps.toList) {op : BinOp} {t u : TypeId} {x y : Operand} {d e : Opd} (ho : o.op = .binOp op t x y u) (hd : opd x = some d) (he : opd y = some e)
  (hs : stepOp E rec tm st (.binS op d e) = some (.val v st')) : Yields P B0 w0 G st w v st' (OpRun P a o w) := by
 have hx := opd_ok ht hd
 have hy := opd_ok ht he
 simp only [stepOp] at hs
 split at hs
 ·rename_i s s' h1 h2
  obtain ⟨p, h3, h4⟩ := Option.map_eq_some_iff.1 hs
  cases h4
  rw [h1] at hx
  rw [h2] at hy
  have hg : (eqGuard op t x y (.string s) (.string s')).run P w = .ok () w := by unfold eqGuard; cases op <;> rfl
  have key : ∃ u, (binOp op t (.string s) (.string s')).run P w = .ok u w ∧ VR G w v u := by
   unfold binS at h3
   split at h3
   ·split at h3
    ·rename_i hle
     cases h3
     refine ⟨_, ?_, VR.str_mk⟩
     have h9 : (s.size : Int) + (s'.size : Int) ≤ 9223372036854775807 := by omega
     simp [binOp, Op.stringOp, h9]
    ·cases h3
   ·cases h3; exact ⟨_, by simp [binOp, Op.stringOp], VR.bool_mk⟩
   ·cases h3; exact ⟨_, by simp [binOp, Op.stringOp], VR.bool_mk⟩
   ·cases h3
  obtain ⟨u, h5, h6⟩ := key
  refine .pure hw (OpRun.val (by unfold execOp; rw [ho]) ?_) h6
  rw [hx.str_inv, hy.str_inv]
  simp [hg, h5]
 ·cases hs
theorem ok_binB (hw : WR P B0 w0 G st.heap w) (ht : VRL G w tm a.tmps.toList) {op : BinOp} {t u : TypeId} {x y : Operand} {d e : Opd} {neg : Bool} (ho : o.op = .binOp op t x y u) (hu : P.underlying t = some .bool) (hop : op = if neg then .neq else .eql) (hd : opd x = some d) (he : opd y = some e)
  (hs : stepOp E rec tm st (.binB neg d e) = some (.val v st')) : Yields P B0 w0 G st w v st' (OpRun P a o w) := by
 have hx := opd_ok ht hd
 have hy := opd_ok ht he
 simp only [stepOp] at hs
 split at hs
 ·rename_i s s' h1 h2
  cases hs
  rw [h1] at hx
  rw [h2] at hy
  have hg : ∀ op, (eqGuard op t x y (.bool s) (.bool s')).run P w = .ok () w := by intro op; unfold eqGuard; cases op <;> rfl
  refine .pure hw (OpRun.val (u := .bool (if neg then !(s == s') else s == s')) (by unfold execOp; rw [ho]) ?_) VR.bool_mk
  rw [hx.bool_inv, hy.bool_inv]
  have heq : (Op.equalIn 10000 t (.bool s) (.bool s')).run P w = .ok (s == s') w := run_equalIn_bool' (P := P) w 9999 t s s' hu
  subst hop
  cases neg <;> simp [hg, binOp, Op.equal, Op.maxDepth, heq]
 ·cases hs
theorem ints_inv : ∀ {ps : List PV} {l : List Int} {vs : List Value}, ints ps = some l → VRL G w ps vs → vs = l.map (Value.int .i64)
 | [], l, vs, h, hv => by simp only [ints] at h; cases h; exact VRL.nil_iff.1 hv
 | p :: ps, l, vs, h, hv => by
  obtain ⟨u, vs', rfl, h1, h2⟩ := VRL.cons_iff.1 hv
  unfold ints at h
  split at h
  ·rename_i h0; cases h0
  ·rename_i n r h0
   cases h0
   obtain ⟨l', h3, h4⟩ := Option.map_eq_some_iff.1 h
   subst h4
   rw [h1.int_inv, ints_inv h3 h2]
   rfl
  ·cases h
theorem intFields_spec {fs : List Field} (h : intFields P fs = true) : ∀ f ∈ fs, f.name ≠ "_" ∧ P.underlying f.type = some (.int .i64) := by
 intro f hf
 unfold intFields at h
 have := List.all_eq_true.1 h f hf
 simp only [Bool.and_eq_true, bne_iff_ne, ne_eq] at this
 refine ⟨this.1, ?_⟩
 have h2 := this.2
 split at h2
 ·assumption
 ·cases h2
theorem eqFields_ok {d : Nat} {xs ys : Array Value} : ∀ (fs : List Field) (k : Nat) (l m : List Int), intFields P fs = true → offsFrom k fs = true → l.length = fs.length → m.length = fs.length →
  (∀ i n, l[i]? = some n → xs[k + i]? = some (.int .i64 n)) → (∀ i n, m[i]? = some n → ys[k + i]? = some (.int .i64 n)) → (Op.eqFields (d + 1) xs ys fs).run P w = .ok (l == m) w
 | [], k, l, m, _, _, hl, hm, _, _ => by
  have : l = [] := List.eq_nil_of_length_eq_zero (by simpa using hl)
  have : m = [] := List.eq_nil_of_length_eq_zero (by simpa using hm)
  subst l; subst m
  simp [Op.eqFields]
 | f :: fs, k, [], m, _, _, hl, _, _, _ => by simp at hl
 | f :: fs, k, n :: l, [], _, _, _, hm, _, _ => by simp at hm
 | f :: fs, k, n :: l, n' :: m, hi, hoff, hl, hm, hx, hy => by
  obtain ⟨h1, h2⟩ := intFields_spec hi f (by simp)
  simp only [offsFrom, Bool.and_eq_true, beq_iff_eq] at hoff
  have hagg : (isAgg f.type).run P w = .ok false w := by unfold isAgg; simp [run_underlying h2]
  have p1 : (part f.type xs f.offset).run P w = .ok (.int .i64 n) w := by
   unfold part; simp [hagg, hoff.1, show xs[k]? = some (.int .i64 n) from hx 0 n rfl]
  have p2 : (part f.type ys f.offset).run P w = .ok (.int .i64 n') w := by
   unfold part; simp [hagg, hoff.1, show ys[k]? = some (.int .i64 n') from hy 0 n' rfl]
  have p3 := run_equalIn_int (P := P) w d f.type .i64 .i64 n n' h2
  have hi' : intFields P fs = true := by
   unfold intFields at hi ⊢
   rw [List.all_cons, Bool.and_eq_true] at hi
   exact hi.2
  have ih := eqFields_ok (d := d) (xs := xs) (ys := ys) fs (k + 1) l m hi' hoff.2 (by simpa using hl) (by simpa using hm)
   (fun i q hq => by have := hx (i + 1) q (by simpa using hq); rwa [show k + (i + 1) = k + 1 + i from by omega] at this)
   (fun i q hq => by have := hy (i + 1) q (by simpa using hq); rwa [show k + (i + 1) = k + 1 + i from by omega] at this)
  simp only [Op.eqFields, ne_eq, h1, not_false_eq_true, if_true, Sem.run_bind, p1, p2, p3, Result.andThen_ok, Sem.run_ite, ih, Sem.run_pure]
  by_cases hn : n = n'
  ·subst hn; simp
  ·simp [hn]
theorem equal_struct {t : TypeId} {fields : Array Field} {xs ys : Array Value} {l m : List Int} (hu : P.underlying t = some (.struct fields)) (hi : intFields P fields.toList = true) (hoff : offsFrom 0 fields.toList = true) (hst : P.stoodInHeld t = false)
  (hl : l.length = fields.size) (hm : m.length = fields.size) (hx : xs.toList = l.map (Value.int .i64)) (hy : ys.toList = m.map (Value.int .i64)) :
  (Op.equalIn 10000 t (.agg xs) (.agg ys)).run P w = .ok (l == m) w := by
 have hf : P.fieldsOf t = fields := by unfold Program.fieldsOf; rw [hu]
 rw [show (10000 : Nat) = 9999 + 1 from rfl, run_equalIn_struct w 9999 t xs ys (by rw [hf]; exact hu) hst, hf]
 refine eqFields_ok (d := 9998) fields.toList 0 l m hi hoff (by simpa using hl) (by simpa using hm) (fun i n hn => ?_) (fun i n hn => ?_)
 ·rw [Nat.zero_add, ← Array.getElem?_toList, hx]; simp [hn]
 ·rw [Nat.zero_add, ← Array.getElem?_toList, hy]; simp [hn]
theorem ok_eqAgg (hw : WR P B0 w0 G st.heap w) (ht : VRL G w tm a.tmps.toList) {op : BinOp} {t u : TypeId} {x y : Operand} {d e : Opd} {neg : Bool} {fields : Array Field} (ho : o.op = .binOp op t x y u) (hu : P.underlying t = some (.struct fields))
  (hi : intFields P fields.toList = true) (hoff : offsFrom 0 fields.toList = true) (hst : P.stoodInHeld t = false) (hg0 : P.eqGuardType P.depth t = false) (hop : op = if neg then .neq else .eql) (hd : opd x = some d) (he : opd y = some e)
  (hs : stepOp E rec tm st (.eqAgg neg fields.size d e) = some (.val v st')) : Yields P B0 w0 G st w v st' (OpRun P a o w) := by
 have hx := opd_ok ht hd
 have hy := opd_ok ht he
 simp only [stepOp] at hs
 split at hs
 ·rename_i s s' h1 h2
  rw [h1] at hx
  rw [h2] at hy
  simp only [VR] at hx hy
  obtain ⟨xs, hx1, hx2⟩ := hx
  obtain ⟨ys, hy1, hy2⟩ := hy
  split at hs
  ·rename_i l m hl hm
   split at hs
   ·rename_i hlen
    cases hs
    have heq := equal_struct (P := P) (w := w) hu hi hoff hst hlen.1 hlen.2 (ints_inv hl hx2) (ints_inv hm hy2)
    have hg := run_eqGuard_agg (P := P) w op t x y xs ys hg0
    refine .pure hw (OpRun.val (u := .bool (if neg then !(l == m) else l == m)) (by unfold execOp; rw [ho]) ?_) VR.bool_mk
    rw [hx1, hy1]
    simp only [Sem.run_bind, hg, Result.andThen_ok]
    subst hop
    cases neg <;> simp [binOp, Op.equal, Op.maxDepth, heq]
   ·cases hs
  ·cases hs
 ·cases hs
theorem const_nilS {y : Operand} (h : opd y = some (.c .nilslice)) : y = .const (.slice none 0 0) := by
 unfold opd at h
 split at h
 ·cases h
 ·rename_i v
  obtain ⟨p, h1, h2⟩ := Option.map_eq_some_iff.1 h
  cases h2
  unfold const0 at h1
  split at h1
  ·rename_i cs; obtain ⟨_, _, h3⟩ := Option.map_eq_some_iff.1 h1; cases h3
  ·unfold cell0 at h1
   split at h1 <;> first | rfl | cases h1
 ·cases h
 ·cases h
theorem ok_isNilS (hw : WR P B0 w0 G st.heap w) (ht : VRL G w tm a.tmps.toList) {op : BinOp} {t u e : TypeId} {x y : Operand} {d : Opd} {neg : Bool} (ho : o.op = .binOp op t x y u) (hu : P.underlying t = some (.slice e)) (hop : op = if neg then .neq else .eql) (hd : opd x = some d) (he : opd y = some (.c .nilslice))
  (hs : stepOp E rec tm st (.isNilS neg d) = some (.val v st')) : Yields P B0 w0 G st w v st' (OpRun P a o w) := by
 have hx := opd_ok ht hd
 have hy := const_nilS he
 subst hy
 have core : ∀ (b : Option Addr) (n c : Nat), a.eval x = .slice b n c → OpRun P a o w = .ok (.value (.bool (if neg then !b.isNone else b.isNone))) w := by
  intro b n c hb
  refine OpRun.val (by unfold execOp; rw [ho]) ?_
  have hg : (eqGuard op t x (.const (.slice none 0 0)) (.slice b n c) (.slice none 0 0)).run P w = .ok () w := by unfold eqGuard; cases op <;> rfl
  have heq0 : ∀ d, (Op.equalIn (d + 1) t (.slice b n c) (.slice none 0 0)).run P w = .ok b.isNone w := by
   intro d
   cases b <;> simp [Op.equalIn, run_underlying hu]
  have heq : (Op.equalIn 10000 t (.slice b n c) (.slice none 0 0)).run P w = .ok b.isNone w := heq0 9999
  rw [hb]
  simp only [Act.eval, Sem.run_bind, hg, Result.andThen_ok]
  subst hop
  cases neg <;> simp [binOp, Op.equal, Op.maxDepth, heq]
 simp only [stepOp] at hs
 split at hs
 ·rename_i hev
  cases hs
  rw [hev] at hx
  simp only [VR] at hx
  refine .pure hw (core none 0 0 hx) ?_
  cases neg <;> exact VR.bool_mk
 ·rename_i o' n cs hev
  cases hs
  rw [hev] at hx
  simp only [VR] at hx
  obtain ⟨b, off, cap, h1, _⟩ := hx
  refine .pure hw (core _ _ _ h1) ?_
  cases neg <;> exact VR.bool_mk
 ·cases hs
theorem ok_not (hw : WR P B0 w0 G st.heap w) (ht : VRL G w tm a.tmps.toList) {t : TypeId} {x : Operand} {d : Opd} (ho : o.op = .unOp .not t x) (hd : opd x = some d)
  (hs : stepOp E rec tm st (.not d) = some (.val v st')) : Yields P B0 w0 G st w v st' (OpRun P a o w) := by
 have hx := opd_ok ht hd
 simp only [stepOp] at hs
 split at hs
 ·rename_i b hev
  cases hs
  rw [hev] at hx
  exact .pure hw (OpRun.val (u := .bool !b) (by unfold execOp; rw [ho]) (by rw [hx.bool_inv]; simp [Op.unary])) VR.bool_mk
 ·cases hs
theorem ok_neg (hw : WR P B0 w0 G st.heap w) (ht : VRL G w tm a.tmps.toList) {t : TypeId} {x : Operand} {d : Opd} (ho : o.op = .unOp .neg t x) (hd : opd x = some d)
  (hs : stepOp E rec tm st (.neg d) = some (.val v st')) : Yields P B0 w0 G st w v st' (OpRun P a o w) := by
 have hx := opd_ok ht hd
 simp only [stepOp] at hs
 split at hs
 ·rename_i k n hev
  cases hs
  rw [hev] at hx
  exact .pure hw (OpRun.val (u := .int k (k.wrap (0 - n))) (by unfold execOp; rw [ho]) (by rw [hx.int_inv]; simp [Op.unary, Op.intArith])) VR.int_mk
 ·cases hs
theorem ok_toInt (hw : WR P B0 w0 G st.heap w) (ht : VRL G w tm a.tmps.toList) {s t : TypeId} {k0 k : IntKind} {x : Operand} {d : Opd} (ho : o.op = .convert s t x) (hsrc : P.underlying s = some (.int k0)) (hdst : P.underlying t = some (.int k)) (hd : opd x = some d)
  (hs : stepOp E rec tm st (.toInt k d) = some (.val v st')) : Yields P B0 w0 G st w v st' (OpRun P a o w) := by
 have hx := opd_ok ht hd
 simp only [stepOp] at hs
 split at hs
 ·rename_i k1 n hev
  cases hs
  rw [hev] at hx
  exact .pure hw (OpRun.val (u := .int k (k.wrap n)) (by unfold execOp; rw [ho]) (by rw [hx.int_inv]; simp [convert, run_underlying hsrc, run_underlying hdst, Conv.intToInt])) VR.int_mk
 ·cases hs
theorem ok_mkIface (hw : WR P B0 w0 G st.heap w) (ht : VRL G w tm a.tmps.toList) {t : TypeId} {x : Operand} {d : Opd} {td : TypeDesc} (ho : o.op = .makeInterface t x) (hu : P.underlying t = some td) (hni : ∀ ms, td ≠ .interface ms) (hd : opd x = some d)
  (hs : stepOp E rec tm st (.mkIface t d) = some (.val v st')) : Yields P B0 w0 G st w v st' (OpRun P a o w) := by
 have hx := opd_ok ht hd
 simp only [stepOp] at hs
 cases hs
 refine .pure hw (OpRun.val (u := .iface t (a.eval x)) (by unfold execOp; rw [ho]) ?_) (by simp only [VR]; exact ⟨_, rfl, hx⟩)
 unfold Instr.makeInterface
 simp only [Sem.run_bind, run_underlying hu, Result.andThen_ok]
 cases td <;> first | rfl | exact absurd rfl (hni _)
theorem ok_mkFunc (hw : WR P B0 w0 G st.heap w) (ht : VRL G w tm a.tmps.toList) {f : FuncId} {fi ca : Array Operand} {d e : List Opd} (ho : o.op = .makeFunc (.func f) fi ca) (hd : opds fi.toList = some d) (he : opds ca.toList = some e)
  (hs : stepOp E rec tm st (.mkFunc f d e) = some (.val v st')) : Yields P B0 w0 G st w v st' (OpRun P a o w) := by
 simp only [stepOp] at hs
 cases hs
 refine .pure hw (OpRun.val (u := .func (.func f) (fi.map a.eval) (ca.map a.eval)) (by unfold execOp; rw [ho]) rfl) ?_
 simp only [VR]
 exact ⟨_, _, rfl, by simpa using opds_ok ht hd, by simpa using opds_ok ht he⟩
theorem ok_mkMap (hw : WR P B0 w0 G st.heap w) {t kt e : TypeId} {r : Option Operand} (ho : o.op = .makeMap t r) (hu : P.underlying t = some (.map kt e)) (hr : r = none ∨ ∃ k n, r = some (.const (.int k n)))
  (hs : stepOp E rec tm st .mkMap = some (.val v st')) : Yields P B0 w0 G st w v st' (OpRun P a o w) := by
 simp only [stepOp] at hs
 cases hs
 obtain ⟨h1, h2⟩ := alloc_obj hw (.map []) (.map #[] 0) (fun G' w' hp hh _ => ⟨_, _, hh, rfl⟩)
 refine ⟨_, _, h1, h2 _, Nat.le_refl _, .inl ⟨.map (some w.heap.size), OpRun.val (by unfold execOp; rw [ho]) ?_, by simp only [VR]; exact ⟨_, upd_same _ _ _, rfl⟩⟩⟩
 unfold Instr.makeMap
 rcases hr with rfl | ⟨k, n, rfl⟩
 ·simp
 ·simp [run_underlying hu, Act.eval, Go.asInt, asIntOf]
theorem ok_extract (hw : WR P B0 w0 G st.heap w) (ht : VRL G w tm a.tmps.toList) {x : Operand} {i : Nat} {d : Opd} (ho : o.op = .extract x i) (hd : opd x = some d)
  (hs : stepOp E rec tm st (.extract d i) = some (.val v st')) : Yields P B0 w0 G st w v st' (OpRun P a o w) := by
 have hx := opd_ok ht hd
 simp only [stepOp] at hs
 split at hs
 ·rename_i vs hev
  obtain ⟨p, h1, h2⟩ := Option.map_eq_some_iff.1 hs
  cases h2
  rw [hev] at hx
  simp only [VR] at hx
  obtain ⟨us, h3, h4⟩ := hx
  obtain ⟨u, h5, h6⟩ := h4.get h1
  refine .pure hw (OpRun.val (u := u) (by unfold execOp; rw [ho]) ?_) h6
  unfold Instr.extract
  rw [h3]
  have : us[i]? = some u := by simpa using h5
  simp [this]
 ·cases hs
theorem len_run {t : TypeId} {c : Call} {x : Operand} (ho : o.op = .call c) (hc : c.callee = .builtin .len) (hat : c.argTypes = #[t]) (har : c.args = #[x]) {n : Int} (h : (Builtin.len_ #[t] o.type #[a.eval x]).run P w = .ok (.int .i64 n) w) : OpRun P a o w = .ok (.value (.int .i64 n)) w := by
 unfold OpRun execOp
 rw [ho]
 simp [resolve, hc, har, hat, invoke, builtin, h]
theorem ok_len (hw : WR P B0 w0 G st.heap w) (ht : VRL G w tm a.tmps.toList) {t e : TypeId} {c : Call} {x : Operand} {d : Opd} (ho : o.op = .call c) (hc : c.callee = .builtin .len) (hat : c.argTypes = #[t]) (har : c.args = #[x]) (hu : P.underlying t = some (.slice e))
  (hd : opd x = some d) (hs : stepOp E rec tm st (.len d) = some (.val v st')) : Yields P B0 w0 G st w v st' (OpRun P a o w) := by
 have hx := opd_ok ht hd
 simp only [stepOp] at hs
 split at hs
 ·rename_i hev
  cases hs
  rw [hev] at hx
  simp only [VR] at hx
  exact .pure hw (len_run ho hc hat har (by rw [hx]; simp [Builtin.len_, run_underlying hu, goInt])) VR.int_mk
 ·rename_i oo n cs hev
  cases hs
  rw [hev] at hx
  simp only [VR] at hx
  obtain ⟨b, off, cap, h1, _⟩ := hx
  exact .pure hw (len_run ho hc hat har (by rw [h1]; simp [Builtin.len_, run_underlying hu, goInt])) VR.int_mk
 ·rename_i l sz n hev
  cases hs
  rw [hev] at hx
  simp only [VR] at hx
  obtain ⟨b, e', cap, _, h1, _⟩ := hx
  exact .pure hw (len_run ho hc hat har (by rw [h1]; simp [Builtin.len_, run_underlying hu, goInt])) VR.int_mk
 ·cases hs
theorem ok_lenStr (hw : WR P B0 w0 G st.heap w) (ht : VRL G w tm a.tmps.toList) {t : TypeId} {c : Call} {x : Operand} {d : Opd} (ho : o.op = .call c) (hc : c.callee = .builtin .len) (hat : c.argTypes = #[t]) (har : c.args = #[x]) (hu : P.underlying t = some .string)
  (hd : opd x = some d) (hs : stepOp E rec tm st (.lenStr d) = some (.val v st')) : Yields P B0 w0 G st w v st' (OpRun P a o w) := by
 have hx := opd_ok ht hd
 simp only [stepOp] at hs
 split at hs
 ·rename_i s hev
  cases hs
  rw [hev] at hx
  exact .pure hw (len_run ho hc hat har (by rw [hx.str_inv]; simp [Builtin.len_, run_underlying hu, goInt])) VR.int_mk
 ·cases hs
end
end Go.Den
end

/- Part of the proofs of laws of the package chest: the interpreter Den, its soundness, and contracts of the program's functions over it. Texts: DenRunC, DenRunD, DenDrawA. -/
import Derived.Test.YtoeigapilcgelaaGreatDoorK2Al
import Derived.OrdersIn
set_option linter.unusedSimpArgs false
set_option linter.unusedVariables false
section
namespace Go.Den
section
variable {P : Program} {B0 : Nat} {w0 : World} {G : Gh} {st : St} {w : World} {tm : List PV} {a : Act} {E : Env} {rec : Rec}
def SoundDraw (P : Program) (B0 : Nat) (w0 : World) (E : Env) (rec : Rec) : Prop :=
 ∀ mu id ops ds free, codeC P mu (.region id ops true) = some (.dregion ds free) → ∀ tm st e tm' st' fs, stepOpsD E rec ds tm st = some (e, tm', st', fs) → footOk fs free = true → st.lo ≤ st.heap.length →
  ∀ F n, IsWide F → ∀ B G w a, WR P B0 w0 G st.heap w → VRL G w tm a.tmps.toList → DefsOK B G w a.defers w.heap.size → (Code.region id ops true).wpIn F n P (Post P B0 w0 B G st w e tm' st') a w
theorem then_of_ne {G : Gh} {w : World} {e : Ex} {x : Exit} {K : Act → World → Prop} {Q : Exit → Act → World → Prop} {a : Act} {w' : World} (h : ExR G w e x) (hn : e ≠ .normal) (hq : Q x a w') : Exit.then K Q x a w' := by
 cases e with
 | normal => exact absurd rfl hn
 | ret => simp only [ExR] at h; subst h; exact hq
 | exit id => simp only [ExR] at h; subst h; exact hq
 | panic v => obtain ⟨u, rfl, _⟩ := h; exact hq
theorem noGoto_of {G : Gh} {w : World} {e : Ex} {x : Exit} {Q : Exit → Act → World → Prop} {a : Act} {w' : World} (h : ExR G w e x) (hq : Q x a w') : Exit.noGoto Q x a w' := by
 cases e with
 | normal => simp only [ExR] at h; subst h; exact hq
 | ret => simp only [ExR] at h; subst h; exact hq
 | exit id => simp only [ExR] at h; subst h; exact hq
 | panic v => obtain ⟨u, rfl, _⟩ := h; exact hq
theorem loop_ok (mu : TypeId → Bool) {c : Code} {dc : DCode} (hc : codeC P mu c = some dc) (N : Nat) (ih : ∀ j, j < N → SoundCode P B0 w0 (run E j)) (hg : ∀ j, GrowCode (run E j)) {e : Ex} {tm' : List PV} {st' : St} (hs : (run E N).code (.loop dc) tm st = some (e, tm', st')) (hlo : st.lo ≤ st.heap.length)
  {F : Fence} {n : Nat} (hF : IsWide F) {B : Nat} (hw : WR P B0 w0 G st.heap w) (ht : VRL G w tm a.tmps.toList) (hB : B ≤ w.heap.size) (hd : DefsOK B G w a.defers w.heap.size) (hro : RoundOK F w) :
  (Code.loop c).wpIn F n P (Post P B0 w0 B G st w e tm' st') a w := by
 refine wpIn_loop_idx (J := fun i a1 w1 => i ≤ N ∧ ∃ tm1 st1 G1, (run E i).code (.loop dc) tm1 st1 = some (e, tm', st') ∧ st1.lo ≤ st1.heap.length ∧ Grows st st1 ∧ WR P B0 w0 G1 st1.heap w1 ∧ Ext G st.heap w G1 st1.heap w1 st1.lo ∧ VRL G1 w1 tm1 a1.tmps.toList ∧ DefsOK B G1 w1 a1.defers w1.heap.size) N
  ⟨Nat.le_refl _, tm, st, G, hs, hlo, .refl _, hw, .refl _ _ _ _, ht, hd⟩ (fun i a1 w1 hJ => ?_)
 obtain ⟨hi, tm1, st1, G1, hs1, hlo1, hg1, hw1, hx1, ht1, hd1⟩ := hJ
 cases i with
 | zero => simp [run] at hs1
 | succ j =>
  simp only [run, stepCode] at hs1
  have hBw : B ≤ w1.heap.size := Nat.le_trans hB hx1.size
  split at hs1
  ·rename_i tm2 st2 hb
   have g2 := hg j _ _ _ _ _ _ hb hlo1
   refine wpIn_mono (ih j (by omega) mu _ _ hc _ _ _ _ _ hb hlo1 F n hF B G1 w1 a1 hw1 ht1 hBw hd1 (hro.ext hx1)) (fun x a2 w2 hp => ?_)
   obtain ⟨G2, hw2, hx2, he2, ht2, hd2⟩ := hp
   simp only [ExR] at he2; subst he2
   exact ⟨j, Nat.lt_succ_self _, by omega, tm2, st2, G2, hs1, g2.hlo hlo1, hg1.trans g2, hw2, hx1.transMin hx2 g2.1, ht2.resolve_left id, hd2⟩
  ·rename_i hne
   have g2 := hg j _ _ _ _ _ _ hs1 hlo1
   refine wpIn_mono (ih j (by omega) mu _ _ hc _ _ _ _ _ hs1 hlo1 F n hF B G1 w1 a1 hw1 ht1 hBw hd1 (hro.ext hx1)) (fun x a2 w2 hp => ?_)
   obtain ⟨G2, hw2, hx2, he2, ht2, hd2⟩ := hp
   exact then_of_ne he2 (fun he => by subst he; exact hne _ _ hs1) ⟨G2, hw2, hx1.transMin hx2 g2.1, he2, ht2, hd2⟩
theorem rangeFunc_ok (mu : TypeId → Bool) {f : Operand} {d : Opd} {ps : Array Tmp} {as bd : Code} {das dbd : DCode} (hf : opd f = some d) (hcA : codeC P mu as = some das) (hcB : codeC P mu bd = some dbd) (hgc : GrowCall rec) (hcall : SoundCall P B0 w0 rec)
  {e : Ex} {tm' : List PV} {st' : St} (hs : stepCode E rec (.rangeFunc d ps.toList das dbd) tm st = some (e, tm', st')) (hlo : st.lo ≤ st.heap.length)
  {F : Fence} {n : Nat} (hF : IsWide F) {B : Nat} (hw : WR P B0 w0 G st.heap w) (ht : VRL G w tm a.tmps.toList) (hB : B ≤ w.heap.size) (hd : DefsOK B G w a.defers w.heap.size) (hro : RoundOK F w) :
  (Code.rangeFunc f ps as bd).wpIn F n P (Post P B0 w0 B G st w e tm' st') a w := by
 simp only [stepCode] at hs
 split at hs
 ·rename_i g fa fc hev
  split at hs
  ·rename_i v st1 hr
   have hx := opd_ok ht hf
   rw [hev] at hx
   have hx0 := hx
   simp only [VR] at hx
   obtain ⟨fi, ca, hfv, _, _⟩ := hx
   have hlo0 : st.lo ≤ (st.heap ++ [HObj.loop tm ps.toList das dbd .ready none]).length := by simp; omega
   have g1 : Grows { st with heap := st.heap ++ [.loop tm ps.toList das dbd .ready none] } st1 := hgc _ _ _ _ _ hr hlo0
   have main : ∀ (fn : FuncId) (l : Nat) (mark : List Deferred) (w1 : World) (G1 : Gh), (Instr.enterLoop fn a.tmps ps as bd F.round).run P w = .ok (l, mark) w1 → G1.be st.heap.length = some l → WR P B0 w0 G1 (st.heap ++ [.loop tm ps.toList das dbd .ready none]) w1 →
     Ext G st.heap w G1 (st.heap ++ [.loop tm ps.toList das dbd .ready none]) w1 st.lo → DefsOK B G1 w1 (mark ++ a.defers) w1.heap.size →
     ∃ (l : Nat) (mark : List Deferred) (w₁ : World) (d : Deferred) (w₁' : World) (f' : FuncId) (args : Array Value) (w₂ : World),
      (Instr.enterLoop fn a.tmps ps as bd F.round).run P w = .ok (l, mark) w₁ ∧
      (resolve a.eval (rangeCall f l) 0).run P w₁ = .ok d w₁' ∧
      (∀ f', Target.leads P w₁' d.target d.args = some f' → F.fn f') ∧
      (invoke d.target d.args).run P w₁' = .ok (.enter f' args) w₂ ∧
      (F.depth.isSome = true → 1 ≤ n) ∧
      CallsIn F (n - 1) P f' args w₂ (rangePost F n P l (Post P B0 w0 B G st w e tm' st') { a with defers := mark ++ a.defers }) := by
    intro fn l mark w1 G1 hent hbe hw1 hx1 hd1
    have hy : VR G1 w1 (.yield st.heap.length) (.func (.yield l) #[] #[]) := by simp only [VR]; exact ⟨l, hbe, rfl⟩
    obtain ⟨_, hok⟩ := hcall _ _ _ _ _ hr hlo0
    obtain ⟨h4, h5⟩ := hok G1 w1 _ _ hw1 (VR.mono hx1.pres (hfv ▸ hx0)) (VRL.cons hy (VRL.nil_iff.2 rfl)) fi ca rfl
    refine ⟨l, mark, w1, { target := .fn (.func g) ca, args := fi ++ #[.func (.yield l) #[] #[]] }, w1, g, fi ++ #[.func (.yield l) #[] #[]] ++ ca, w1, hent, ?_, fun f' _ => hF.fn f', ?_, fun h => (by rw [hF.depth] at h; cases h), ?_⟩
    ·have hy' : a.eval (.const (.func (.yield l) #[] #[])) = .func (.yield l) #[] #[] := rfl
     simp [resolve, rangeCall, hfv, Deferred.ofValue, hy']
    ·simp only [invoke, callFunc_run h4]
    ·refine (hF.calls (h5 0)).mono (fun en w3 hR => ?_)
     obtain ⟨G2, hw2, hx2, hvv⟩ := hR
     obtain ⟨u, rfl, _⟩ := hvv
     have fin : ∀ {s0 : LSt} {p0 : Option Jump} {st2 : St}, setLoop st1 st.heap.length .over id = some (s0, p0, st2) → ∃ r2 : Loop, (Instr.endLoop l).run P w3 = .ok r2.pending (w3.putObj l (.loop { r2 with state := .exhausted })) ∨ s0 = .busy := by
      intro s0 p0 st2 hsl
      obtain ⟨-, r2, m1, m2, m3, m4⟩ := setLoop_ok hw2 (hx2.pres.be hbe) hsl
      cases s0 with
      | busy => exact ⟨r2, .inr rfl⟩
      | ready => simp only [LStR] at m2; exact ⟨r2, .inl (run_endLoop m1 (by rw [m2]; simp))⟩
      | done => simp only [LStR] at m2; exact ⟨r2, .inl (run_endLoop m1 (by rw [m2]; simp))⟩
      | over => simp only [LStR] at m2; exact ⟨r2, .inl (run_endLoop m1 (by rw [m2]; simp))⟩
     have post : ∀ {s0 : LSt} {p0 : Option Jump} {st2 : St} {e2 : Ex} {x : Exit}, setLoop st1 st.heap.length .over id = some (s0, p0, st2) → s0 ≠ .busy → (∀ G w, ExR G w e2 x) → (e2, tm, st2) = (e, tm', st') →
       ∃ r2 : Loop, JumpR p0 r2.pending ∧ (Instr.endLoop l).run P w3 = .ok r2.pending (w3.putObj l (.loop { r2 with state := .exhausted })) ∧ Post P B0 w0 B G st w e tm' st' x { a with defers := mark ++ a.defers } (w3.putObj l (.loop { r2 with state := .exhausted })) := by
      intro s0 p0 st2 e2 x hsl hnb hex heq
      cases heq
      obtain ⟨g2, r2, m1, m2, m3, m4⟩ := setLoop_ok hw2 (hx2.pres.be hbe) hsl
      obtain ⟨hw4, hx4⟩ := m4 .exhausted r2.pending rfl m3
      have hrs : r2.state ≠ .busy := by
       cases s0 <;> simp only [LStR] at m2 <;> rw [m2] <;> first | exact absurd rfl hnb | simp
      have hx : Ext G st.heap w G2 _ _ _ := (hx1.transMin hx2 g1.1).transMin hx4 g2.1
      have hp4 : Pres G1 w1 G2 (w3.putObj l (.loop { r2 with state := .exhausted })) := hx2.pres.trans hx4.pres
      refine ⟨r2, m3, run_endLoop m1 hrs, G2, hw4, hx, hex _ _, .inr (VRL.mono hx.pres ht), ?_⟩
      have hd2 := (hd1.ext hx2 (Nat.le_refl _)).le hx2.size
      exact (hd2.ext hx4 (Nat.le_refl _)).le hx4.size
     split at hs
     ·rename_i st2 hsl
      obtain ⟨r2, m1, m2, m3⟩ := post (e2 := .normal) (x := .normal) hsl (by simp) (fun _ _ => rfl) (Option.some.inj hs)
      simp only [JumpR] at m1
      rw [m1] at m2 m3
      exact ⟨none, _, m2, m3⟩
     ·rename_i st2 hsl
      obtain ⟨r2, m1, m2, m3⟩ := post (e2 := .ret) (x := .ret) hsl (by simp) (fun _ _ => rfl) (Option.some.inj hs)
      simp only [JumpR] at m1
      rw [m1] at m2 m3
      exact ⟨some .ret, _, m2, wpIn_ret m3⟩
     ·rename_i id st2 hsl
      obtain ⟨r2, m1, m2, m3⟩ := post (e2 := .exit id) (x := .exit id) hsl (by simp) (fun _ _ => rfl) (Option.some.inj hs)
      simp only [JumpR] at m1
      rw [m1] at m2 m3
      exact ⟨some (.exit id), _, m2, wpIn_exit m3⟩
     ·cases hs
   refine wpIn_rangeFunc (fun fn hfn => ?_)
   have lay : ∀ (wa : World) (hwa : WR P B0 w0 G st.heap wa) (hxa : Ext G st.heap w G st.heap wa st.lo) (r : Loop), r.tmps = a.tmps → r.params = ps → r.assign = as → r.body = bd → r.state = .ready → r.pending = none →
     WR P B0 w0 { G with be := upd G.be st.heap.length (some wa.heap.size) } (st.heap ++ [.loop tm ps.toList das dbd .ready none]) (wa.alloc (.loop r)) ∧
     Ext G st.heap w { G with be := upd G.be st.heap.length (some wa.heap.size) } (st.heap ++ [.loop tm ps.toList das dbd .ready none]) (wa.alloc (.loop r)) st.lo := by
    intro wa hwa hxa r h1 h2 h3 h4 h5 h6
    obtain ⟨k1, k2⟩ := alloc_obj hwa (.loop tm ps.toList das dbd .ready none) (.loop r) (fun G' w' hp hh hb => by
     refine ⟨r, hh, ?_, by rw [h2], ⟨mu, by rw [h3]; exact hcA, by rw [h4]; exact hcB⟩, h5, h6⟩
     rw [h1]
     exact VRL.mono (hxa.pres.trans hp) ht)
    exact ⟨k1, hxa.trans (k2 _)⟩
   rcases hF with rfl | ⟨l0, rfl⟩
   ·obtain ⟨a1, a2⟩ := alloc_raw (lo := st.lo) hw (.deferred (some []))
    obtain ⟨b1, b2⟩ := lay _ a1 a2 { state := .ready, pending := none, fn, tmps := a.tmps, params := ps, assign := as, body := bd, defers := w.heap.size } rfl rfl rfl rfl rfl rfl
    refine main fn _ _ _ _ (run_enterLoop_outer _ _ _ _ _) ?_ b1 b2 ?_
    ·show upd _ _ _ _ = _
     rw [upd_same, size_alloc]
    ·have hne : ∀ l, (upd G.be st.heap.length (some (w.alloc (.deferred (some []))).heap.size)) l ≠ some w.heap.size := by
      intro l hl
      by_cases h : l = st.heap.length
      ·subst h; rw [upd_same, size_alloc] at hl; simp at hl
      ·rw [upd_ne _ _ h] at hl; have := (hw.obj hl).2.1; omega
     refine ⟨w.heap.size, rfl, ⟨hB, by rw [size_alloc, size_alloc]; omega⟩, ?_, hne, fun t e he => ?_, ?_, ?_⟩
     ·rw [heap_alloc_lt _ _ (by rw [size_alloc]; omega)]
      exact World.alloc_heap_new _ _
     ·have := (hw.tag he).2.1; omega
     ·cases hcm : G.cm w.heap.size with
      | none => rfl
      | some k => have := hw.cmLt hcm; omega
     ·exact hd.ext b2 (Nat.le_refl _)
   ·obtain ⟨r0, hr0⟩ := hro l0 rfl
    obtain ⟨b1, b2⟩ := lay _ hw (.refl _ _ _ _) { state := .ready, pending := none, fn, tmps := a.tmps, params := ps, assign := as, body := bd, defers := r0.defers } rfl rfl rfl rfl rfl rfl
    refine main fn _ _ _ _ (run_enterLoop_inner hr0 _ _ _ _ _) ?_ b1 b2 ?_
    ·show upd _ _ _ _ = _
     rw [upd_same]
    ·exact (hd.ext b2 (Nat.le_refl _)).le b2.size
  ·cases hs
 ·cases hs
end
end Go.Den
end
section
namespace Go.Den
section
variable {P : Program} {B0 : Nat} {w0 : World} {G : Gh} {st : St} {w : World} {tm : List PV} {a : Act} {E : Env}
theorem post_refl {B : Nat} {e : Ex} {x : Exit} (hw : WR P B0 w0 G st.heap w) (ht : VRL G w tm a.tmps.toList) (hd : DefsOK B G w a.defers w.heap.size) (he : ExR G w e x) : Post P B0 w0 B G st w e tm st x a w :=
 ⟨G, hw, .refl _ _ _ _, he, .inr ht, hd⟩
theorem code_step (hE : EnvOK P E) (N : Nat) (ih : ∀ j, j ≤ N → SoundCode P B0 w0 (run E j)) (hgc : ∀ j, GrowCall (run E j)) (hg : ∀ j, GrowCode (run E j)) (hcall : SoundCall P B0 w0 (run E N)) (hdraw : SoundDraw P B0 w0 E (run E N)) : SoundCode P B0 w0 (run E (N + 1)) := by
 intro mu c dc hc tm st e tm' st' hs hlo F n hF B G w a hw ht hB hd hro
 have ihN := ih N (Nat.le_refl _)
 cases c with
 | skip =>
  simp only [codeC] at hc; cases hc
  simp only [run, stepCode] at hs; cases hs
  exact wpIn_skip (post_refl hw ht hd rfl)
 | label l =>
  simp only [codeC] at hc; cases hc
  simp only [run, stepCode] at hs; cases hs
  exact wpIn_label (post_refl hw ht hd rfl)
 | exit id =>
  simp only [codeC] at hc; cases hc
  simp only [run, stepCode] at hs; cases hs
  exact wpIn_exit (post_refl hw ht hd rfl)
 | ret =>
  simp only [codeC] at hc; cases hc
  simp only [run, stepCode] at hs; cases hs
  exact wpIn_ret (post_refl hw ht hd rfl)
 | region id ops draw =>
  have hc0 := hc
  simp only [codeC] at hc
  split at hc
  ·rename_i ds hds
   cases draw with
   | false =>
    simp only [Bool.false_eq_true, if_false] at hc; cases hc
    simp only [run, stepCode] at hs
    obtain ⟨_, h1⟩ := ops_ok hE hcall ops.toList 0 ds tm st e tm' st' rfl hds hs hlo
    refine wpIn_region ?_
    have := h1 F n hF B G w a hw ht hd
    rw [List.range_eq_range']
    simpa using this
   | true =>
    simp only [if_true] at hc
    split at hc
    ·cases hc
     simp only [run, stepCode] at hs
     split at hs
     ·rename_i fs hs1
      split at hs
      ·rename_i hfo
       cases hs
       exact hdraw mu id ops _ _ hc0 tm st _ _ _ fs hs1 hfo hlo F n hF B G w a hw ht hd
      ·cases hs
     ·cases hs
    ·cases hc
  ·cases hc
 | seq x y =>
  simp only [codeC] at hc
  split at hc
  ·rename_i dx dy h1 h2
   cases hc
   simp only [run, stepCode] at hs
   refine wpIn_seq ?_
   split at hs
   ·rename_i tm1 st1 hb
    have g1 := hg N _ _ _ _ _ _ hb hlo
    refine wpIn_mono (ihN mu _ _ h1 _ _ _ _ _ hb hlo F n hF B G w a hw ht hB hd hro) (fun x1 a1 w1 hp => ?_)
    obtain ⟨G1, hw1, hx1, he1, ht1, hd1⟩ := hp
    simp only [ExR] at he1; subst he1
    have g2 := hg N _ _ _ _ _ _ hs (g1.hlo hlo)
    exact wpIn_mono (ihN mu _ _ h2 _ _ _ _ _ hs (g1.hlo hlo) F n hF B G1 w1 a1 hw1 (ht1.resolve_left id) (Nat.le_trans hB hx1.size) hd1 (hro.ext hx1)) (fun x2 a2 w2 hp2 => hp2.from hx1 rfl g2)
   ·rename_i hne
    refine wpIn_mono (ihN mu _ _ h1 _ _ _ _ _ hs hlo F n hF B G w a hw ht hB hd hro) (fun x1 a1 w1 hp => ?_)
    obtain ⟨G1, hw1, hx1, he1, ht1, hd1⟩ := hp
    exact then_of_ne he1 (fun he => by subst he; exact hne _ _ hs) ⟨G1, hw1, hx1, he1, ht1, hd1⟩
  ·cases hc
 | cond c x y =>
  simp only [codeC] at hc
  split at hc
  ·rename_i dd dx dy h0 h1 h2
   cases hc
   have hx := opd_ok ht h0
   simp only [run, stepCode] at hs
   split at hs
   ·rename_i hev
    rw [hev] at hx
    exact wpIn_cond_true hx.bool_inv (ihN mu _ _ h1 _ _ _ _ _ hs hlo F n hF B G w a hw ht hB hd hro)
   ·rename_i hev
    rw [hev] at hx
    exact wpIn_cond_false hx.bool_inv (ihN mu _ _ h2 _ _ _ _ _ hs hlo F n hF B G w a hw ht hB hd hro)
   ·cases hs
  ·cases hc
 | block id c =>
  simp only [codeC] at hc
  obtain ⟨dc', h1, h2⟩ := Option.map_eq_some_iff.1 hc
  cases h2
  simp only [run, stepCode] at hs
  refine wpIn_block ?_
  split at hs
  ·rename_i i tm1 st1 hb
   refine wpIn_mono (ihN mu _ _ h1 _ _ _ _ _ hb hlo F n hF B G w a hw ht hB hd hro) (fun x1 a1 w1 hp => ?_)
   obtain ⟨G1, hw1, hx1, he1, ht1, hd1⟩ := hp
   simp only [ExR] at he1; subst he1
   split at hs
   ·rename_i hi
    cases hs
    subst hi
    show (if _ = _ then _ else _)
    rw [if_pos rfl]
    exact ⟨G1, hw1, hx1, rfl, .inr (ht1.resolve_left id), hd1⟩
   ·rename_i hi
    cases hs
    show (if _ = _ then _ else _)
    rw [if_neg hi]
    exact ⟨G1, hw1, hx1, rfl, ht1, hd1⟩
  ·rename_i hne
   refine wpIn_mono (ihN mu _ _ h1 _ _ _ _ _ hs hlo F n hF B G w a hw ht hB hd hro) (fun x1 a1 w1 hp => ?_)
   have hp0 := hp
   obtain ⟨G1, hw1, hx1, he1, ht1, hd1⟩ := hp
   cases e with
   | normal => simp only [ExR] at he1; subst he1; exact hp0
   | ret => simp only [ExR] at he1; subst he1; exact hp0
   | exit i => exact absurd hs (hne _ _ _)
   | panic v => obtain ⟨u, rfl, _⟩ := he1; exact hp0
 | loop c =>
  simp only [codeC] at hc
  obtain ⟨dc', h1, h2⟩ := Option.map_eq_some_iff.1 hc
  cases h2
  exact loop_ok mu h1 (N + 1) (fun j hj => ih j (by omega)) hg hs hlo hF hw ht hB hd hro
 | scope c =>
  simp only [codeC] at hc
  obtain ⟨dc', h1, h2⟩ := Option.map_eq_some_iff.1 hc
  cases h2
  simp only [run, stepCode] at hs
  refine wpIn_scope (wpIn_mono (ihN mu _ _ h1 _ _ _ _ _ hs hlo F n hF B G w a hw ht hB hd hro) (fun x1 a1 w1 hp => ?_))
  obtain ⟨G1, hw1, hx1, he1, ht1, hd1⟩ := hp
  exact noGoto_of he1 ⟨G1, hw1, hx1, he1, ht1, hd1⟩
 | rangeFunc f ps as bd =>
  simp only [codeC] at hc
  split at hc
  ·rename_i d das dbd h0 h1 h2
   cases hc
   exact rangeFunc_ok (E := E) mu h0 h1 h2 (hgc N) hcall hs hlo hF hw ht hB hd hro
  ·cases hc
 | _ => simp [codeC] at hc
theorem call_step (hE : EnvFn P E) (hP : PrimOK P B0 w0 E) (hPg : PrimGrows E) {rec : Rec} (hgc : GrowCall rec) (hg : GrowCode rec) (hcall : SoundCall P B0 w0 rec) (hcode : SoundCode P B0 w0 rec) : SoundCall P B0 w0 ⟨stepCode E rec, stepCall E rec⟩ := by
 intro f args st r st' hs hlo
 refine ⟨stepCall_grows (E := E) hPg hgc hg _ _ _ _ _ hs hlo, fun G w fv avs hw hf ha => ?_⟩
 simp only [stepCall] at hs
 split at hs
 ·rename_i g fa fc
  simp only [VR] at hf
  obtain ⟨a', c', rfl, hva, hvc⟩ := hf
  intro fi ca hfv
  cases hfv
  have := enter_ok hE hP hgc hg hcall hcode hs hlo hw ((hva.append ha).append hvc)
  refine ⟨this.1, fun n => ?_⟩
  have h2 := this.2 n
  have he : (a'.toList ++ avs ++ c'.toList).toArray = a' ++ avs.toArray ++ c' := Array.ext' (by simp)
  rwa [he] at h2
 ·rename_i l
  simp only [VR] at hf
  obtain ⟨b, hb, rfl⟩ := hf
  intro b' hb'
  cases hb'
  exact round_ok hg hcode hs hlo hw ha hb
 ·cases hs
theorem run_sound (hE : EnvOK P E) (hF : EnvFn P E) (hP : PrimOK P B0 w0 E) (hPg : PrimGrows E) (hdraw : ∀ rec, GrowCall rec → SoundCall P B0 w0 rec → SoundDraw P B0 w0 E rec) : ∀ N, SoundCall P B0 w0 (run E N) ∧ SoundCode P B0 w0 (run E N) := by
 have hgr := run_grows hPg
 intro N
 induction N using Nat.strongRecOn with
 | _ N ih =>
  cases N with
  | zero => exact ⟨fun _ _ _ _ _ h => (by simp [run] at h), fun _ _ _ _ _ _ _ _ _ h => (by simp [run] at h)⟩
  | succ N =>
   have h := ih N (Nat.lt_succ_self _)
   exact ⟨call_step hF hP hPg (hgr N).1 (hgr N).2 h.1 h.2,
    code_step hE N (fun j hj => (ih j (by omega)).2) (fun j => (hgr j).1) (fun j => (hgr j).2) h.1 (hdraw _ (hgr N).1 h.1)⟩
end
end Go.Den
end
section
namespace Go.Den
section
variable {E : Env} {rec : Rec} {tm tm2 : List PV} {st : St}
def Agree (tm tm2 : List PV) (ts : List Nat) : Prop := ∀ t, t ∈ ts → tm[t]? = tm2[t]?
theorem Agree.append {a b : List Nat} : Agree tm tm2 (a ++ b) ↔ Agree tm tm2 a ∧ Agree tm tm2 b :=
 ⟨fun h => ⟨fun t ht => h t (by simp [ht]), fun t ht => h t (by simp [ht])⟩, fun h t ht => by
  rcases List.mem_append.1 ht with h' | h'
  ·exact h.1 t h'
  ·exact h.2 t h'⟩
theorem Agree.ev {x : Opd} (h : Agree tm tm2 x.reads) : x.ev tm = x.ev tm2 := by
 cases x with
 | t i =>
  have := h i (by simp [Opd.reads])
  simp only [Opd.ev, List.getD_eq_getElem?_getD, this]
 | c v => rfl
theorem Agree.evs {xs : List Opd} (h : Agree tm tm2 (lreads xs)) : Den.evs tm xs = Den.evs tm2 xs := by
 unfold Den.evs
 induction xs with
 | nil => rfl
 | cons x xs ih =>
  simp only [lreads, Agree.append] at h
  simp only [List.map_cons]
  rw [h.1.ev, ih h.2]
theorem Agree.bound {x : Option Opd} (h : Agree tm tm2 (oreads x)) (d : Nat) : Den.bound tm x d = Den.bound tm2 x d := by
 cases x with
 | none => rfl
 | some x =>
  simp only [oreads] at h
  simp only [Den.bound, h.ev]
theorem Agree.fill : ∀ {ps : List (Nat × Nat × Opd)} {cs : List PV}, Agree tm tm2 (preads ps) → fillD tm cs ps = fillD tm2 cs ps
 | [], cs, _ => rfl
 | (off, size, x) :: ps, cs, h => by
  simp only [preads, Agree.append] at h
  simp only [fillD]
  rw [h.1.ev]
  split
  ·exact Agree.fill h.2
  ·rfl
theorem stepOp_congr {d : DOp} (h : Agree tm tm2 d.reads) : stepOp E rec tm st d = stepOp E rec tm2 st d := by
 cases d <;> simp only [DOp.reads, Agree.append] at h <;> simp only [stepOp]
 case build => rw [Agree.fill h]
 case buildSlice => rw [Agree.fill h]
 case buildSliceS => rw [Agree.fill h]
 case mkFunc => rw [Agree.evs h.1, Agree.evs h.2]
 case slice => rw [h.1.1.ev]; simp only [Agree.bound h.1.2, Agree.bound h.2]
 case sliceStr => rw [h.1.1.ev]; simp only [Agree.bound h.1.2, Agree.bound h.2]
 case minmax => rw [h.1.ev, Agree.evs h.2]
 case call => rw [h.1.ev, Agree.evs h.2]
 case invoke => rw [h.1.ev, Agree.evs h.2]
 case pick => rw [h.1.1.ev, h.1.2.ev, h.2.ev]
 case mapUpdate => rw [h.1.1.ev, h.1.2.ev, h.2.ev]
 all_goals first
  | rfl
  | (rw [h.ev]; done)
  | (rw [h.1.ev, h.2.ev]; done)
theorem wants_congr {g : Option (Nat × Bool)} (h : Agree tm tm2 (match g with | some (g, _) => [g] | none => [])) : wants tm g = wants tm2 g := by
 cases g with
 | none => rfl
 | some p =>
  obtain ⟨i, b⟩ := p
  have := h i (by simp)
  simp only [wants, this]
theorem light_val {d : DOp} (hw : weight d = 0) {r : OpR} (h : stepOp E rec tm st d = some r) : ∃ v, r = .val v st ∧ ∀ st2, stepOp E rec tm st2 d = some (.val v st2) := by
 cases d <;> simp only [weight] at hw <;> first | (cases hw; done) | skip
 all_goals
  simp only [stepOp] at h ⊢
  repeat' (split at h)
  all_goals first
   | (cases h; done)
   | (cases h; exact ⟨_, rfl, fun _ => by simp_all⟩)
   | (obtain ⟨v, h1, h2⟩ := Option.map_eq_some_iff.1 h; cases h2; exact ⟨_, rfl, fun _ => by simp_all⟩)
theorem look_val {d : DOp} (hw : weight d = 1) {r : OpR} (h : stepOp E rec tm st d = some r) : ∃ v, r = .val v st ∧ ∀ st2, (∀ l m lo, footOf tm d m lo = .ld l → st2.heap[l]? = st.heap[l]?) → stepOp E rec tm st2 d = some (.val v st2) := by
 cases d <;> simp only [weight] at hw <;> first | (cases hw; done) | skip
 all_goals
  simp only [stepOp, footOf] at h ⊢
  repeat' (split at h)
  all_goals first
   | (cases h; done)
   | (cases h; exact ⟨_, rfl, fun _ hh => by simp_all⟩)
   | (obtain ⟨v, h1, h2⟩ := Option.map_eq_some_iff.1 h; cases h2; exact ⟨_, rfl, fun _ hh => by simp_all⟩)
theorem foot_ld {d : DOp} {m lo l : Nat} (h : footOf tm d m lo = .ld l) : weight d = 1 := by
 cases d <;> simp only [footOf] at h <;> (try rfl) <;> (repeat' (split at h)) <;> cases h
theorem foot_sound {d : DOp} (hw : weight d = 2) (hg : GrowCall rec) {r : OpR} (h : stepOp E rec tm { st with lo := st.heap.length } d = some r) {l : Nat} (hl : l < st.heap.length) (hc : clash l (footOf tm d st.heap.length r.nst.lo) = false) : r.nst.heap[l]? = st.heap[l]? := by
 have hgr := stepOp_grows hg (Nat.le_refl _) h
 have gen : (footOf tm d st.heap.length r.nst.lo = if st.heap.length ≤ r.nst.lo then .quiet else .wr r.nst.lo) → r.nst.heap[l]? = st.heap[l]? := by
  intro hf
  refine hgr.2.2 l ?_ hl
  rw [hf] at hc
  split at hc
  ·omega
  ·simpa [clash] using hc
 cases d <;> simp only [weight] at hw <;> first | (cases hw; done) | skip
 case store sz a x =>
  simp only [stepOp] at h
  split at h
  ·rename_i l' off hev
   simp only [footOf, hev, clash, beq_eq_false_iff_ne] at hc
   split at h
   ·split at h
    ·cases h
     simp only [OpR.nst, setVar]
     rw [List.getElem?_set_ne (Ne.symm hc)]
    ·cases h
   ·cases h
  ·rename_i l' off hev
   simp only [footOf, hev, clash, beq_eq_false_iff_ne] at hc
   split at h
   ·split at h
    ·cases h
     simp only [OpR.nst, setVar]
     rw [List.getElem?_set_ne (Ne.symm hc)]
    ·cases h
   ·cases h
  ·cases h
 all_goals exact gen rfl
end
theorem foldl_bits (acc : List Nat) : ∀ (ps : List Nat) (m i : Nat), (ps.foldl (fun m p => m ||| 2 ^ p ||| acc.getD p 0) m).testBit i = true → m.testBit i = true ∨ ∃ p, p ∈ ps ∧ (i = p ∨ (acc.getD p 0).testBit i = true)
 | [], m, i, h => .inl h
 | p :: ps, m, i, h => by
  simp only [List.foldl_cons] at h
  rcases foldl_bits acc ps _ i h with h1 | ⟨q, h1, h2⟩
  ·simp only [Nat.testBit_or, Bool.or_eq_true] at h1
   rcases h1 with (h1 | h1) | h1
   ·exact .inl h1
   ·rw [Nat.testBit_two_pow] at h1
    exact .inr ⟨p, by simp, .inl (by simpa using h1 : p = i).symm⟩
   ·exact .inr ⟨p, by simp, .inr h1⟩
  ·exact .inr ⟨q, by simp [h1], h2⟩
def Closed (pl : List (List Nat)) (S : Nat → Prop) : Prop := ∀ j, S j → ∀ p, p ∈ pl.getD j [] → S p
theorem masks_spec (S : Nat → Prop) (pl : List (List Nat)) (hS : Closed pl S) : ∀ (r : List (List Nat)) (acc : List Nat), (∀ k, r.getD k [] = pl.getD (acc.length + k) []) → (∀ j i, (acc.getD j 0).testBit i = true → (∀ p, p ∈ pl.getD j [] → S p) → S i) →
  ∀ j i, ((masks r acc).getD j 0).testBit i = true → (∀ p, p ∈ pl.getD j [] → S p) → S i
 | [], acc, _, h, j, i, hb, hp => h j i (by simpa [masks] using hb) hp
 | ps :: r, acc, hr, h, j, i, hb, hp => by
  simp only [masks] at hb
  refine masks_spec S pl hS r _ (fun k => ?_) (fun j i hb hp => ?_) j i hb hp
  ·have := hr (k + 1)
   simp only [List.getD_eq_getElem?_getD, List.getElem?_cons_succ, List.length_append, List.length_cons, List.length_nil] at this ⊢
   rw [this]
   congr 2
   omega
  ·by_cases hj : j < acc.length
   ·rw [List.getD_eq_getElem?_getD, List.getElem?_append_left hj, ← List.getD_eq_getElem?_getD] at hb
    exact h j i hb hp
   ·by_cases hj' : j = acc.length
    ·subst hj'
     have h0 := hr 0
     simp only [List.getD_eq_getElem?_getD, List.getElem?_cons_zero, Option.getD_some, Nat.add_zero] at h0
     rw [List.getD_eq_getElem?_getD, List.getElem?_append_right (Nat.le_refl _)] at hb
     simp only [Nat.sub_self, List.getElem?_cons_zero, Option.getD_some] at hb
     have hp' : ∀ p, p ∈ ps → S p := fun p hq => hp p (by rw [List.getD_eq_getElem?_getD, ← h0]; exact hq)
     rcases foldl_bits acc ps 0 i hb with h1 | ⟨p, h1, h2⟩
     ·simp at h1
     ·have hSp := hp' p h1
      rcases h2 with h2 | h2
      ·rw [h2]; exact hSp
      ·exact h p i h2 (fun q hq => hS p hSp q hq)
    ·rw [List.getD_eq_getElem?_getD, List.getElem?_eq_none (by simp; omega)] at hb
     simp at hb
theorem ordered_closed {S : Nat → Prop} {pl : List (List Nat)} (hS : Closed pl S) {i j : Nat} (h : ordered (masks pl []) i j = true) (hp : ∀ p, p ∈ pl.getD j [] → S p) : S i :=
 masks_spec S pl hS pl [] (fun k => by simp) (fun j i hb => by simp at hb) j i h hp
theorem ordered_in {S : Nat → Prop} {pl : List (List Nat)} (hS : Closed pl S) {i j : Nat} (h : ordered (masks pl []) i j = true) (hj : S j) : S i := ordered_closed hS h (hS j hj)
end Go.Den
end

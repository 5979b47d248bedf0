/- Part of the proofs of laws of the package version. Texts: DenRun, DenRunB, DenRunC, DenRunD. -/
import Derived.Test.YtehdcjbdhkkipaaGreatDoorVKAf
import Derived.Scope
set_option linter.unusedSimpArgs false
set_option linter.unusedVariables false
section
namespace Go.Den
section rules
variable {F : Fence} {n : Nat} {P : Program} {Q : Exit → Act → World → Prop} {a : Act} {w : World}
theorem stepR_scope {b : Frame} {k : List Item} {cs : List Frame} {c : Code} : step P (lone (b.atR a (.code (.scope c) :: k)) cs w) = .next (lone (b.atR a (.code c :: .inScope c :: k)) cs w) :=
  step_lone_go (by simp [stepG, stepG.exec, Frame.atR])
theorem stepR_inScope {b : Frame} {k : List Item} {cs : List Frame} {c : Code} : step P (lone (b.atR a (.inScope c :: k)) cs w) = .next (lone (b.atR a k) cs w) :=
  step_lone_go (by simp [stepG, stepG.exec, Frame.atR])
theorem wpIn_scope {c : Code} (h : c.wpIn F n P (Exit.noGoto Q) a w) : (Code.scope c).wpIn F n P Q a w := by
  intro b k cs hro hb hr
  have h0 : (lone (b.atR a (.code (.scope c) :: k)) cs w).fenced P F := fenced_calm hb hr rfl
  obtain ⟨e, a₁, w₁, hq, harr⟩ := h b (.inScope c :: k) cs hro hb hr
  cases e with
  | normal => exact ⟨.normal, a₁, w₁, hq, .head h0 stepR_scope (StepsIn.trans harr (.one (fenced_calm (fr := b.atR a₁ (.inScope c :: k)) hb hr rfl) stepR_inScope))⟩
  | exit id =>
    refine ⟨.exit id, a₁, w₁, hq, fun k' hk => .head h0 stepR_scope (harr.1 k' (by simp [exitTo, hk])), fun hk hro' => ?_⟩
    obtain ⟨k₁, hk₁, hs⟩ := harr.2 (by simp [exitTo, hk]) hro'
    exact ⟨k₁, hk₁, .head h0 stepR_scope hs⟩
  | goto l => exact hq.elim
  | ret => exact ⟨_, a₁, w₁, hq, .of_steps (.one h0 stepR_scope) harr⟩
  | panic ch => exact ⟨_, a₁, w₁, hq, .of_steps (.one h0 stepR_scope) harr⟩
  | outgrown => exact ⟨_, a₁, w₁, hq, .of_steps (.one h0 stepR_scope) harr⟩
theorem wpIn_loop_idx {c : Code} (J : Nat → Act → World → Prop) (N : Nat) (h₀ : J N a w)
    (round : ∀ i a w, J i a w → c.wpIn F n P (Exit.then (fun a' w' => ∃ j, j < i ∧ J j a' w') Q) a w) : (Code.loop c).wpIn F n P Q a w := by
  intro b k cs hro hb hr
  have key : ∀ i a w, J i a w →
      ∃ e a' w', Q e a' w' ∧ ArrivesIn (Machine.fenced P F) P (lone (b.atR a (.code c :: .inLoop c :: k)) cs w) b k cs e a' w' := by
    intro i
    induction i using Nat.strongRecOn with
    | _ i ih =>
      intro a w hI
      obtain ⟨e, a₁, w₁, hq, harr⟩ := round i a w hI b (.inLoop c :: k) cs hro hb hr
      cases e with
      | normal =>
        obtain ⟨j, hlt, hI₁⟩ := hq
        obtain ⟨e₂, a₂, w₂, hq₂, harr₂⟩ := ih j hlt a₁ w₁ hI₁
        exact ⟨e₂, a₂, w₂, hq₂, .of_steps (StepsIn.trans harr (.one (fenced_calm hb hr rfl) stepR_inLoop)) harr₂⟩
      | exit id => exact ⟨_, a₁, w₁, hq, .pass (x := .inLoop c) rfl (fun _ _ => .inl (by simp)) harr⟩
      | goto l => exact ⟨_, a₁, w₁, hq, .pass (x := .inLoop c) rfl (fun _ _ => .inl (by simp)) harr⟩
      | ret => exact ⟨_, a₁, w₁, hq, .pass (x := .inLoop c) rfl (fun _ _ => .inl (by simp)) harr⟩
      | panic ch => exact ⟨_, a₁, w₁, hq, .pass (x := .inLoop c) rfl (fun _ _ => .inl (by simp)) harr⟩
      | outgrown => exact ⟨_, a₁, w₁, hq, .pass (x := .inLoop c) rfl (fun _ _ => .inl (by simp)) harr⟩
  obtain ⟨e, a', w', hq, harr⟩ := key _ a w h₀
  exact ⟨e, a', w', hq, .of_steps (.one (fenced_calm hb hr rfl) stepR_loop) harr⟩
end rules
section
variable {P : Program} {B0 : Nat} {w0 : World} {G : Gh} {st : St} {w : World} {tm : List PV} {a : Act} {E : Env} {rec : Rec}
theorem Post.from {B G1 h1 w1 st1 e tm' st' x a' w'} (hp : Post P B0 w0 B G1 st1 w1 e tm' st' x a' w') (hx : Ext G st.heap w G1 h1 w1 st1.lo) (hh : h1 = st1.heap) (hg : Grows st1 st') : Post P B0 w0 B G st w e tm' st' x a' w' := by
  subst hh
  obtain ⟨G', p1, p2, p3⟩ := hp
  exact ⟨G', p1, hx.transMin p2 hg.1, p3⟩
theorem alloc_raw {h lo} (hw : WR P B0 w0 G h w) (o : Obj) : WR P B0 w0 G h (w.alloc o) ∧ Ext G h w G h (w.alloc o) lo := by
  have hp : Pres G w G (w.alloc o) := ⟨id, id, fun x => ⟨_, Nat.le_refl _, x⟩, fun x => ⟨_, by rw [heap_alloc_lt _ _ (lt_of_heap x)]; exact x, rfl⟩, fun x _ => cell_alloc_lt _ _ (hw.cmLt x)⟩
  refine ⟨⟨hw.dom, fun x => ?_, hw.inj, fun {t b e} x => ?_, hw.tinj, fun x => hp.hasRow (hw.com x), ?_, hw.out⟩,
    ⟨hp, Nat.le_refl _, fun _ _ => rfl, by rw [size_alloc]; omega, fun a _ _ _ => heap_alloc_lt _ _ a, fun _ x => heap_alloc_lt _ _ (hw.obj x).2.1, fun _ x _ => heap_alloc_lt _ _ (hw.tag x).2.1,
      fun x => ⟨_, by rw [heap_alloc_lt _ _ (lt_of_heap x)]; exact x, rfl⟩, fun x y => (by rw [x] at y; cases y), fun x y => (by rw [x] at y; cases y), fun x y => (by rw [x] at y; cases y)⟩⟩
  · obtain ⟨a1, a2, a3, a4, o', a5, a6⟩ := hw.obj x
    exact ⟨a1, by rw [size_alloc]; omega, a3, a4, o', a5, a6.mono hp (heap_alloc_lt _ _ a2)⟩
  · obtain ⟨a1, a2, a3⟩ := hw.tag x
    exact ⟨a1, by rw [size_alloc]; omega, a3.mono hp (fun he => by rw [he] at a3; exact a3.1) (fun cs he => by rw [he] at a3; exact ⟨a3.1, heap_alloc_lt _ _ a2⟩)⟩
  · refine ⟨by rw [size_alloc]; have := hw.low.1; omega, fun b hb => ?_⟩
    rw [heap_alloc_lt _ _ (Nat.lt_of_lt_of_le hb hw.low.1)]
    exact hw.low.2 b hb
theorem put_raw {h lo} {G0 : Gh} {h0 : List HObj} {wS : World} (hw : WR P B0 w0 G h w) (hx : Ext G0 h0 wS G h w lo) {r : Nat} (o : Obj) (hr : r < w.heap.size) (hS : wS.heap.size ≤ r) (hB : B0 ≤ r) (hbe : ∀ l, G.be l ≠ some r) (htg : ∀ t e, G.tg t ≠ some (r, e)) (hcm : G.cm r = none)
    (hd : ∃ d, w.heap[r]? = some (Obj.deferred d)) : WR P B0 w0 G h (w.putObj r o) ∧ Ext G0 h0 wS G h (w.putObj r o) lo ∧ Pres G w G (w.putObj r o) := by
  obtain ⟨d, hd⟩ := hd
  have hp : Pres G w G (w.putObj r o) := by
    refine ⟨id, id, fun x => ⟨_, Nat.le_refl _, x⟩, fun {b arr T fr} x => ⟨arr, ?_, rfl⟩, fun {b n o} x _ => cell_put_other (by intro e; subst e; rw [hcm] at x; cases x)⟩
    rw [heap_put_other]
    · exact x
    · intro e; subst e; rw [hd] at x; cases x
  have hne : ∀ {k}, k < wS.heap.size → k ≠ r := fun h => by omega
  refine ⟨⟨hw.dom, fun {l b} x => ?_, hw.inj, fun {t b e} x => ?_, hw.tinj, fun x => hp.hasRow (hw.com x), ?_, hw.out⟩,
    ⟨hx.pres.trans hp, hx.len, hx.pre, by rw [size_put]; exact hx.size, fun a b c d => by rw [heap_put_other (hne a)]; exact hx.frame a b c d, fun {l b} a x => ?_, fun {t b e cs} a x y => ?_, fun {b rr} x => ?_, hx.nbe, hx.ntg, hx.ncm⟩, hp⟩
  · obtain ⟨a1, a2, a3, a4, o', a5, a6⟩ := hw.obj x
    exact ⟨a1, by rw [size_put]; exact a2, a3, a4, o', a5, a6.mono hp (heap_put_other (by intro e; subst e; exact hbe l x))⟩
  · obtain ⟨a1, a2, a3⟩ := hw.tag x
    exact ⟨a1, by rw [size_put]; exact a2, a3.mono hp (fun he => by rw [he] at a3; exact a3.1) (fun cs he => by rw [he] at a3; exact ⟨a3.1, heap_put_other (by intro e'; subst e'; exact htg t e x)⟩)⟩
  · refine ⟨by rw [size_put]; exact hw.low.1, fun b hb => ?_⟩
    rw [heap_put_other (by omega)]
    exact hw.low.2 b hb
  · rw [heap_put_other (by intro e; subst e; exact hbe l (hx.pres.be x))]; exact hx.keep a x
  · rw [heap_put_other (by intro e'; subst e'; exact htg t e (hx.pres.tg x))]; exact hx.keepT a x y
  · obtain ⟨r2, h1, h2⟩ := hx.loops x
    refine ⟨r2, ?_, h2⟩
    rw [heap_put_other]
    · exact h1
    · intro e; subst e; rw [hd] at h1; cases h1
theorem setLoop_ok {st1 st2 : St} {l b : Nat} {s s0 : LSt} {f : Option Jump → Option Jump} {p0 : Option Jump} (hw : WR P B0 w0 G st1.heap w) (hb : G.be l = some b) (hs : setLoop st1 l s f = some (s0, p0, st2)) :
    Grows st1 st2 ∧ ∃ r : Loop, w.heap[b]? = some (Obj.loop r) ∧ LStR s0 r.state ∧ JumpR p0 r.pending ∧ ∀ ls pd, LStR s ls → JumpR (f p0) pd →
      WR P B0 w0 G st2.heap (w.putObj b (.loop { r with state := ls, pending := pd })) ∧ Ext G st1.heap w G st2.heap (w.putObj b (.loop { r with state := ls, pending := pd })) st2.lo := by
  unfold setLoop at hs
  split at hs
  · rename_i tm ps as bd s1 pend hh
    cases hs
    obtain ⟨_, _, _, _, o, h1, h2⟩ := hw.obj hb
    rw [hh] at h1; cases h1
    obtain ⟨r, h3, h4, h5, h6, h7, h8⟩ := h2
    refine ⟨.set, r, h3, h7, h8, fun ls pd hl hj => ?_⟩
    obtain ⟨g1, g2⟩ := set_obj hw hb (.loop tm ps as bd s (f p0)) (.loop { r with state := ls, pending := pd }) (fun _ _ _ x => by rw [h3] at x; cases x) (fun r' x => by rw [h3] at x; cases x; exact ⟨_, rfl, rfl⟩)
      (fun w' hp hh' => ⟨_, hh', h4.mono hp, h5, h6, hl, hj⟩)
    exact ⟨g1, g2 _ (Nat.min_le_right _ _)⟩
  · cases hs
theorem setParams_ok : ∀ {ps : List Nat} {tm tm' : List PV} {args : List PV} {avs : List Value} {tv : Array Value}, setParams tm ps args = some tm' → VRL G w tm tv.toList → VRL G w args avs → VRL G w tm' ((ps.zip avs).foldl (fun tmps (t, a) => tmps.setIfInBounds t a) tv).toList ∧ avs.length = ps.length
  | [], tm, tm', args, avs, tv, h, ht, ha => by
    cases args with
    | nil => simp only [setParams] at h; cases h; rw [VRL.nil_iff.1 ha]; exact ⟨ht, rfl⟩
    | cons x xs => simp [setParams] at h
  | p :: ps, tm, tm', args, avs, tv, h, ht, ha => by
    cases args with
    | nil => simp [setParams] at h
    | cons x xs =>
      obtain ⟨v, vs, rfl, h1, h2⟩ := VRL.cons_iff.1 ha
      simp only [setParams] at h
      obtain ⟨h3, h4⟩ := setParams_ok (tv := tv.setIfInBounds p v) h (by rw [Array.toList_setIfInBounds]; exact ht.set h1) h2
      exact ⟨h3, by simp [h4]⟩
def GrowCode (rec : Rec) : Prop := ∀ dc tm st e tm' st', rec.code dc tm st = some (e, tm', st') → st.lo ≤ st.heap.length → Grows st st'
def PrimGrows (E : Env) : Prop := ∀ g rec args st r st', GrowCall rec → GrowCode rec → E.prim g rec args st = some (some (r, st')) → st.lo ≤ st.heap.length → Grows st st'
theorem stepOps_grows (hg : GrowCall rec) : ∀ {ds : List DOper} {tm : List PV} {st : St} {e : Ex} {tm' : List PV} {st' : St}, stepOps E rec ds tm st = some (e, tm', st') → st.lo ≤ st.heap.length → Grows st st'
  | [], tm, st, e, tm', st', h, hlo => by simp only [stepOps] at h; cases h; exact .refl _
  | d :: ds, tm, st, e, tm', st', h, hlo => by
    simp only [stepOps] at h
    split at h
    · split at h
      · rename_i v st1 hs
        have h1 : Grows st st1 := stepOp_grows hg hlo hs
        exact h1.trans (stepOps_grows hg h (h1.hlo hlo))
      · rename_i v st1 hs
        cases h
        exact stepOp_grows hg hlo hs
      · cases h
    · exact stepOps_grows hg h hlo
theorem Grows.reset {st st1 : St} (h : Grows { st with lo := st.heap.length } st1) : Grows st { st1 with lo := min st.lo st1.lo } := ⟨Nat.min_le_left _ _, h.2.1, fun l h1 h2 => h.2.2 l (Nat.lt_of_lt_of_le h1 (Nat.min_le_right _ _)) h2⟩
theorem stepOpsD_grows (hg : GrowCall rec) : ∀ {ds : List DOper} {tm : List PV} {st : St} {e : Ex} {tm' : List PV} {st' : St} {fs : List Foot}, stepOpsD E rec ds tm st = some (e, tm', st', fs) → st.lo ≤ st.heap.length → Grows st st'
  | [], tm, st, e, tm', st', fs, h, hlo => by simp only [stepOpsD] at h; cases h; exact .refl _
  | d :: ds, tm, st, e, tm', st', fs, h, hlo => by
    simp only [stepOpsD] at h
    split at h
    · split at h
      · rename_i v st1 hs
        have h1 : Grows { st with lo := st.heap.length } st1 := stepOp_grows hg (Nat.le_refl _) hs
        split at h
        · rename_i hr; cases h; exact h1.reset.trans (stepOpsD_grows hg hr (h1.reset.hlo hlo))
        · cases h
      · rename_i v st1 hs
        split at h
        · cases h; exact Grows.reset (stepOp_grows hg (Nat.le_refl _) hs)
        · cases h
      · cases h
    · split at h
      · rename_i hr; cases h; exact stepOpsD_grows hg hr hlo
      · cases h
theorem setLoop_grows {l : Nat} {s s0 : LSt} {f : Option Jump → Option Jump} {p0 : Option Jump} {st' : St} (hs : setLoop st l s f = some (s0, p0, st')) : Grows st st' := by
  unfold setLoop at hs
  split at hs
  · cases hs; exact .set
  · cases hs
theorem finishCall_grows {st1 st' : St} {v v' : PV} (h1 : Grows { st with lo := st.heap.length } st1) (h : finishCall st st1 v = (v', st')) : Grows st st' := by
  unfold finishCall at h
  split at h
  · rename_i hle
    split at h
    · cases h; exact .push
    · cases h; exact ⟨Nat.le_refl _, h1.2.1, fun l _ h2 => h1.2.2 l (by omega) h2⟩
  · cases h; exact h1.reset
theorem round_grows (hc : GrowCode rec) {l : Nat} {args : List PV} {r : CR} {st' : St} (hs : round rec l args st = some (r, st')) (hlo : st.lo ≤ st.heap.length) : Grows st st' := by
  unfold round at hs
  split at hs
  · split at hs
    · cases hs
    · split at hs
      · rename_i h1
        have g1 := hc _ _ _ _ _ _ h1 hlo
        split at hs
        · rename_i h2
          have g2 := g1.trans (setLoop_grows h2)
          split at hs
          all_goals first
            | (rename_i h3
               have g3 := g2.trans (hc _ _ _ _ _ _ h3 (g2.hlo hlo))
               obtain ⟨q, hq, he⟩ := Option.map_eq_some_iff.1 hs
               cases he
               exact g3.trans (setLoop_grows hq))
            | cases hs
        · cases hs
      · cases hs
  · cases hs
theorem enter_grows (hp : PrimGrows E) (hg : GrowCall rec) (hc : GrowCode rec) {f : Nat} {args : List PV} {r : CR} {st' : St} (hs : enter E rec f args st = some (r, st')) (hlo : st.lo ≤ st.heap.length) : Grows st st' := by
  unfold enter at hs
  split at hs
  · rename_i hpr
    subst hs
    exact hp _ _ _ _ _ _ hg hc hpr hlo
  · split at hs
    · cases hs
    · split at hs
      · rename_i h1
        have g1 := hc _ _ _ _ _ _ h1 (Nat.le_refl _)
        split at hs
        · split at hs
          rename_i hf
          cases hs
          exact finishCall_grows g1 hf
        · cases hs
      · rename_i h1
        have g1 := hc _ _ _ _ _ _ h1 (Nat.le_refl _)
        split at hs
        · split at hs
          rename_i hf
          cases hs
          exact finishCall_grows g1 hf
        · cases hs
      · rename_i h1
        have g1 := hc _ _ _ _ _ _ h1 (Nat.le_refl _)
        cases hs
        exact g1.reset
      · cases hs
theorem stepCall_grows (hp : PrimGrows E) (hg : GrowCall rec) (hc : GrowCode rec) : GrowCall ⟨stepCode E rec, stepCall E rec⟩ := by
  intro f args st r st' h hlo
  simp only [stepCall] at h
  split at h
  · exact enter_grows hp hg hc h hlo
  · exact round_grows hc h hlo
  · cases h
theorem stepCode_grows (hg : GrowCall rec) (hc : GrowCode rec) : GrowCode ⟨stepCode E rec, stepCall E rec⟩ := by
  intro dc tm st e tm' st' h hlo
  cases dc with
  | skip => simp only [stepCode] at h; cases h; exact .refl _
  | exit id => simp only [stepCode] at h; cases h; exact .refl _
  | ret => simp only [stepCode] at h; cases h; exact .refl _
  | region ops => exact stepOps_grows hg h hlo
  | dregion ops free =>
    simp only [stepCode] at h
    split at h
    · rename_i hs
      split at h
      · cases h; exact stepOpsD_grows hg hs hlo
      · cases h
    · cases h
  | seq a b =>
    simp only [stepCode] at h
    split at h
    · rename_i h1
      have g1 := hc _ _ _ _ _ _ h1 hlo
      exact g1.trans (hc _ _ _ _ _ _ h (g1.hlo hlo))
    · exact hc _ _ _ _ _ _ h hlo
  | cond c a b =>
    simp only [stepCode] at h
    split at h
    · exact hc _ _ _ _ _ _ h hlo
    · exact hc _ _ _ _ _ _ h hlo
    · cases h
  | block id b =>
    simp only [stepCode] at h
    split at h
    · rename_i h1
      split at h <;> (cases h; exact hc _ _ _ _ _ _ h1 hlo)
    · exact hc _ _ _ _ _ _ h hlo
  | loop b =>
    simp only [stepCode] at h
    split at h
    · rename_i h1
      have g1 := hc _ _ _ _ _ _ h1 hlo
      exact g1.trans (hc _ _ _ _ _ _ h (g1.hlo hlo))
    · exact hc _ _ _ _ _ _ h hlo
  | scope b => exact hc _ _ _ _ _ _ h hlo
  | rangeFunc f ps as bd =>
    simp only [stepCode] at h
    split at h
    · split at h
      · rename_i h1
        have g0 : Grows st { st with heap := st.heap ++ [.loop tm ps as bd .ready none] } := .push
        have g1 := g0.trans (hg _ _ _ _ _ h1 (g0.hlo hlo))
        split at h
        all_goals first
          | (rename_i h2; cases h; exact g1.trans (setLoop_grows h2))
          | cases h
      · cases h
    · cases h
theorem run_grows (hp : PrimGrows E) : ∀ n, GrowCall (run E n) ∧ GrowCode (run E n)
  | 0 => ⟨fun _ _ _ _ _ h => (by simp [run] at h), fun _ _ _ _ _ _ h => (by simp [run] at h)⟩
  | n + 1 => by
    obtain ⟨h1, h2⟩ := run_grows hp n
    exact ⟨stepCall_grows hp h1 h2, stepCode_grows h1 h2⟩
end
end Go.Den
end
section
namespace Go.Den
section
variable{P:Program}{B0:Nat}{w0:World}{G:Gh}{st:St}{w:World}{tm:List PV}{a:Act}{E:Env}{rec:Rec}
theorem RoundOK.wide{w:World}:RoundOK Fence.wide w:=fun l h=>by cases h
theorem foldl_zip(ps:Array Nat)(avs:List Value)(tv:Array Value):(ps.zip avs.toArray).foldl (fun tmps (t,a)=>tmps.setIfInBounds t a) tv=(ps.toList.zip avs).foldl (fun tmps (t,a)=>tmps.setIfInBounds t a) tv:=by
 rw[← Array.foldl_toList]
 simp
theorem round_ok(hg:GrowCode rec)(hcode:SoundCode P B0 w0 rec){l:Nat}{args:List PV}{r:CR}{st':St}(hs:round rec l args st=some (r,st'))(hlo:st.lo≤st.heap.length)
  {avs:List Value} (hw:WR P B0 w0 G st.heap w) (ha:VRL G w args avs) {b:Nat} (hb:G.be l=some b):∃ rr:Loop,w.heap[b]? = some (Obj.loop rr)∧avs.length=rr.params.size ∧
   ∀ n,RoundIn Fence.wide n P b rr.fn ((rr.params.zip avs.toArray).foldl (fun tmps (t,a)=>tmps.setIfInBounds t a) rr.tmps) rr.assign rr.body w (CallR P B0 w0 G st w r st'):=by
 unfold round at hs
 split at hs
 ·rename_i tm ps as bd s0 p0 hh
  split at hs
  ·cases hs
  ·rename_i tm0 hset
   split at hs
   ·rename_i tm1 st1 has
    split at hs
    ·rename_i p1 st2 hsl
     obtain⟨_,_,_,_,o,h1,h2⟩:=hw.obj hb
     rw[hh] at h1;cases h1
     obtain⟨rr,h3,h4,h5,⟨mu,hcA,hcB⟩,h7,h8⟩:=h2
     subst h5
     obtain⟨hv0,hlen⟩:=setParams_ok (tv:=rr.tmps) hset h4 ha
     refine⟨rr,h3,by simpa using hlen,fun n=>roundIn_of_wpIn trivial ?_⟩
     rw[foldl_zip]
     have hF:IsWide (Fence.wide.inRound b) := .inr ⟨b,rfl⟩
     have hro:RoundOK (Fence.wide.inRound b) w:=fun l' hl'=>by cases hl';exact⟨rr,h3⟩
     have g1:=hg _ _ _ _ _ _ has hlo
     have g2:=setLoop_grows hsl
     refine wpIn_mono (hcode mu _ _ hcA _ _ _ _ _ has hlo _ n hF 0 G w _ hw hv0 (Nat.zero_le _) trivial hro) (fun x a1 w1 hp=>?_)
     obtain⟨G1,hw1,hx1,he1,ht1,hd1⟩:=hp
     simp only[ExR] at he1
     subst he1
     have ht1:=ht1.resolve_left id
     have hb1:=hx1.pres.be hb
     obtain⟨-,r1,k1,k2,k3,k4⟩:=setLoop_ok hw1 hb1 hsl
     obtain⟨hw2,hx2⟩:=k4 .busy r1.pending rfl k3
     simp only[LStR] at k2
     refine⟨_,run_beginRound k1 k2,?_⟩
     have glo2:st2.lo≤st2.heap.length:=g2.hlo (g1.hlo hlo)
     have hx12:=hx1.transMin hx2 g2.1
     have body:∀ {e:Ex} {tm3:List PV} {st3:St},rec.code bd tm1 st2=some (e,tm3,st3)→∀ {ls:LSt} {pj:Option Jump} {lst:LoopState} {jc:Option Code} {v:Bool},
       (setLoop st3 l ls fun _=>pj).map (fun r=>(CR.ret (.bool v),r.2.2))=some (r,st')→LStR ls lst→JumpR pj jc→v=jc.isNone→lst=(if jc.isNone then .ready else .done) →
       ∀ {Q:Exit→Act→World→Prop},(∀ G3 w3 x a3,ExR G3 w3 e x→(∃ v w4,(Instr.endRound b jc).run P w3 = .ok v w4∧CallR P B0 w0 G st w r st' (.returned v) w4)→Q x a3 w3) →
       rr.body.wpIn (Fence.wide.inRound b) n P Q a1 (w1.putObj b (.loop { r1 with state := .busy })):=by
      intro e tm3 st3 hbody ls pj lst jc v hend hls hpj hv hlst Q hQ
      obtain⟨⟨q1,q2,st4⟩,hq1,hq2⟩:=Option.map_eq_some_iff.1 hend
      cases hq2
      have g3:=hg _ _ _ _ _ _ hbody glo2
      have g4:=setLoop_grows hq1
      refine wpIn_mono (hcode mu _ _ hcB _ _ _ _ _ hbody glo2 _ n hF 0 G1 _ _ hw2 (VRL.mono hx2.pres ht1) (Nat.zero_le _) ((hd1.ext hx2 (Nat.le_refl _)).le hx2.size) (hro.ext hx12)) (fun x a3 w3 hp=>?_)
      obtain⟨G3,hw3,hx3,he3,-,-⟩:=hp
      refine hQ G3 w3 x a3 he3 ?_
      obtain⟨-,r3,m1,m2,m3,m4⟩:=setLoop_ok hw3 (hx3.pres.be hb1) hq1
      obtain⟨hw4,hx4⟩:=m4 lst jc hls hpj
      subst hlst
      refine⟨_,_,run_endRound jc m1,G3,hw4,(hx12.transMin hx3 g3.1).transMin hx4 g4.1,_,rfl,?_⟩
      subst hv
      simp only[VR]
     split at hs
     ·rename_i hbd
      refine body hbd hs (lst := .ready) (jc:=none) rfl rfl rfl rfl (fun G3 w3 x a3 he hr=>?_)
      simp only[ExR] at he;subst he
      exact hr
     ·rename_i hbd
      refine body hbd hs (lst := .done) (jc:=some .ret) rfl rfl rfl rfl (fun G3 w3 x a3 he hr=>?_)
      simp only[ExR] at he;subst he
      exact hr
     ·rename_i id _ _ hbd
      refine body hbd hs (lst := .done) (jc:=some (.exit id)) rfl rfl rfl rfl (fun G3 w3 x a3 he hr=>?_)
      simp only[ExR] at he;subst he
      exact hr
     ·cases hs
    ·cases hs
   ·cases hs
 ·cases hs
def resSem (tv:Array Value):ResultVar→Sem Value
 | .tmp t=>pure (tv.getD t Go.undef)
 | .cell a t=>do loadVar t (← asAddr (tv.getD a Go.undef))
theorem rdRes_ok(hw:WR P B0 w0 G st.heap w){tv:Array Value}(ht:VRL G w tm tv.toList){rv:ResultVar}{d:DRes}(hc:resC P rv=some d){p:PV}(hr:rdRes tm st.heap d=some p) :
  ∃ v,(resSem tv rv).run P w = .ok v w∧VR G w p v:=by
 cases rv with
 | tmp t =>
  simp only[resC] at hc;cases hc
  simp only[rdRes] at hr;cases hr
  refine⟨tv.getD t Go.undef,by simp[resSem],?_⟩
  have:=ht.getD t
  simpa using this
 | cell a t =>
  simp only[resC] at hc
  split at hc
  ·rename_i hok
   obtain⟨s,hs,hd⟩:=Option.map_eq_some_iff.1 hc
   cases hd
   simp only[rdRes] at hr
   have hx:=ht.getD a
   split at hr
   ·rename_i l off hev
    rw[hev] at hx
    simp only[VR] at hx
    obtain⟨b,h1,h2⟩:=hx
    split at hr
    ·rename_i cs hh
     split at hr
     ·obtain⟨arr,T,h5,h6⟩:=hw.row h1 hh
      obtain⟨v,h7,h8⟩:=loadVar_ok hok hs (VRC.of_row (off:=off) h5 (h6.drop off) (fun j u hj=>by simpa using hj)) hr
      refine⟨v,?_,h8⟩
      have h2':tv.getD a Go.undef = .pointer (some ⟨b,off,none⟩):=by simpa using h2
      simp[resSem,h2',asAddr,h7]
     ·cases hr
    ·cases hr
   ·cases hr
  ·cases hc
theorem rdResL_ok(hw:WR P B0 w0 G st.heap w){tv:Array Value}(ht:VRL G w tm tv.toList):∀ {rvs:List ResultVar} {ds:List DRes} {ps:List PV},ressC P rvs=some ds→rdResL tm st.heap ds=some ps →
  ∃ vs:List Value,(rvs.mapM (resSem tv)).run P w = .ok vs w∧VRL G w ps vs
 | [],ds,ps,hc,hr=>by
  simp only[ressC] at hc;cases hc
  simp only[rdResL] at hr;cases hr
  exact⟨[],by simp,VRL.nil_iff.2 rfl⟩
 | rv::rvs,ds,ps,hc,hr=>by
  simp only[ressC] at hc
  split at hc
  ·rename_i d ds' h1 h2
   cases hc
   simp only[rdResL] at hr
   split at hr
   ·rename_i p ps' h3 h4
    cases hr
    obtain⟨v,h5,h6⟩:=rdRes_ok hw ht h1 h3
    obtain⟨vs,h7,h8⟩:=rdResL_ok hw ht h2 h4
    refine⟨v::vs,?_,VRL.cons h6 h8⟩
    rw[List.mapM_cons,Sem.run_bind,h5,Result.andThen_ok,Sem.run_bind,h7,Result.andThen_ok,Sem.run_pure]
   ·cases hr
  ·cases hc
theorem results_ok(hw:WR P B0 w0 G st.heap w){tv:Array Value}(ht:VRL G w tm tv.toList){fn:Func}{ds:List DRes}{p:PV}(hc:ressC P fn.results.toList=some ds)(hr:results tm st.heap ds=some p) :
  ∃ v,(Go.results fn tv).run P w = .ok v w∧VR G w p v:=by
 unfold results at hr
 have fin:∀ ps,rdResL tm st.heap ds=some ps→∃ vs:List Value,(Go.results fn tv).run P w = .ok (if h:vs.toArray.size=1 then vs.toArray[0] else .tuple vs.toArray) w∧VRL G w ps vs:=by
  intro ps hps
  obtain⟨vs,h1,h2⟩:=rdResL_ok hw ht hc hps
  refine⟨vs,?_,h2⟩
  unfold Go.results
  rw[Sem.run_bind,Array.mapM_eq_mapM_toList,Sem.run_map]
  erw [h1]
  rfl
 split at hr
 ·rename_i v hv
  cases hr
  obtain⟨vs,h1,h2⟩:=fin _ hv
  obtain⟨u,us,rfl,h3,h4⟩:=VRL.cons_iff.1 h2
  rw[VRL.nil_iff.1 h4] at h1
  exact⟨u,by simpa using h1,h3⟩
 ·rename_i ps hne hv
  cases hr
  obtain⟨vs,h1,h2⟩:=fin _ hv
  have hl:=h2.length
  have hlen:¬ vs.toArray.size=1:=by
   intro h
   have:ps.length=1:=by rw[← hl];simpa using h
   obtain⟨x,hx⟩:=List.length_eq_one_iff.1 this
   exact hne x hx
  rw[dif_neg hlen] at h1
  exact⟨_,h1,by simp only[VR];exact⟨_,rfl,h2⟩⟩
 ·cases hr
theorem DefsOK.put{B:Nat}{r:Nat}{o:Obj}:∀ {ds:List Deferred} {N:Nat},N≤r→DefsOK B G w ds N→DefsOK B G (w.putObj r o) ds N
 | [],_,_,_=>trivial
 | d::ds,N,hN,h=>by
  obtain⟨r',h1,h2,h3,h4,h5,h6,h7⟩:=h
  refine⟨r',h1,h2,?_,h4,h5,h6,h7.put (by omega)⟩
  rw[World.putObj_heap_other (by omega)]
  exact h3
theorem leaves_ok{F:Fence}{n:Nat}{fn:Func}{tmps:Array Value}{R:Ending→World→Prop}{u:FrameMode}(hu:u ≠ .run){G0:Gh}{h0 h1:List HObj}{wS:World}{lo:Nat}(hB:B0≤wS.heap.size):∀ {ds:List Deferred} {N:Nat} {w1:World},DefsOK wS.heap.size G w1 ds N→WR P B0 w0 G h1 w1→Ext G0 h0 wS G h1 w1 lo →
  (∀ w2,WR P B0 w0 G h1 w2→Ext G0 h0 wS G h1 w2 lo→Pres G w1 G w2→LeavesIn F n P fn tmps R [] u w2)→LeavesInM F n P fn tmps R ds u w1
 | [],N,w1,hd,hw,hx,hk=>hk w1 hw hx (.refl _ _)
 | d::ds,N,w1,hd,hw,hx,hk=>by
  obtain⟨r,h1,h2,h3,h4,h5,h6,h7⟩:=hd
  subst h1
  have hr:r<w1.heap.size:=(Array.getElem?_eq_some_iff.1 h3).1
  obtain⟨p1,p2,p3⟩:=put_raw hw hx (.deferred none) hr h2.1 (by omega) h4 h5 h6 ⟨_,h3⟩
  exact⟨hu,.inl ⟨r,_,rfl,run_takeDeferred h3,leaves_ok hu hB (h7.put (Nat.le_refl _)) p1 p2 (fun w2 q1 q2 q3=>hk w2 q1 q2 (p3.trans q3))⟩⟩
structure EnvFn (P:Program) (E:Env):Prop where
 fn:∀ g df,E.fn g=some df→∃ fn mu,P.funcs[g]? = some fn∧funcC P mu fn=some df∧(fn.name== "runtime.NumGoroutine")=false
def PrimOK (P:Program) (B0:Nat) (w0:World) (E:Env):Prop:=∀ g rec args st r st',GrowCall rec→GrowCode rec→SoundCall P B0 w0 rec→SoundCode P B0 w0 rec→E.prim g rec args st=some (some (r,st'))→st.lo≤st.heap.length →
  ∀ G w avs,WR P B0 w0 G st.heap w→VRL G w args avs→Enterable P g∧∀ n,CallsIn Fence.wide n P g avs.toArray w (CallR P B0 w0 G st w r st')
theorem enter_ok(hE:EnvFn P E)(hP:PrimOK P B0 w0 E)(hgc:GrowCall rec)(hg:GrowCode rec)(hcall:SoundCall P B0 w0 rec)(hcode:SoundCode P B0 w0 rec){g:Nat}{args:List PV}{r:CR}{st':St}(hs:enter E rec g args st=some (r,st'))(hlo:st.lo≤st.heap.length)
  {avs:List Value} (hw:WR P B0 w0 G st.heap w) (ha:VRL G w args avs):Enterable P g∧∀ n,CallsIn Fence.wide n P g avs.toArray w (CallR P B0 w0 G st w r st'):=by
 unfold enter at hs
 split at hs
 ·rename_i hpr
  subst hs
  exact hP g rec args st r st' hgc hg hcall hcode hpr hlo G w avs hw ha
 ·split at hs
  ·cases hs
  ·rename_i df hdf
   obtain⟨fn,mu,hf,hfc,hname⟩:=hE.fn g df hdf
   unfold funcC at hfc
   split at hfc
   ·rename_i bc hbody
    split at hfc
    ·rename_i dc rs hc1 hc2
     cases hfc
     refine⟨⟨fn,hf,hname,by rw[hbody];rfl⟩,fun n=>?_⟩
     have ht0:VRL G w (args++List.replicate (fn.ntmps - args.length) undef) (avs.toArray++Array.replicate (fn.ntmps - avs.toArray.size) Go.undef).toList:=by
      have hl:=ha.length
      simp only[Array.toList_append,List.size_toArray,Array.toList_replicate,hl]
      exact ha.append (VRL.replicate VR.undef _)
     have fin:∀ {e:Ex} {tm1:List PV} {st1:St},rec.code dc (args++List.replicate (fn.ntmps - args.length) undef) { st with lo:=st.heap.length }=some (e,tm1,st1) →
       (∀ G1 w1 x a1,ExR G1 w1 e x→(isPanic e∨VRL G1 w1 tm1 a1.tmps.toList)→WR P B0 w0 G1 st1.heap w1→Ext G st.heap w G1 st1.heap w1 st1.lo→DefsOK w.heap.size G1 w1 a1.defers w1.heap.size→st1.lo≤st.heap.length→bodyPostM Fence.wide n P fn (CallR P B0 w0 G st w r st') x a1 w1) →
       CallsIn Fence.wide n P g avs.toArray w (CallR P B0 w0 G st w r st'):=by
      intro e tm1 st1 hrun hk
      refine callsIn_of_wp_marks hf hbody trivial ?_
      have hg1:=hg _ _ _ _ _ _ hrun (Nat.le_refl _)
      refine wpIn_mono (hcode mu _ _ hc1 _ _ _ _ _ hrun (Nat.le_refl _) Fence.wide n (.inl rfl) w.heap.size G w _ hw ht0 (Nat.le_refl _) trivial RoundOK.wide) (fun x a1 w1 hp=>?_)
      obtain⟨G1,hw1,hx1,he1,ht1,hd1⟩:=hp
      exact hk G1 w1 x a1 he1 ht1 hw1 hx1 hd1 hg1.1
     have retn:∀ {tm1:List PV} {st1:St} {v v':PV} {st2:St},results tm1 st1.heap rs=some v→finishCall st st1 v=(v',st2)→CR.ret v'=r→st2=st'→∀ (G1:Gh) (w1:World) (a1:Act),VRL G1 w1 tm1 a1.tmps.toList→WR P B0 w0 G1 st1.heap w1→Ext G st.heap w G1 st1.heap w1 st1.lo→DefsOK w.heap.size G1 w1 a1.defers w1.heap.size→st1.lo≤st.heap.length →
       LeavesInM Fence.wide n P fn a1.tmps (CallR P B0 w0 G st w r st') a1.defers .returning w1:=by
      intro tm1 st1 v v' st2 hres hfin hr hst G1 w1 a1 ht1 hw1 hx1 hd1 hl1
      refine leaves_ok (by simp) hw.low.1 hd1 hw1 hx1 (fun w2 q1 q2 q3=>?_)
      obtain⟨u,h5,h6⟩:=results_ok q1 (VRL.mono q3 ht1) hc2 hres
      obtain⟨G2,m1,m2,m3,m4⟩:=finish_ok hw q1 q2 hl1 h6 hfin hlo
      refine⟨u,h5,?_⟩
      subst hr;subst hst
      exact⟨G2,m1,m2,u,rfl,m3⟩
     split at hs
     ·rename_i hrun
      split at hs
      ·rename_i hres
       split at hs
       rename_i hfin
       cases hs
       refine fin hrun (fun G1 w1 x a1 he ht hw1 hx1 hd1 hl1=>?_)
       simp only[ExR] at he;subst he
       exact retn hres hfin rfl rfl G1 w1 a1 (ht.resolve_left id) hw1 hx1 hd1 hl1
      ·cases hs
     ·rename_i hrun
      split at hs
      ·rename_i hres
       split at hs
       rename_i hfin
       cases hs
       refine fin hrun (fun G1 w1 x a1 he ht hw1 hx1 hd1 hl1=>?_)
       simp only[ExR] at he;subst he
       exact retn hres hfin rfl rfl G1 w1 a1 (ht.resolve_left id) hw1 hx1 hd1 hl1
      ·cases hs
     ·rename_i hrun
      cases hs
      refine fin hrun (fun G1 w1 x a1 he ht hw1 hx1 hd1 hl1=>?_)
      obtain⟨u,rfl,hu⟩:=he
      refine leaves_ok (by simp) hw.low.1 hd1 hw1 hx1 (fun w2 q1 q2 q3=>?_)
      exact⟨G1,q1,q2.lo (Nat.min_le_right _ _),u,rfl,VR.mono q3 hu⟩
     ·cases hs
    ·cases hfc
   ·cases hfc
end
end Go.Den
end
section
namespace Go.Den
section
variable{P:Program}{B0:Nat}{w0:World}{G:Gh}{st:St}{w:World}{tm:List PV}{a:Act}{E:Env}{rec:Rec}
def SoundDraw (P:Program) (B0:Nat) (w0:World) (E:Env) (rec:Rec):Prop :=
 ∀ mu id ops ds free,codeC P mu (.region id ops true)=some (.dregion ds free)→∀ tm st e tm' st' fs,stepOpsD E rec ds tm st=some (e,tm',st',fs)→footOk fs free=true→st.lo≤st.heap.length →
  ∀ F n,IsWide F→∀ B G w a,WR P B0 w0 G st.heap w→VRL G w tm a.tmps.toList→DefsOK B G w a.defers w.heap.size→(Code.region id ops true).wpIn F n P (Post P B0 w0 B G st w e tm' st') a w
theorem then_of_ne{G:Gh}{w:World}{e:Ex}{x:Exit}{K:Act→World→Prop}{Q:Exit→Act→World→Prop}{a:Act}{w':World}(h:ExR G w e x)(hn:e ≠ .normal)(hq:Q x a w'):Exit.then K Q x a w':=by
 cases e with
 | normal=>exact absurd rfl hn
 | ret=>simp only[ExR] at h;subst h;exact hq
 | exit id=>simp only[ExR] at h;subst h;exact hq
 | panic v=>obtain⟨u,rfl,_⟩:=h;exact hq
theorem noGoto_of{G:Gh}{w:World}{e:Ex}{x:Exit}{Q:Exit→Act→World→Prop}{a:Act}{w':World}(h:ExR G w e x)(hq:Q x a w'):Exit.noGoto Q x a w':=by
 cases e with
 | normal=>simp only[ExR] at h;subst h;exact hq
 | ret=>simp only[ExR] at h;subst h;exact hq
 | exit id=>simp only[ExR] at h;subst h;exact hq
 | panic v=>obtain⟨u,rfl,_⟩:=h;exact hq
theorem loop_ok(mu:TypeId→Bool){c:Code}{dc:DCode}(hc:codeC P mu c=some dc)(N:Nat)(ih:∀ j,j<N→SoundCode P B0 w0 (run E j))(hg:∀ j,GrowCode (run E j)){e:Ex}{tm':List PV}{st':St}(hs:(run E N).code (.loop dc) tm st=some (e,tm',st'))(hlo:st.lo≤st.heap.length)
  {F:Fence} {n:Nat} (hF:IsWide F) {B:Nat} (hw:WR P B0 w0 G st.heap w) (ht:VRL G w tm a.tmps.toList) (hB:B≤w.heap.size) (hd:DefsOK B G w a.defers w.heap.size) (hro:RoundOK F w) :
  (Code.loop c).wpIn F n P (Post P B0 w0 B G st w e tm' st') a w:=by
 refine wpIn_loop_idx (J:=fun i a1 w1=>i≤N∧∃ tm1 st1 G1,(run E i).code (.loop dc) tm1 st1=some (e,tm',st')∧st1.lo≤st1.heap.length∧Grows st st1∧WR P B0 w0 G1 st1.heap w1∧Ext G st.heap w G1 st1.heap w1 st1.lo∧VRL G1 w1 tm1 a1.tmps.toList∧DefsOK B G1 w1 a1.defers w1.heap.size) N
  ⟨Nat.le_refl _,tm,st,G,hs,hlo,.refl _,hw,.refl _ _ _ _,ht,hd⟩ (fun i a1 w1 hJ=>?_)
 obtain⟨hi,tm1,st1,G1,hs1,hlo1,hg1,hw1,hx1,ht1,hd1⟩:=hJ
 cases i with
 | zero=>simp[run] at hs1
 | succ j =>
  simp only[run,stepCode] at hs1
  have hBw:B≤w1.heap.size:=Nat.le_trans hB hx1.size
  split at hs1
  ·rename_i tm2 st2 hb
   have g2:=hg j _ _ _ _ _ _ hb hlo1
   refine wpIn_mono (ih j (by omega) mu _ _ hc _ _ _ _ _ hb hlo1 F n hF B G1 w1 a1 hw1 ht1 hBw hd1 (hro.ext hx1)) (fun x a2 w2 hp=>?_)
   obtain⟨G2,hw2,hx2,he2,ht2,hd2⟩:=hp
   simp only[ExR] at he2;subst he2
   exact⟨j,Nat.lt_succ_self _,by omega,tm2,st2,G2,hs1,g2.hlo hlo1,hg1.trans g2,hw2,hx1.transMin hx2 g2.1,ht2.resolve_left id,hd2⟩
  ·rename_i hne
   have g2:=hg j _ _ _ _ _ _ hs1 hlo1
   refine wpIn_mono (ih j (by omega) mu _ _ hc _ _ _ _ _ hs1 hlo1 F n hF B G1 w1 a1 hw1 ht1 hBw hd1 (hro.ext hx1)) (fun x a2 w2 hp=>?_)
   obtain⟨G2,hw2,hx2,he2,ht2,hd2⟩:=hp
   exact then_of_ne he2 (fun he=>by subst he;exact hne _ _ hs1) ⟨G2,hw2,hx1.transMin hx2 g2.1,he2,ht2,hd2⟩
theorem rangeFunc_ok(mu:TypeId→Bool){f:Operand}{d:Opd}{ps:Array Tmp}{as bd:Code}{das dbd:DCode}(hf:opd f=some d)(hcA:codeC P mu as=some das)(hcB:codeC P mu bd=some dbd)(hgc:GrowCall rec)(hcall:SoundCall P B0 w0 rec)
  {e:Ex} {tm':List PV} {st':St} (hs:stepCode E rec (.rangeFunc d ps.toList das dbd) tm st=some (e,tm',st')) (hlo:st.lo≤st.heap.length)
  {F:Fence} {n:Nat} (hF:IsWide F) {B:Nat} (hw:WR P B0 w0 G st.heap w) (ht:VRL G w tm a.tmps.toList) (hB:B≤w.heap.size) (hd:DefsOK B G w a.defers w.heap.size) (hro:RoundOK F w) :
  (Code.rangeFunc f ps as bd).wpIn F n P (Post P B0 w0 B G st w e tm' st') a w:=by
 simp only[stepCode] at hs
 split at hs
 ·rename_i g fa fc hev
  split at hs
  ·rename_i v st1 hr
   have hx:=opd_ok ht hf
   rw[hev] at hx
   have hx0:=hx
   simp only[VR] at hx
   obtain⟨fi,ca,hfv,_,_⟩:=hx
   have hlo0:st.lo≤(st.heap++[HObj.loop tm ps.toList das dbd .ready none]).length:=by simp;omega
   have g1:Grows { st with heap:=st.heap++[.loop tm ps.toList das dbd .ready none] } st1:=hgc _ _ _ _ _ hr hlo0
   have main:∀ (fn:FuncId) (l:Nat) (mark:List Deferred) (w1:World) (G1:Gh),(Instr.enterLoop fn a.tmps ps as bd F.round).run P w = .ok (l,mark) w1→G1.be st.heap.length=some l→WR P B0 w0 G1 (st.heap++[.loop tm ps.toList das dbd .ready none]) w1 →
     Ext G st.heap w G1 (st.heap++[.loop tm ps.toList das dbd .ready none]) w1 st.lo→DefsOK B G1 w1 (mark++a.defers) w1.heap.size →
     ∃ (l:Nat) (mark:List Deferred) (w₁:World) (d:Deferred) (w₁':World) (f':FuncId) (args:Array Value) (w₂:World),
      (Instr.enterLoop fn a.tmps ps as bd F.round).run P w = .ok (l,mark) w₁ ∧
      (resolve a.eval (rangeCall f l) 0).run P w₁ = .ok d w₁' ∧
      (∀ f',Target.leads P w₁' d.target d.args=some f'→F.fn f') ∧
      (invoke d.target d.args).run P w₁' = .ok (.enter f' args) w₂ ∧
      (F.depth.isSome=true→1≤n) ∧
      CallsIn F (n - 1) P f' args w₂ (rangePost F n P l (Post P B0 w0 B G st w e tm' st') { a with defers:=mark++a.defers }):=by
    intro fn l mark w1 G1 hent hbe hw1 hx1 hd1
    have hy:VR G1 w1 (.yield st.heap.length) (.func (.yield l) #[] #[]):=by simp only[VR];exact⟨l,hbe,rfl⟩
    obtain⟨_,hok⟩:=hcall _ _ _ _ _ hr hlo0
    obtain⟨h4,h5⟩:=hok G1 w1 _ _ hw1 (VR.mono hx1.pres (hfv ▸ hx0)) (VRL.cons hy (VRL.nil_iff.2 rfl)) fi ca rfl
    refine⟨l,mark,w1,{ target := .fn (.func g) ca,args:=fi++#[.func (.yield l) #[] #[]] },w1,g,fi++#[.func (.yield l) #[] #[]]++ca,w1,hent,?_,fun f' _=>hF.fn f',?_,fun h=>(by rw[hF.depth] at h;cases h),?_⟩
    ·have hy':a.eval (.const (.func (.yield l) #[] #[])) = .func (.yield l) #[] #[]:=rfl
     simp[resolve,rangeCall,hfv,Deferred.ofValue,hy']
    ·simp only[invoke,callFunc_run h4]
    ·refine (hF.calls (h5 0)).mono (fun en w3 hR=>?_)
     obtain⟨G2,hw2,hx2,hvv⟩:=hR
     obtain⟨u,rfl,_⟩:=hvv
     have fin:∀ {s0:LSt} {p0:Option Jump} {st2:St},setLoop st1 st.heap.length .over id=some (s0,p0,st2)→∃ r2:Loop,(Instr.endLoop l).run P w3 = .ok r2.pending (w3.putObj l (.loop { r2 with state := .exhausted }))∨s0 = .busy:=by
      intro s0 p0 st2 hsl
      obtain⟨-,r2,m1,m2,m3,m4⟩:=setLoop_ok hw2 (hx2.pres.be hbe) hsl
      cases s0 with
      | busy=>exact⟨r2,.inr rfl⟩
      | ready=>simp only[LStR] at m2;exact⟨r2,.inl (run_endLoop m1 (by rw[m2];simp))⟩
      | done=>simp only[LStR] at m2;exact⟨r2,.inl (run_endLoop m1 (by rw[m2];simp))⟩
      | over=>simp only[LStR] at m2;exact⟨r2,.inl (run_endLoop m1 (by rw[m2];simp))⟩
     have post:∀ {s0:LSt} {p0:Option Jump} {st2:St} {e2:Ex} {x:Exit},setLoop st1 st.heap.length .over id=some (s0,p0,st2)→s0 ≠ .busy→(∀ G w,ExR G w e2 x)→(e2,tm,st2)=(e,tm',st') →
       ∃ r2:Loop,JumpR p0 r2.pending∧(Instr.endLoop l).run P w3 = .ok r2.pending (w3.putObj l (.loop { r2 with state := .exhausted }))∧Post P B0 w0 B G st w e tm' st' x { a with defers:=mark++a.defers } (w3.putObj l (.loop { r2 with state := .exhausted })):=by
      intro s0 p0 st2 e2 x hsl hnb hex heq
      cases heq
      obtain⟨g2,r2,m1,m2,m3,m4⟩:=setLoop_ok hw2 (hx2.pres.be hbe) hsl
      obtain⟨hw4,hx4⟩:=m4 .exhausted r2.pending rfl m3
      have hrs:r2.state ≠ .busy:=by
       cases s0 <;> simp only[LStR] at m2 <;> rw[m2] <;> first|exact absurd rfl hnb|simp
      have hx:Ext G st.heap w G2 _ _ _:=(hx1.transMin hx2 g1.1).transMin hx4 g2.1
      have hp4:Pres G1 w1 G2 (w3.putObj l (.loop { r2 with state := .exhausted })):=hx2.pres.trans hx4.pres
      refine⟨r2,m3,run_endLoop m1 hrs,G2,hw4,hx,hex _ _,.inr (VRL.mono hx.pres ht),?_⟩
      have hd2:=(hd1.ext hx2 (Nat.le_refl _)).le hx2.size
      exact (hd2.ext hx4 (Nat.le_refl _)).le hx4.size
     split at hs
     ·rename_i st2 hsl
      obtain⟨r2,m1,m2,m3⟩:=post (e2 := .normal) (x := .normal) hsl (by simp) (fun _ _=>rfl) (Option.some.inj hs)
      simp only[JumpR] at m1
      rw[m1] at m2 m3
      exact⟨none,_,m2,m3⟩
     ·rename_i st2 hsl
      obtain⟨r2,m1,m2,m3⟩:=post (e2 := .ret) (x := .ret) hsl (by simp) (fun _ _=>rfl) (Option.some.inj hs)
      simp only[JumpR] at m1
      rw[m1] at m2 m3
      exact⟨some .ret,_,m2,wpIn_ret m3⟩
     ·rename_i id st2 hsl
      obtain⟨r2,m1,m2,m3⟩:=post (e2 := .exit id) (x := .exit id) hsl (by simp) (fun _ _=>rfl) (Option.some.inj hs)
      simp only[JumpR] at m1
      rw[m1] at m2 m3
      exact⟨some (.exit id),_,m2,wpIn_exit m3⟩
     ·cases hs
   refine wpIn_rangeFunc (fun fn hfn=>?_)
   have lay:∀ (wa:World) (hwa:WR P B0 w0 G st.heap wa) (hxa:Ext G st.heap w G st.heap wa st.lo) (r:Loop),r.tmps=a.tmps→r.params=ps→r.assign=as→r.body=bd→r.state = .ready→r.pending=none →
     WR P B0 w0 { G with be:=upd G.be st.heap.length (some wa.heap.size) } (st.heap++[.loop tm ps.toList das dbd .ready none]) (wa.alloc (.loop r)) ∧
     Ext G st.heap w { G with be:=upd G.be st.heap.length (some wa.heap.size) } (st.heap++[.loop tm ps.toList das dbd .ready none]) (wa.alloc (.loop r)) st.lo:=by
    intro wa hwa hxa r h1 h2 h3 h4 h5 h6
    obtain⟨k1,k2⟩:=alloc_obj hwa (.loop tm ps.toList das dbd .ready none) (.loop r) (fun G' w' hp hh hb=>by
     refine⟨r,hh,?_,by rw[h2],⟨mu,by rw[h3];exact hcA,by rw[h4];exact hcB⟩,h5,h6⟩
     rw[h1]
     exact VRL.mono (hxa.pres.trans hp) ht)
    exact⟨k1,hxa.trans (k2 _)⟩
   rcases hF with rfl|⟨l0,rfl⟩
   ·obtain⟨a1,a2⟩:=alloc_raw (lo:=st.lo) hw (.deferred (some []))
    obtain⟨b1,b2⟩:=lay _ a1 a2 { state := .ready,pending:=none,fn,tmps:=a.tmps,params:=ps,assign:=as,body:=bd,defers:=w.heap.size } rfl rfl rfl rfl rfl rfl
    refine main fn _ _ _ _ (run_enterLoop_outer _ _ _ _ _) ?_ b1 b2 ?_
    ·show upd _ _ _ _=_
     rw[upd_same,size_alloc]
    ·have hne:∀ l,(upd G.be st.heap.length (some (w.alloc (.deferred (some []))).heap.size)) l≠some w.heap.size:=by
      intro l hl
      by_cases h:l=st.heap.length
      ·subst h;rw[upd_same,size_alloc] at hl;simp at hl
      ·rw[upd_ne _ _ h] at hl;have:=(hw.obj hl).2.1;omega
     refine⟨w.heap.size,rfl,⟨hB,by rw[size_alloc,size_alloc];omega⟩,?_,hne,fun t e he=>?_,?_,?_⟩
     ·rw[heap_alloc_lt _ _ (by rw[size_alloc];omega)]
      exact World.alloc_heap_new _ _
     ·have:=(hw.tag he).2.1;omega
     ·cases hcm:G.cm w.heap.size with
      | none=>rfl
      | some k=>have:=hw.cmLt hcm;omega
     ·exact hd.ext b2 (Nat.le_refl _)
   ·obtain⟨r0,hr0⟩:=hro l0 rfl
    obtain⟨b1,b2⟩:=lay _ hw (.refl _ _ _ _) { state := .ready,pending:=none,fn,tmps:=a.tmps,params:=ps,assign:=as,body:=bd,defers:=r0.defers } rfl rfl rfl rfl rfl rfl
    refine main fn _ _ _ _ (run_enterLoop_inner hr0 _ _ _ _ _) ?_ b1 b2 ?_
    ·show upd _ _ _ _=_
     rw[upd_same]
    ·exact (hd.ext b2 (Nat.le_refl _)).le b2.size
  ·cases hs
 ·cases hs
end
end Go.Den
end
section
namespace Go.Den
section
variable{P:Program}{B0:Nat}{w0:World}{G:Gh}{st:St}{w:World}{tm:List PV}{a:Act}{E:Env}
theorem post_refl{B:Nat}{e:Ex}{x:Exit}(hw:WR P B0 w0 G st.heap w)(ht:VRL G w tm a.tmps.toList)(hd:DefsOK B G w a.defers w.heap.size)(he:ExR G w e x):Post P B0 w0 B G st w e tm st x a w :=
 ⟨G,hw,.refl _ _ _ _,he,.inr ht,hd⟩
theorem code_step(hE:EnvOK P E)(N:Nat)(ih:∀ j,j≤N→SoundCode P B0 w0 (run E j))(hgc:∀ j,GrowCall (run E j))(hg:∀ j,GrowCode (run E j))(hcall:SoundCall P B0 w0 (run E N))(hdraw:SoundDraw P B0 w0 E (run E N)):SoundCode P B0 w0 (run E (N+1)):=by
 intro mu c dc hc tm st e tm' st' hs hlo F n hF B G w a hw ht hB hd hro
 have ihN:=ih N (Nat.le_refl _)
 cases c with
 | skip =>
  simp only[codeC] at hc;cases hc
  simp only[run,stepCode] at hs;cases hs
  exact wpIn_skip (post_refl hw ht hd rfl)
 | label l =>
  simp only[codeC] at hc;cases hc
  simp only[run,stepCode] at hs;cases hs
  exact wpIn_label (post_refl hw ht hd rfl)
 | exit id =>
  simp only[codeC] at hc;cases hc
  simp only[run,stepCode] at hs;cases hs
  exact wpIn_exit (post_refl hw ht hd rfl)
 | ret =>
  simp only[codeC] at hc;cases hc
  simp only[run,stepCode] at hs;cases hs
  exact wpIn_ret (post_refl hw ht hd rfl)
 | region id ops draw =>
  have hc0:=hc
  simp only[codeC] at hc
  split at hc
  ·rename_i ds hds
   cases draw with
   | false =>
    simp only[Bool.false_eq_true,if_false] at hc;cases hc
    simp only[run,stepCode] at hs
    obtain⟨_,h1⟩:=ops_ok hE hcall ops.toList 0 ds tm st e tm' st' rfl hds hs hlo
    refine wpIn_region ?_
    have:=h1 F n hF B G w a hw ht hd
    rw[List.range_eq_range']
    simpa using this
   | true =>
    simp only[if_true] at hc
    split at hc
    ·cases hc
     simp only[run,stepCode] at hs
     split at hs
     ·rename_i fs hs1
      split at hs
      ·rename_i hfo
       cases hs
       exact hdraw mu id ops _ _ hc0 tm st _ _ _ fs hs1 hfo hlo F n hF B G w a hw ht hd
      ·cases hs
     ·cases hs
    ·cases hc
  ·cases hc
 | seq x y =>
  simp only[codeC] at hc
  split at hc
  ·rename_i dx dy h1 h2
   cases hc
   simp only[run,stepCode] at hs
   refine wpIn_seq ?_
   split at hs
   ·rename_i tm1 st1 hb
    have g1:=hg N _ _ _ _ _ _ hb hlo
    refine wpIn_mono (ihN mu _ _ h1 _ _ _ _ _ hb hlo F n hF B G w a hw ht hB hd hro) (fun x1 a1 w1 hp=>?_)
    obtain⟨G1,hw1,hx1,he1,ht1,hd1⟩:=hp
    simp only[ExR] at he1;subst he1
    have g2:=hg N _ _ _ _ _ _ hs (g1.hlo hlo)
    exact wpIn_mono (ihN mu _ _ h2 _ _ _ _ _ hs (g1.hlo hlo) F n hF B G1 w1 a1 hw1 (ht1.resolve_left id) (Nat.le_trans hB hx1.size) hd1 (hro.ext hx1)) (fun x2 a2 w2 hp2=>hp2.from hx1 rfl g2)
   ·rename_i hne
    refine wpIn_mono (ihN mu _ _ h1 _ _ _ _ _ hs hlo F n hF B G w a hw ht hB hd hro) (fun x1 a1 w1 hp=>?_)
    obtain⟨G1,hw1,hx1,he1,ht1,hd1⟩:=hp
    exact then_of_ne he1 (fun he=>by subst he;exact hne _ _ hs) ⟨G1,hw1,hx1,he1,ht1,hd1⟩
  ·cases hc
 | cond c x y =>
  simp only[codeC] at hc
  split at hc
  ·rename_i dd dx dy h0 h1 h2
   cases hc
   have hx:=opd_ok ht h0
   simp only[run,stepCode] at hs
   split at hs
   ·rename_i hev
    rw[hev] at hx
    exact wpIn_cond_true hx.bool_inv (ihN mu _ _ h1 _ _ _ _ _ hs hlo F n hF B G w a hw ht hB hd hro)
   ·rename_i hev
    rw[hev] at hx
    exact wpIn_cond_false hx.bool_inv (ihN mu _ _ h2 _ _ _ _ _ hs hlo F n hF B G w a hw ht hB hd hro)
   ·cases hs
  ·cases hc
 | block id c =>
  simp only[codeC] at hc
  obtain⟨dc',h1,h2⟩:=Option.map_eq_some_iff.1 hc
  cases h2
  simp only[run,stepCode] at hs
  refine wpIn_block ?_
  split at hs
  ·rename_i i tm1 st1 hb
   refine wpIn_mono (ihN mu _ _ h1 _ _ _ _ _ hb hlo F n hF B G w a hw ht hB hd hro) (fun x1 a1 w1 hp=>?_)
   obtain⟨G1,hw1,hx1,he1,ht1,hd1⟩:=hp
   simp only[ExR] at he1;subst he1
   split at hs
   ·rename_i hi
    cases hs
    subst hi
    show (if _=_ then _ else _)
    rw[if_pos rfl]
    exact⟨G1,hw1,hx1,rfl,.inr (ht1.resolve_left id),hd1⟩
   ·rename_i hi
    cases hs
    show (if _=_ then _ else _)
    rw[if_neg hi]
    exact⟨G1,hw1,hx1,rfl,ht1,hd1⟩
  ·rename_i hne
   refine wpIn_mono (ihN mu _ _ h1 _ _ _ _ _ hs hlo F n hF B G w a hw ht hB hd hro) (fun x1 a1 w1 hp=>?_)
   have hp0:=hp
   obtain⟨G1,hw1,hx1,he1,ht1,hd1⟩:=hp
   cases e with
   | normal=>simp only[ExR] at he1;subst he1;exact hp0
   | ret=>simp only[ExR] at he1;subst he1;exact hp0
   | exit i=>exact absurd hs (hne _ _ _)
   | panic v=>obtain⟨u,rfl,_⟩:=he1;exact hp0
 | loop c =>
  simp only[codeC] at hc
  obtain⟨dc',h1,h2⟩:=Option.map_eq_some_iff.1 hc
  cases h2
  exact loop_ok mu h1 (N+1) (fun j hj=>ih j (by omega)) hg hs hlo hF hw ht hB hd hro
 | scope c =>
  simp only[codeC] at hc
  obtain⟨dc',h1,h2⟩:=Option.map_eq_some_iff.1 hc
  cases h2
  simp only[run,stepCode] at hs
  refine wpIn_scope (wpIn_mono (ihN mu _ _ h1 _ _ _ _ _ hs hlo F n hF B G w a hw ht hB hd hro) (fun x1 a1 w1 hp=>?_))
  obtain⟨G1,hw1,hx1,he1,ht1,hd1⟩:=hp
  exact noGoto_of he1 ⟨G1,hw1,hx1,he1,ht1,hd1⟩
 | rangeFunc f ps as bd =>
  simp only[codeC] at hc
  split at hc
  ·rename_i d das dbd h0 h1 h2
   cases hc
   exact rangeFunc_ok (E:=E) mu h0 h1 h2 (hgc N) hcall hs hlo hF hw ht hB hd hro
  ·cases hc
 | _=>simp[codeC] at hc
theorem call_step(hE:EnvFn P E)(hP:PrimOK P B0 w0 E)(hPg:PrimGrows E){rec:Rec}(hgc:GrowCall rec)(hg:GrowCode rec)(hcall:SoundCall P B0 w0 rec)(hcode:SoundCode P B0 w0 rec):SoundCall P B0 w0 ⟨stepCode E rec,stepCall E rec⟩:=by
 intro f args st r st' hs hlo
 refine⟨stepCall_grows (E:=E) hPg hgc hg _ _ _ _ _ hs hlo,fun G w fv avs hw hf ha=>?_⟩
 simp only[stepCall] at hs
 split at hs
 ·rename_i g fa fc
  simp only[VR] at hf
  obtain⟨a',c',rfl,hva,hvc⟩:=hf
  intro fi ca hfv
  cases hfv
  have:=enter_ok hE hP hgc hg hcall hcode hs hlo hw ((hva.append ha).append hvc)
  refine⟨this.1,fun n=>?_⟩
  have h2:=this.2 n
  have he:(a'.toList++avs++c'.toList).toArray=a'++avs.toArray++c':=Array.ext' (by simp)
  rwa [he] at h2
 ·rename_i l
  simp only[VR] at hf
  obtain⟨b,hb,rfl⟩:=hf
  intro b' hb'
  cases hb'
  exact round_ok hg hcode hs hlo hw ha hb
 ·cases hs
theorem run_sound(hE:EnvOK P E)(hF:EnvFn P E)(hP:PrimOK P B0 w0 E)(hPg:PrimGrows E)(hdraw:∀ rec,GrowCall rec→SoundCall P B0 w0 rec→SoundDraw P B0 w0 E rec):∀ N,SoundCall P B0 w0 (run E N)∧SoundCode P B0 w0 (run E N):=by
 have hgr:=run_grows hPg
 intro N
 induction N using Nat.strongRecOn with
 | _ N ih =>
  cases N with
  | zero=>exact⟨fun _ _ _ _ _ h=>(by simp[run] at h),fun _ _ _ _ _ _ _ _ _ h=>(by simp[run] at h)⟩
  | succ N =>
   have h:=ih N (Nat.lt_succ_self _)
   exact⟨call_step hF hP hPg (hgr N).1 (hgr N).2 h.1 h.2,
    code_step hE N (fun j hj=>(ih j (by omega)).2) (fun j=>(hgr j).1) (fun j=>(hgr j).2) h.1 (hdraw _ (hgr N).1 h.1)⟩
end
end Go.Den
end

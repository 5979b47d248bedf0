/- Part of the proof that for every input the function ChestFaulty returns true and each argument reads as it did. Texts: ChPrimB. -/
import Derived.Test.YtoeigapilcgelaaGreatDoorChecked
import Derived.WalkKit
import Derived.Defers
import Derived.Recover
import Derived.Test.YtoeigapilcgelaaGreatDoorFBw
set_option linter.unusedSimpArgs false
set_option linter.unusedVariables false
section
namespace Go.Proofs.ChTry
open Go.RowKit Go.Extern.Stop Go.Stop Go.Extern
section
variable {P : Program} {ops : Array Oper} {Q : Exit → Act → World → Prop} {i : Nat} {rest : List Nat} {a : Act} {w w' : World} {o : Oper}
theorem ops_value {v : Value} (ho : ops[i]? = some o) (hg : o.guard = none) (hr : (execOp a.eval o).run P w = .ok (.value v) w') (h : wpOps P ops Q rest (a.put o.dst v) w') : wpOps P ops Q (i :: rest) a w := by
  simp only [wpOps, ho, Region.wanted, hg, if_true]
  left
  simp only [Oper.wp, Oper.upon, hr]
  exact h
theorem ops_skip (ho : ops[i]? = some o) (hg : o.guard = none) (hr : (execOp a.eval o).run P w = .ok .skip w') (h : wpOps P ops Q rest (a.put o.dst Go.undef) w') : wpOps P ops Q (i :: rest) a w := by
  simp only [wpOps, ho, Region.wanted, hg, if_true]
  left
  simp only [Oper.wp, Oper.upon, hr]
  exact h
theorem ops_defer {d : Deferred} (ho : ops[i]? = some o) (hg : o.guard = none) (hr : (execOp a.eval o).run P w = .ok (.defer d) w') (h : wpOps P ops Q rest ({ a with defers := d :: a.defers }.put o.dst Go.undef) w') : wpOps P ops Q (i :: rest) a w := by
  simp only [wpOps, ho, Region.wanted, hg, if_true]
  left
  simp only [Oper.wp, Oper.upon, hr]
  exact h
theorem ops_call {g : FuncId} {args : Array Value} {R : Ending → World → Prop} (ho : ops[i]? = some o) (hg : o.guard = none) (hr : (execOp a.eval o).run P w = .ok (.enter g args) w) (hc : Calls P g args w R) (h : ∀ e w'', R e w'' → match e with
    | .returned v => wpOps P ops Q rest (a.put o.dst v) w''
    | .panicked chain => Q (.panic chain) a w''
    | .outgrown => False) : wpOps P ops Q (i :: rest) a w := by
  simp only [wpOps, ho, Region.wanted, hg, if_true]
  left
  simp only [Oper.wp, Oper.upon, hr]
  refine hc.mono fun e w'' he => ?_
  have := h e w'' he
  cases e with
  | returned v => exact this
  | panicked chain => exact this
  | outgrown => exact this.elim
theorem ops_nil (h : Q .normal a w) : wpOps P ops Q [] a w := h
theorem store_row {t T : TypeId} {x y : Operand} {g s : Nat} {arr : Array Value} (ho : o.op = .store t x y) (hx : a.eval x = .pointer (some ⟨g, 0, none⟩)) (hsz : Go.Den.sizeT P t = some s) (hg : w.heap[g]? = some (Obj.cells arr T (0, 0))) (hs : (a.eval y).cells.size = s) (hs2 : arr.size = s) (h1 : ∀ u ∈ (a.eval y).cells.toList, u.oneCell' = true) :
    (execOp a.eval o).run P w = .ok .skip (w.putObj g (Obj.cells (a.eval y).cells T (0, 0))) := by
  refine Go.Den.OpRun.unit (by unfold execOp; rw [ho]) ?_
  unfold Instr.storeAt storeVar
  have := Go.Den.run_storeCells_th (P := P) g 0 T (0, 0) (a.eval y).cells.toList 0 arr w hg (Go.Den.Thawed.zero _) (by simp; omega) h1
  have e1 : (arr.toList.take 0 ++ (a.eval y).cells.toList ++ arr.toList.drop (0 + (a.eval y).cells.toList.length)).toArray = (a.eval y).cells := by
    rw [List.drop_of_length_le (by simp; omega)]; simp
  simp only [Nat.add_zero] at this
  rw [e1] at this
  simp only [hx, Sem.run_bind, Go.Den.sureAddr_run, Result.andThen_ok, Go.Den.sizeOf_run hsz, hs, ne_eq, not_true_eq_false, if_false, this, Sem.run_ite]
end
theorem catch_idle (p q : Addr) (w : World) :
    CallsD Tryz.prog 127 #[.pointer (some p), .pointer (some q)] .returning w fun e u' w' => e = .returned (.tuple #[]) ∧ u' = .returning ∧ w' = w := by
  have hnil : ∀ w : World, (binOp BinOp.eql 20 .nilIface .nilIface).run Tryz.prog w = .ok (.bool true) w := fun _ => by kernel_rfl
  refine callsD_of_wpS Tryz.func127 rfl fun c₀ cs hu => ?_
  apply wpS_seq
  apply wpS_region
  simp [wpOpsS, go_sem, recoverD, hu, Tryz.ntmps127, Exit.thenS]
  have ht : #[Value.pointer (some p), Value.pointer (some q)] ++ (Array.replicate 15 Go.undef).setIfInBounds 4 Value.nilIface = #[.pointer (some p), .pointer (some q), Go.undef, Go.undef, Go.undef, Go.undef, .nilIface, Go.undef, Go.undef, Go.undef, Go.undef, Go.undef, Go.undef, Go.undef, Go.undef, Go.undef, Go.undef] := rfl
  rw [ht]
  refine wpS_of_wp ?_
  apply wp_block
  apply wp_seq
  apply wp_region
  simp [wpOps, go_sem, hnil, Exit.then]
  (repeat apply Or.inl)
  refine wp_cond_true (by simp [Act.eval]) ?_
  apply wp_region
  simp [wpOps, go_sem, Exit.inBlock]
  (repeat apply Or.inl)
  cases c₀
  simp_all [bodyPostS, results, Tryz.results127]
theorem catch_found (n : Nat) (a b c : Int) (x y z e0 : Value) (older : List PanicEntry) (w : World) (hp : w.heap[n]? = some (.cells #[x, y, z] 31 (0, 0))) (hq : w.heap[n + 1]? = some (.cells #[e0] 32 (0, 0))) :
    CallsD Tryz.prog 127 #[.pointer (some ⟨n, 0, none⟩), .pointer (some ⟨n + 1, 0, none⟩)] (.panicking ({ v := .iface 133 (.agg #[.int .i64 a, .int .i64 b, .int .i64 c]), recovered := false } :: older)) w fun e u' w' => e = .returned (.tuple #[]) ∧ u' = .panicking ({ v := .iface 133 (.agg #[.int .i64 a, .int .i64 b, .int .i64 c]), recovered := true } :: older) ∧
      w.heap.size ≤ w'.heap.size ∧ (∀ k, k < w.heap.size → k ≠ n → k ≠ n + 1 → w'.heap[k]? = w.heap[k]?) ∧ w'.heap[n]? = some (.cells #[.int .i64 a, .int .i64 b, .int .i64 c] 31 (0, 0)) ∧ w'.heap[n + 1]? = some (.cells #[.int .i64 7] 32 (0, 0)) ∧ w'.os = w.os ∧ w'.output = w.output := by
  have hnil : ∀ w : World, (binOp BinOp.eql 20 (.iface 133 (.agg #[.int .i64 a, .int .i64 b, .int .i64 c])) .nilIface).run Tryz.prog w = .ok (.bool false) w := fun _ => by kernel_rfl
  have hta : ∀ w : World, (Instr.typeAssert (.iface 133 (.agg #[.int .i64 a, .int .i64 b, .int .i64 c])) 20 133 true).run Tryz.prog w = .ok (.tuple #[.agg #[.int .i64 a, .int .i64 b, .int .i64 c], .bool true]) w := fun _ => by kernel_rfl
  have ln : n < w.heap.size := Go.Den.lt_of_heap hp
  have ln1 : n + 1 < w.heap.size := Go.Den.lt_of_heap hq
  refine callsD_of_wpS Tryz.func127 rfl fun c₀ cs hu => ?_
  apply wpS_seq
  apply wpS_region
  simp [wpOpsS, go_sem, recoverD, hu, Tryz.ntmps127, Exit.thenS]
  have ht : #[Value.pointer (some ⟨n, 0, none⟩), Value.pointer (some ⟨n + 1, 0, none⟩)] ++ (Array.replicate 15 Go.undef).setIfInBounds 4 (.iface 133 (.agg #[.int .i64 a, .int .i64 b, .int .i64 c])) = #[.pointer (some ⟨n, 0, none⟩), .pointer (some ⟨n + 1, 0, none⟩), Go.undef, Go.undef, Go.undef, Go.undef, .iface 133 (.agg #[.int .i64 a, .int .i64 b, .int .i64 c]), Go.undef, Go.undef, Go.undef, Go.undef, Go.undef, Go.undef, Go.undef, Go.undef, Go.undef, Go.undef] := rfl
  rw [ht]
  refine wpS_of_wp ?_
  apply wp_block
  apply wp_seq
  apply wp_region
  simp [wpOps, go_sem, hnil, Exit.then]
  (repeat apply Or.inl)
  refine wp_cond_false (by simp [Act.eval]) ?_
  apply wp_seq
  apply wp_region
  simp [wpOps, go_sem, Exit.then, hta]
  (repeat apply Or.inl)
  refine wp_cond_true (by simp [Act.eval]) ?_
  apply wp_seq
  apply wp_region
  refine ops_value (v := .pointer (some ⟨w.heap.size, 0, none⟩)) (w' := w.alloc (.cells #[.int .i64 0, .int .i64 0, .int .i64 0] 133 (0, 0))) rfl rfl (by simp [go_sem]) ?_
  refine ops_skip (w' := (w.alloc (.cells #[.int .i64 0, .int .i64 0, .int .i64 0] 133 (0, 0))).putObj w.heap.size (.cells #[.int .i64 a, .int .i64 b, .int .i64 c] 133 (0, 0))) rfl rfl (store_row (t := 133) (x := .tmp 3) (y := .tmp 11) (arr := #[.int .i64 0, .int .i64 0, .int .i64 0]) (s := 3) rfl rfl (by kernel_rfl) (Go.Den.heap_alloc_new _ _) rfl rfl (by simp [Act.eval, Act.put, Value.cells, Value.oneCell'])) ?_
  apply ops_nil
  generalize hW : (w.alloc (.cells #[.int .i64 0, .int .i64 0, .int .i64 0] 133 (0, 0))).putObj w.heap.size (.cells #[.int .i64 a, .int .i64 b, .int .i64 c] 133 (0, 0)) = W
  have hWos : W.os = w.os ∧ W.output = w.output := by rw [← hW]; exact ⟨rfl, rfl⟩
  have hWs : w.heap.size ≤ W.heap.size := by rw [← hW, Go.Den.size_put, Go.Den.size_alloc]; omega
  have hWo : ∀ k, k < w.heap.size → W.heap[k]? = w.heap[k]? := fun k hk => by rw [← hW, Go.Den.heap_put_other (by omega), Go.Den.heap_alloc_lt _ _ hk]
  have hWn : W.heap[w.heap.size]? = some (.cells #[.int .i64 a, .int .i64 b, .int .i64 c] 133 (0, 0)) := by rw [← hW, Go.Den.heap_put_same (by rw [Go.Den.size_alloc]; omega)]
  have c0 : W.cell? ⟨w.heap.size, 0, none⟩ = some (.int .i64 a) := by rw [Go.Den.cell_row hWn]; rfl
  have c1 : W.cell? ⟨w.heap.size, 1, none⟩ = some (.int .i64 b) := by rw [Go.Den.cell_row hWn]; rfl
  have c2 : W.cell? ⟨w.heap.size, 2, none⟩ = some (.int .i64 c) := by rw [Go.Den.cell_row hWn]; rfl
  show Code.wp _ _ _ _ _
  apply wp_region
  refine ops_value (v := .pointer (some ⟨w.heap.size, 0, none⟩)) (w' := W) rfl rfl (by simp [go_sem, Act.put]) ?_
  refine ops_value (v := .agg #[.int .i64 a, .int .i64 b, .int .i64 c]) (w' := W) rfl rfl (by simp [go_sem, Act.put, c0, c1, c2]) ?_
  refine ops_skip (w' := W.putObj n (.cells #[.int .i64 a, .int .i64 b, .int .i64 c] 31 (0, 0))) rfl rfl (store_row (t := 31) (x := .tmp 0) (y := .tmp 13) (arr := #[x, y, z]) (s := 3) rfl rfl (by kernel_rfl) ((hWo n ln).trans hp) rfl rfl (by simp [Act.eval, Act.put, Value.cells, Value.oneCell'])) ?_
  refine ops_skip (w' := (W.putObj n (.cells #[.int .i64 a, .int .i64 b, .int .i64 c] 31 (0, 0))).putObj (n + 1) (.cells #[.int .i64 7] 32 (0, 0))) rfl rfl (store_row (t := 32) (x := .tmp 1) (y := .const (.int .i64 7)) (arr := #[e0]) (s := 1) rfl rfl (by kernel_rfl) (by rw [Go.Den.heap_put_other (by omega)]; exact (hWo (n + 1) ln1).trans hq) rfl rfl (by simp [Act.eval, Act.put, Value.cells, Value.oneCell'])) ?_
  apply ops_nil
  refine ⟨rfl, _, rfl, .tuple #[], by simp [results, Tryz.results127], rfl, rfl, ?_, fun k hk h1 h2 => ?_, ?_, ?_, hWos⟩
  · rw [Go.Den.size_put, Go.Den.size_put]; exact hWs
  · rw [Go.Den.heap_put_other h2, Go.Den.heap_put_other h1, hWo k hk]
  · rw [Go.Den.heap_put_other (by omega), Go.Den.heap_put_same (by omega)]
  · rw [Go.Den.heap_put_same (by rw [Go.Den.size_put]; omega)]
theorem catch_none (n : Nat) (t : ByteArray) (x y z e0 : Value) (older : List PanicEntry) (w : World) (hp : w.heap[n]? = some (.cells #[x, y, z] 31 (0, 0))) (hq : w.heap[n + 1]? = some (.cells #[e0] 32 (0, 0))) :
    CallsD Tryz.prog 127 #[.pointer (some ⟨n, 0, none⟩), .pointer (some ⟨n + 1, 0, none⟩)] (.panicking ({ v := (.iface 135 (.agg #[.string t])), recovered := false } :: older)) w fun e u' w' => e = .returned (.tuple #[]) ∧ u' = .panicking ({ v := (.iface 135 (.agg #[.string t])), recovered := true } :: older) ∧
      w.heap.size ≤ w'.heap.size ∧ (∀ k, k < w.heap.size → k ≠ n → k ≠ n + 1 → w'.heap[k]? = w.heap[k]?) ∧ w'.heap[n]? = some (.cells #[x, y, z] 31 (0, 0)) ∧ w'.heap[n + 1]? = some (.cells #[.int .i64 4] 32 (0, 0)) ∧ w'.os = w.os ∧ w'.output = w.output := by
  have hnil : ∀ w : World, (binOp BinOp.eql 20 (.iface 135 (.agg #[.string t])) .nilIface).run Tryz.prog w = .ok (.bool false) w := fun _ => by kernel_rfl
  have hta : ∀ w : World, (Instr.typeAssert (.iface 135 (.agg #[.string t])) 20 133 true).run Tryz.prog w = .ok (.tuple #[.agg #[.int .i64 0, .int .i64 0, .int .i64 0], .bool false]) w := fun _ => by kernel_rfl
  have htb : ∀ w : World, (Instr.typeAssert (.iface 135 (.agg #[.string t])) 20 135 true).run Tryz.prog w = .ok (.tuple #[.agg #[.string t], .bool true]) w := fun _ => by kernel_rfl
  have ln : n < w.heap.size := Go.Den.lt_of_heap hp
  have ln1 : n + 1 < w.heap.size := Go.Den.lt_of_heap hq
  refine callsD_of_wpS Tryz.func127 rfl fun c₀ cs hu => ?_
  apply wpS_seq
  apply wpS_region
  simp [wpOpsS, go_sem, recoverD, hu, Tryz.ntmps127, Exit.thenS]
  have ht : #[Value.pointer (some ⟨n, 0, none⟩), Value.pointer (some ⟨n + 1, 0, none⟩)] ++ (Array.replicate 15 Go.undef).setIfInBounds 4 (.iface 135 (.agg #[.string t])) = #[.pointer (some ⟨n, 0, none⟩), .pointer (some ⟨n + 1, 0, none⟩), Go.undef, Go.undef, Go.undef, Go.undef, (.iface 135 (.agg #[.string t])), Go.undef, Go.undef, Go.undef, Go.undef, Go.undef, Go.undef, Go.undef, Go.undef, Go.undef, Go.undef] := rfl
  rw [ht]
  refine wpS_of_wp ?_
  apply wp_block
  apply wp_seq
  apply wp_region
  simp [wpOps, go_sem, hnil, Exit.then]
  (repeat apply Or.inl)
  refine wp_cond_false (by simp [Act.eval]) ?_
  apply wp_seq
  apply wp_region
  simp [wpOps, go_sem, Exit.then, hta]
  (repeat apply Or.inl)
  refine wp_cond_false (by simp [Act.eval]) ?_
  apply wp_seq
  apply wp_region
  simp [wpOps, go_sem, Exit.then, htb]
  (repeat apply Or.inl)
  refine wp_cond_true (by simp [Act.eval]) ?_
  apply wp_seq
  apply wp_region
  refine ops_value (v := .pointer (some ⟨w.heap.size, 0, none⟩)) (w' := w.alloc (.cells #[.string ⟨#[]⟩] 135 (0, 0))) rfl rfl (by simp [go_sem]) ?_
  refine ops_skip (w' := (w.alloc (.cells #[.string ⟨#[]⟩] 135 (0, 0))).putObj w.heap.size (.cells #[.string t] 135 (0, 0))) rfl rfl (store_row (t := 135) (x := .tmp 4) (y := .tmp 16) (arr := #[.string ⟨#[]⟩]) (s := 1) rfl rfl (by kernel_rfl) (Go.Den.heap_alloc_new _ _) rfl rfl (by simp [Act.eval, Act.put, Value.cells, Value.oneCell'])) ?_
  apply ops_nil
  generalize hW : (w.alloc (.cells #[.string ⟨#[]⟩] 135 (0, 0))).putObj w.heap.size (.cells #[.string t] 135 (0, 0)) = W
  have hWos : W.os = w.os ∧ W.output = w.output := by rw [← hW]; exact ⟨rfl, rfl⟩
  have hWs : w.heap.size ≤ W.heap.size := by rw [← hW, Go.Den.size_put, Go.Den.size_alloc]; omega
  have hWo : ∀ k, k < w.heap.size → W.heap[k]? = w.heap[k]? := fun k hk => by rw [← hW, Go.Den.heap_put_other (by omega), Go.Den.heap_alloc_lt _ _ hk]
  show Code.wp _ _ _ _ _
  apply wp_region
  refine ops_skip (w' := W.putObj (n + 1) (.cells #[.int .i64 4] 32 (0, 0))) rfl rfl (store_row (t := 32) (x := .tmp 1) (y := .const (.int .i64 4)) (arr := #[e0]) (s := 1) rfl rfl (by kernel_rfl) ((hWo (n + 1) ln1).trans hq) rfl rfl (by simp [Act.eval, Act.put, Value.cells, Value.oneCell'])) ?_
  apply ops_nil
  refine ⟨rfl, _, rfl, .tuple #[], by simp [results, Tryz.results127], rfl, rfl, ?_, fun k hk h1 h2 => ?_, ?_, ?_, hWos⟩
  · rw [Go.Den.size_put]; exact hWs
  · rw [Go.Den.heap_put_other h2, hWo k hk]
  · rw [Go.Den.heap_put_other (by omega), hWo n ln]; exact hp
  · rw [Go.Den.heap_put_same (by omega)]
theorem try_leaves (n : Nat) (a b c d : Int) (R : Ending → World → Prop) (tm : Array Value) (h2 : tm[2]?.getD Go.undef = .pointer (some ⟨n, 0, none⟩)) (h3 : tm[3]?.getD Go.undef = .pointer (some ⟨n + 1, 0, none⟩)) (u : FrameMode) (hu : settle u = .returning) (w : World) (hp : w.heap[n]? = some (.cells #[.int .i64 a, .int .i64 b, .int .i64 c] 31 (0, 0))) (hq : w.heap[n + 1]? = some (.cells #[.int .i64 d] 32 (0, 0)))
    (hR : R (.returned (.tuple #[.agg #[.int .i64 a, .int .i64 b, .int .i64 c], .int .i64 d])) w) : Leaves Tryz.prog Tryz.f79 tm R [] (settle u) w := by
  have c0 : w.cell? ⟨n, 0, none⟩ = some (.int .i64 a) := by rw [Go.Den.cell_row hp]; rfl
  have c1 : w.cell? ⟨n, 1, none⟩ = some (.int .i64 b) := by rw [Go.Den.cell_row hp]; rfl
  have c2 : w.cell? ⟨n, 2, none⟩ = some (.int .i64 c) := by rw [Go.Den.cell_row hp]; rfl
  have c3 : w.cell? ⟨n + 1, 0, none⟩ = some (.int .i64 d) := by rw [Go.Den.cell_row hq]; rfl
  rw [hu]
  refine ⟨_, ?_, hR⟩
  simp [results, Tryz.results79, go_sem, h2, h3, c0, c1, c2, c3]
def tryW (w : World) : World := (w.alloc (.cells #[.int .i64 0, .int .i64 0, .int .i64 0] 31 (0, 0))).alloc (.cells #[.int .i64 0] 32 (0, 0))
def TryR (n : Nat) (w2 w' : World) (a b c d : Int) : Prop := w2.heap.size ≤ w'.heap.size ∧ (∀ k, k < w2.heap.size → k ≠ n → k ≠ n + 1 → w'.heap[k]? = w2.heap[k]?) ∧ w'.heap[n]? = some (.cells #[.int .i64 a, .int .i64 b, .int .i64 c] 31 (0, 0)) ∧ w'.heap[n + 1]? = some (.cells #[.int .i64 d] 32 (0, 0)) ∧ w'.os = w2.os ∧ w'.output = w2.output
set_option maxHeartbeats 4000000 in
theorem try_walk {g : FuncId} {fi ca : Array Value} {w : World} (hE : Go.Den.Enterable Tryz.prog g) {Rd : World → Prop} (a b c d : Int)
    (hdo : Calls Tryz.prog g (fi ++ #[] ++ ca) (tryW w) fun e w2 => ((∃ v, e = .returned v ∧ a = 0 ∧ b = 0 ∧ c = 0 ∧ d = 0) ∨ (e = .panicked [{ v := .iface 133 (.agg #[.int .i64 a, .int .i64 b, .int .i64 c]), recovered := false }] ∧ d = 7) ∨ (∃ t, e = .panicked [{ v := .iface 135 (.agg #[.string t]), recovered := false }] ∧ a = 0 ∧ b = 0 ∧ c = 0 ∧ d = 4)) ∧ Rd w2 ∧ w2.heap[w.heap.size]? = some (.cells #[.int .i64 0, .int .i64 0, .int .i64 0] 31 (0, 0)) ∧ w2.heap[w.heap.size + 1]? = some (.cells #[.int .i64 0] 32 (0, 0))) :
    Calls Tryz.prog 79 #[.func (.func g) fi ca] w fun e w' => e = .returned (.tuple #[.agg #[.int .i64 a, .int .i64 b, .int .i64 c], .int .i64 d]) ∧ ∃ w2, Rd w2 ∧ TryR w.heap.size w2 w' a b c d := by
  have hmf : ∀ (fn : Fn) (first cap : Array Value) (w : World), (Instr.makeFunc fn first cap).run Tryz.prog w = .ok (.func fn first cap) w := fun _ _ _ _ => rfl
  have e00 : fi ++ #[] ++ ca = fi ++ ca := by simp
  rw [e00] at hdo
  refine calls_of_wp_defers Tryz.func79 rfl ?_
  have ht : (#[Value.func (.func g) fi ca] : Array Value) ++ Array.replicate (Tryz.f79.ntmps - 1) Go.undef = #[.func (.func g) fi ca, Go.undef, Go.undef, Go.undef, Go.undef, Go.undef, Go.undef, Go.undef] := rfl
  show Code.wp _ _ _ { tmps := #[Value.func (.func g) fi ca] ++ Array.replicate (Tryz.f79.ntmps - 1) Go.undef, defers := [] } _
  rw [ht]
  apply wp_seq
  apply wp_region
  refine ops_value (v := .pointer (some ⟨w.heap.size, 0, none⟩)) (w' := w.alloc (.cells #[.int .i64 0, .int .i64 0, .int .i64 0] 31 (0, 0))) rfl rfl (by simp [go_sem]) ?_
  refine ops_value (v := .pointer (some ⟨w.heap.size + 1, 0, none⟩)) (w' := tryW w) rfl rfl (by simp [go_sem, tryW, Go.Den.size_alloc]) ?_
  apply ops_nil
  show Code.wp _ _ _ _ _
  apply wp_seq
  apply wp_region
  refine ops_value (v := .func (.func 127) #[] #[.pointer (some ⟨w.heap.size, 0, none⟩), .pointer (some ⟨w.heap.size + 1, 0, none⟩)]) (w' := tryW w) rfl rfl (by simp [go_sem, Act.put, hmf]) ?_
  refine ops_defer (d := { target := .fn (.func 127) #[.pointer (some ⟨w.heap.size, 0, none⟩), .pointer (some ⟨w.heap.size + 1, 0, none⟩)], args := #[] }) (w' := tryW w) rfl rfl (by simp [go_sem, Act.put]) ?_
  apply ops_nil
  show Code.wp _ _ _ _ _
  apply wp_seq
  apply wp_region
  refine ops_value (v := .func (.func g) fi ca) (w' := tryW w) rfl rfl (by simp [go_sem, Act.put]) ?_
  refine ops_call (g := g) (args := fi ++ ca) rfl rfl (by
    have h := Go.Den.callFunc_run hE (fi ++ ca) (tryW w)
    simp [go_sem, Act.put, invoke, h]) hdo ?_
  rintro e w2 ⟨he, hRd, hn, hn1⟩
  have hi : (invoke (.fn (.func 127) #[.pointer (some ⟨w.heap.size, 0, none⟩), .pointer (some ⟨w.heap.size + 1, 0, none⟩)]) #[]).run Tryz.prog w2 = .ok (.enter 127 #[.pointer (some ⟨w.heap.size, 0, none⟩), .pointer (some ⟨w.heap.size + 1, 0, none⟩)]) w2 := by simp [go_sem, invoke]
  rcases he with ⟨v, rfl, rfl, rfl, rfl, rfl⟩ | ⟨rfl, rfl⟩ | ⟨t, rfl, rfl, rfl, rfl, rfl⟩
  · apply ops_nil
    show Code.wp _ _ _ _ _
    apply wp_seq
    apply wp_region
    have ln : w.heap.size < w2.heap.size := Go.Den.lt_of_heap hn
    have ln1 : w.heap.size + 1 < w2.heap.size := Go.Den.lt_of_heap hn1
    refine ops_value (v := .agg #[.int .i64 0, .int .i64 0, .int .i64 0]) (w' := w2) rfl rfl (by simp [go_sem]) ?_
    refine ops_skip (w' := w2.putObj w.heap.size (.cells #[.int .i64 0, .int .i64 0, .int .i64 0] 31 (0, 0))) rfl rfl (store_row (t := 31) (x := .tmp 2) (y := .tmp 7) (arr := #[.int .i64 0, .int .i64 0, .int .i64 0]) (s := 3) rfl rfl (by kernel_rfl) hn rfl rfl (by simp [Act.eval, Act.put, Value.cells, Value.oneCell'])) ?_
    refine ops_skip (w' := (w2.putObj w.heap.size (.cells #[.int .i64 0, .int .i64 0, .int .i64 0] 31 (0, 0))).putObj (w.heap.size + 1) (.cells #[.int .i64 0] 32 (0, 0))) rfl rfl (store_row (t := 32) (x := .tmp 3) (y := .const (.int .i64 0)) (arr := #[.int .i64 0]) (s := 1) rfl rfl (by kernel_rfl) (by rw [Go.Den.heap_put_other (by omega)]; exact hn1) rfl rfl (by simp [Act.eval, Act.put, Value.cells, Value.oneCell'])) ?_
    apply ops_nil
    show Code.wp _ _ _ _ _
    apply wp_ret
    have hi2 : ∀ W : World, (invoke (.fn (.func 127) #[.pointer (some ⟨w.heap.size, 0, none⟩), .pointer (some ⟨w.heap.size + 1, 0, none⟩)]) #[]).run Tryz.prog W = .ok (.enter 127 #[.pointer (some ⟨w.heap.size, 0, none⟩), .pointer (some ⟨w.heap.size + 1, 0, none⟩)]) W := fun W => by simp [go_sem, invoke]
    refine leaves_cons (by simp) (hi2 _) ?_
    refine (catch_idle ⟨w.heap.size, 0, none⟩ ⟨w.heap.size + 1, 0, none⟩ _).mono ?_
    rintro e u' w'' ⟨rfl, rfl, rfl⟩
    have g1 : ((w2.putObj w.heap.size (.cells #[.int .i64 0, .int .i64 0, .int .i64 0] 31 (0, 0))).putObj (w.heap.size + 1) (.cells #[.int .i64 0] 32 (0, 0))).heap[w.heap.size]? = some (.cells #[.int .i64 0, .int .i64 0, .int .i64 0] 31 (0, 0)) := by
      rw [Go.Den.heap_put_other (by omega), Go.Den.heap_put_same ln]
    have g2 : ((w2.putObj w.heap.size (.cells #[.int .i64 0, .int .i64 0, .int .i64 0] 31 (0, 0))).putObj (w.heap.size + 1) (.cells #[.int .i64 0] 32 (0, 0))).heap[w.heap.size + 1]? = some (.cells #[.int .i64 0] 32 (0, 0)) := by
      rw [Go.Den.heap_put_same (by rw [Go.Den.size_put]; exact ln1)]
    refine try_leaves w.heap.size 0 0 0 0 _ _ rfl rfl .returning rfl _ g1 g2 ⟨rfl, w2, hRd, ?_, fun k hk h1 h2 => ?_, g1, g2, rfl, rfl⟩
    · rw [Go.Den.size_put, Go.Den.size_put]; exact Nat.le_refl _
    · rw [Go.Den.heap_put_other h2, Go.Den.heap_put_other h1]
  · refine leaves_cons (by simp) hi ?_
    refine (catch_found w.heap.size a b c _ _ _ _ [] w2 hn hn1).mono ?_
    rintro e u' w'' ⟨rfl, rfl, h1, h2, h3, h4, h5⟩
    exact try_leaves w.heap.size a b c 7 _ _ rfl rfl _ rfl _ h3 h4 ⟨rfl, w2, hRd, h1, h2, h3, h4, h5⟩
  · refine leaves_cons (by simp) hi ?_
    refine (catch_none w.heap.size t _ _ _ _ [] w2 hn hn1).mono ?_
    rintro e u' w'' ⟨rfl, rfl, h1, h2, h3, h4, h5⟩
    exact try_leaves w.heap.size 0 0 0 4 _ _ rfl rfl _ rfl _ h3 h4 ⟨rfl, w2, hRd, h1, h2, h3, h4, h5⟩
end Go.Proofs.ChTry
end

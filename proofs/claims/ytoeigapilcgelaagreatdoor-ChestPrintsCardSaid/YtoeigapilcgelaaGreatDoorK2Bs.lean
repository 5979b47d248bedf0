/- Part of the proofs of laws of the package chest: the interpreter Den, its soundness, and contracts of the program's functions over it. Texts: ChPrimB, ChPrimC. -/
import Derived.Test.YtoeigapilcgelaaGreatDoorK2Br
import Derived.Test.YtoeigapilcgelaaGreatDoorChecked
import Derived.WalkKit
import Derived.Defers
import Derived.Recover
set_option linter.unusedSimpArgs false
set_option linter.unusedVariables false
section
namespace Go.Proofs.ChTry
open Go.RowKit Go.Extern.Stop Go.Stop Go.Extern
section
variable {P : Program} {ops : Array Oper} {Q : Exit → Act → World → Prop} {i : Nat} {rest : List Nat} {a : Act} {w w' : World} {o : Oper}
theorem ops_value {v : Value} (ho : ops[i]? = some o) (hg : o.guard = none) (hr : (execOp a.eval o).run P w = .ok (.value v) w') (h : wpOps P ops Q rest (a.put o.dst v) w') : wpOps P ops Q (i :: rest) a w := by
 simp only [wpOps, ho, Region.wanted, hg, if_true]
 left
 simp only [Oper.wp, Oper.upon, hr]
 exact h
theorem ops_skip (ho : ops[i]? = some o) (hg : o.guard = none) (hr : (execOp a.eval o).run P w = .ok .skip w') (h : wpOps P ops Q rest (a.put o.dst Go.undef) w') : wpOps P ops Q (i :: rest) a w := by
 simp only [wpOps, ho, Region.wanted, hg, if_true]
 left
 simp only [Oper.wp, Oper.upon, hr]
 exact h
theorem ops_defer {d : Deferred} (ho : ops[i]? = some o) (hg : o.guard = none) (hr : (execOp a.eval o).run P w = .ok (.defer d) w') (h : wpOps P ops Q rest ({ a with defers := d :: a.defers }.put o.dst Go.undef) w') : wpOps P ops Q (i :: rest) a w := by
 simp only [wpOps, ho, Region.wanted, hg, if_true]
 left
 simp only [Oper.wp, Oper.upon, hr]
 exact h
theorem ops_call {g : FuncId} {args : Array Value} {R : Ending → World → Prop} (ho : ops[i]? = some o) (hg : o.guard = none) (hr : (execOp a.eval o).run P w = .ok (.enter g args) w) (hc : Calls P g args w R) (h : ∀ e w'', R e w'' → match e with
  | .returned v => wpOps P ops Q rest (a.put o.dst v) w''
  | .panicked chain => Q (.panic chain) a w''
  | .outgrown => False) : wpOps P ops Q (i :: rest) a w := by
 simp only [wpOps, ho, Region.wanted, hg, if_true]
 left
 simp only [Oper.wp, Oper.upon, hr]
 refine hc.mono fun e w'' he => ?_
 have := h e w'' he
 cases e with
 | returned v => exact this
 | panicked chain => exact this
 | outgrown => exact this.elim
theorem ops_nil (h : Q .normal a w) : wpOps P ops Q [] a w := h
theorem store_row {t T : TypeId} {x y : Operand} {g s : Nat} {arr : Array Value} (ho : o.op = .store t x y) (hx : a.eval x = .pointer (some ⟨g, 0, none⟩)) (hsz : Go.Den.sizeT P t = some s) (hg : w.heap[g]? = some (Obj.cells arr T (0, 0))) (hs : (a.eval y).cells.size = s) (hs2 : arr.size = s) (h1 : ∀ u ∈ (a.eval y).cells.toList, u.oneCell' = true) :
  (execOp a.eval o).run P w = .ok .skip (w.putObj g (Obj.cells (a.eval y).cells T (0, 0))) := by
 refine Go.Den.OpRun.unit (by unfold execOp; rw [ho]) ?_
 unfold Instr.storeAt storeVar
 have := Go.Den.run_storeCells_th (P := P) g 0 T (0, 0) (a.eval y).cells.toList 0 arr w hg (Go.Den.Thawed.zero _) (by simp; omega) h1
 have e1 : (arr.toList.take 0 ++ (a.eval y).cells.toList ++ arr.toList.drop (0 + (a.eval y).cells.toList.length)).toArray = (a.eval y).cells := by
  rw [List.drop_of_length_le (by simp; omega)]; simp
 simp only [Nat.add_zero] at this
 rw [e1] at this
 simp only [hx, Sem.run_bind, Go.Den.sureAddr_run, Result.andThen_ok, Go.Den.sizeOf_run hsz, hs, ne_eq, not_true_eq_false, if_false, this, Sem.run_ite]
end
theorem catch_idle (p q : Addr) (w : World) :
  CallsD Tryz.prog 127 #[.pointer (some p), .pointer (some q)] .returning w fun e u' w' => e = .returned (.tuple #[]) ∧ u' = .returning ∧ w' = w := by
 have hnil : ∀ w : World, (binOp BinOp.eql 20 .nilIface .nilIface).run Tryz.prog w = .ok (.bool true) w := fun _ => by kernel_rfl
 refine callsD_of_wpS Tryz.func127 rfl fun c₀ cs hu => ?_
 apply wpS_seq
 apply wpS_region
 simp [wpOpsS, go_sem, recoverD, hu, Tryz.ntmps127, Exit.thenS]
 have ht : #[Value.pointer (some p), Value.pointer (some q)] ++ (Array.replicate 15 Go.undef).setIfInBounds 4 Value.nilIface = #[.pointer (some p), .pointer (some q), Go.undef, Go.undef, Go.undef, Go.undef, .nilIface, Go.undef, Go.undef, Go.undef, Go.undef, Go.undef, Go.undef, Go.undef, Go.undef, Go.undef, Go.undef] := rfl
 rw [ht]
 refine wpS_of_wp ?_
 apply wp_block
 apply wp_seq
 apply wp_region
 simp [wpOps, go_sem, hnil, Exit.then]
 (repeat apply Or.inl)
 refine wp_cond_true (by simp [Act.eval]) ?_
 apply wp_region
 simp [wpOps, go_sem, Exit.inBlock]
 (repeat apply Or.inl)
 cases c₀
 simp_all [bodyPostS, results, Tryz.results127]
theorem catch_found (n : Nat) (a b c : Int) (x y z e0 : Value) (older : List PanicEntry) (w : World) (hp : w.heap[n]? = some (.cells #[x, y, z] 31 (0, 0))) (hq : w.heap[n + 1]? = some (.cells #[e0] 32 (0, 0))) :
  CallsD Tryz.prog 127 #[.pointer (some ⟨n, 0, none⟩), .pointer (some ⟨n + 1, 0, none⟩)] (.panicking ({ v := .iface 133 (.agg #[.int .i64 a, .int .i64 b, .int .i64 c]), recovered := false } :: older)) w fun e u' w' => e = .returned (.tuple #[]) ∧ u' = .panicking ({ v := .iface 133 (.agg #[.int .i64 a, .int .i64 b, .int .i64 c]), recovered := true } :: older) ∧
   w.heap.size ≤ w'.heap.size ∧ (∀ k, k < w.heap.size → k ≠ n → k ≠ n + 1 → w'.heap[k]? = w.heap[k]?) ∧ w'.heap[n]? = some (.cells #[.int .i64 a, .int .i64 b, .int .i64 c] 31 (0, 0)) ∧ w'.heap[n + 1]? = some (.cells #[.int .i64 7] 32 (0, 0)) ∧ w'.os = w.os ∧ w'.output = w.output := by
 have hnil : ∀ w : World, (binOp BinOp.eql 20 (.iface 133 (.agg #[.int .i64 a, .int .i64 b, .int .i64 c])) .nilIface).run Tryz.prog w = .ok (.bool false) w := fun _ => by kernel_rfl
 have hta : ∀ w : World, (Instr.typeAssert (.iface 133 (.agg #[.int .i64 a, .int .i64 b, .int .i64 c])) 20 133 true).run Tryz.prog w = .ok (.tuple #[.agg #[.int .i64 a, .int .i64 b, .int .i64 c], .bool true]) w := fun _ => by kernel_rfl
 have ln : n < w.heap.size := Go.Den.lt_of_heap hp
 have ln1 : n + 1 < w.heap.size := Go.Den.lt_of_heap hq
 refine callsD_of_wpS Tryz.func127 rfl fun c₀ cs hu => ?_
 apply wpS_seq
 apply wpS_region
 simp [wpOpsS, go_sem, recoverD, hu, Tryz.ntmps127, Exit.thenS]
 have ht : #[Value.pointer (some ⟨n, 0, none⟩), Value.pointer (some ⟨n + 1, 0, none⟩)] ++ (Array.replicate 15 Go.undef).setIfInBounds 4 (.iface 133 (.agg #[.int .i64 a, .int .i64 b, .int .i64 c])) = #[.pointer (some ⟨n, 0, none⟩), .pointer (some ⟨n + 1, 0, none⟩), Go.undef, Go.undef, Go.undef, Go.undef, .iface 133 (.agg #[.int .i64 a, .int .i64 b, .int .i64 c]), Go.undef, Go.undef, Go.undef, Go.undef, Go.undef, Go.undef, Go.undef, Go.undef, Go.undef, Go.undef] := rfl
 rw [ht]
 refine wpS_of_wp ?_
 apply wp_block
 apply wp_seq
 apply wp_region
 simp [wpOps, go_sem, hnil, Exit.then]
 (repeat apply Or.inl)
 refine wp_cond_false (by simp [Act.eval]) ?_
 apply wp_seq
 apply wp_region
 simp [wpOps, go_sem, Exit.then, hta]
 (repeat apply Or.inl)
 refine wp_cond_true (by simp [Act.eval]) ?_
 apply wp_seq
 apply wp_region
 refine ops_value (v := .pointer (some ⟨w.heap.size, 0, none⟩)) (w' := w.alloc (.cells #[.int .i64 0, .int .i64 0, .int .i64 0] 133 (0, 0))) rfl rfl (by simp [go_sem]) ?_
 refine ops_skip (w' := (w.alloc (.cells #[.int .i64 0, .int .i64 0, .int .i64 0] 133 (0, 0))).putObj w.heap.size (.cells #[.int .i64 a, .int .i64 b, .int .i64 c] 133 (0, 0))) rfl rfl (store_row (t := 133) (x := .tmp 3) (y := .tmp 11) (arr := #[.int .i64 0, .int .i64 0, .int .i64 0]) (s := 3) rfl rfl (by kernel_rfl) (Go.Den.heap_alloc_new _ _) rfl rfl (by simp [Act.eval, Act.put, Value.cells, Value.oneCell'])) ?_
 apply ops_nil
 generalize hW : (w.alloc (.cells #[.int .i64 0, .int .i64 0, .int .i64 0] 133 (0, 0))).putObj w.heap.size (.cells #[.int .i64 a, .int .i64 b, .int .i64 c] 133 (0, 0)) = W
 have hWos : W.os = w.os ∧ W.output = w.output := by rw [← hW]; exact ⟨rfl, rfl⟩
 have hWs : w.heap.size ≤ W.heap.size := by rw [← hW, Go.Den.size_put, Go.Den.size_alloc]; omega
 have hWo : ∀ k, k < w.heap.size → W.heap[k]? = w.heap[k]? := fun k hk => by rw [← hW, Go.Den.heap_put_other (by omega), Go.Den.heap_alloc_lt _ _ hk]
 have hWn : W.heap[w.heap.size]? = some (.cells #[.int .i64 a, .int .i64 b, .int .i64 c] 133 (0, 0)) := by rw [← hW, Go.Den.heap_put_same (by rw [Go.Den.size_alloc]; omega)]
 have c0 : W.cell? ⟨w.heap.size, 0, none⟩ = some (.int .i64 a) := by rw [Go.Den.cell_row hWn]; rfl
 have c1 : W.cell? ⟨w.heap.size, 1, none⟩ = some (.int .i64 b) := by rw [Go.Den.cell_row hWn]; rfl
 have c2 : W.cell? ⟨w.heap.size, 2, none⟩ = some (.int .i64 c) := by rw [Go.Den.cell_row hWn]; rfl
 show Code.wp _ _ _ _ _
 apply wp_region
 refine ops_value (v := .pointer (some ⟨w.heap.size, 0, none⟩)) (w' := W) rfl rfl (by simp [go_sem, Act.put]) ?_
 refine ops_value (v := .agg #[.int .i64 a, .int .i64 b, .int .i64 c]) (w' := W) rfl rfl (by simp [go_sem, Act.put, c0, c1, c2]) ?_
 refine ops_skip (w' := W.putObj n (.cells #[.int .i64 a, .int .i64 b, .int .i64 c] 31 (0, 0))) rfl rfl (store_row (t := 31) (x := .tmp 0) (y := .tmp 13) (arr := #[x, y, z]) (s := 3) rfl rfl (by kernel_rfl) ((hWo n ln).trans hp) rfl rfl (by simp [Act.eval, Act.put, Value.cells, Value.oneCell'])) ?_
 refine ops_skip (w' := (W.putObj n (.cells #[.int .i64 a, .int .i64 b, .int .i64 c] 31 (0, 0))).putObj (n + 1) (.cells #[.int .i64 7] 32 (0, 0))) rfl rfl (store_row (t := 32) (x := .tmp 1) (y := .const (.int .i64 7)) (arr := #[e0]) (s := 1) rfl rfl (by kernel_rfl) (by rw [Go.Den.heap_put_other (by omega)]; exact (hWo (n + 1) ln1).trans hq) rfl rfl (by simp [Act.eval, Act.put, Value.cells, Value.oneCell'])) ?_
 apply ops_nil
 refine ⟨rfl, _, rfl, .tuple #[], by simp [results, Tryz.results127], rfl, rfl, ?_, fun k hk h1 h2 => ?_, ?_, ?_, hWos⟩
 ·rw [Go.Den.size_put, Go.Den.size_put]; exact hWs
 ·rw [Go.Den.heap_put_other h2, Go.Den.heap_put_other h1, hWo k hk]
 ·rw [Go.Den.heap_put_other (by omega), Go.Den.heap_put_same (by omega)]
 ·rw [Go.Den.heap_put_same (by rw [Go.Den.size_put]; omega)]
theorem catch_none (n : Nat) (t : ByteArray) (x y z e0 : Value) (older : List PanicEntry) (w : World) (hp : w.heap[n]? = some (.cells #[x, y, z] 31 (0, 0))) (hq : w.heap[n + 1]? = some (.cells #[e0] 32 (0, 0))) :
  CallsD Tryz.prog 127 #[.pointer (some ⟨n, 0, none⟩), .pointer (some ⟨n + 1, 0, none⟩)] (.panicking ({ v := (.iface 135 (.agg #[.string t])), recovered := false } :: older)) w fun e u' w' => e = .returned (.tuple #[]) ∧ u' = .panicking ({ v := (.iface 135 (.agg #[.string t])), recovered := true } :: older) ∧
   w.heap.size ≤ w'.heap.size ∧ (∀ k, k < w.heap.size → k ≠ n → k ≠ n + 1 → w'.heap[k]? = w.heap[k]?) ∧ w'.heap[n]? = some (.cells #[x, y, z] 31 (0, 0)) ∧ w'.heap[n + 1]? = some (.cells #[.int .i64 4] 32 (0, 0)) ∧ w'.os = w.os ∧ w'.output = w.output := by
 have hnil : ∀ w : World, (binOp BinOp.eql 20 (.iface 135 (.agg #[.string t])) .nilIface).run Tryz.prog w = .ok (.bool false) w := fun _ => by kernel_rfl
 have hta : ∀ w : World, (Instr.typeAssert (.iface 135 (.agg #[.string t])) 20 133 true).run Tryz.prog w = .ok (.tuple #[.agg #[.int .i64 0, .int .i64 0, .int .i64 0], .bool false]) w := fun _ => by kernel_rfl
 have htb : ∀ w : World, (Instr.typeAssert (.iface 135 (.agg #[.string t])) 20 135 true).run Tryz.prog w = .ok (.tuple #[.agg #[.string t], .bool true]) w := fun _ => by kernel_rfl
 have ln : n < w.heap.size := Go.Den.lt_of_heap hp
 have ln1 : n + 1 < w.heap.size := Go.Den.lt_of_heap hq
 refine callsD_of_wpS Tryz.func127 rfl fun c₀ cs hu => ?_
 apply wpS_seq
 apply wpS_region
 simp [wpOpsS, go_sem, recoverD, hu, Tryz.ntmps127, Exit.thenS]
 have ht : #[Value.pointer (some ⟨n, 0, none⟩), Value.pointer (some ⟨n + 1, 0, none⟩)] ++ (Array.replicate 15 Go.undef).setIfInBounds 4 (.iface 135 (.agg #[.string t])) = #[.pointer (some ⟨n, 0, none⟩), .pointer (some ⟨n + 1, 0, none⟩), Go.undef, Go.undef, Go.undef, Go.undef, (.iface 135 (.agg #[.string t])), Go.undef, Go.undef, Go.undef, Go.undef, Go.undef, Go.undef, Go.undef, Go.undef, Go.undef, Go.undef] := rfl
 rw [ht]
 refine wpS_of_wp ?_
 apply wp_block
 apply wp_seq
 apply wp_region
 simp [wpOps, go_sem, hnil, Exit.then]
 (repeat apply Or.inl)
 refine wp_cond_false (by simp [Act.eval]) ?_
 apply wp_seq
 apply wp_region
 simp [wpOps, go_sem, Exit.then, hta]
 (repeat apply Or.inl)
 refine wp_cond_false (by simp [Act.eval]) ?_
 apply wp_seq
 apply wp_region
 simp [wpOps, go_sem, Exit.then, htb]
 (repeat apply Or.inl)
 refine wp_cond_true (by simp [Act.eval]) ?_
 apply wp_seq
 apply wp_region
 refine ops_value (v := .pointer (some ⟨w.heap.size, 0, none⟩)) (w' := w.alloc (.cells #[.string ⟨#[]⟩] 135 (0, 0))) rfl rfl (by simp [go_sem]) ?_
 refine ops_skip (w' := (w.alloc (.cells #[.string ⟨#[]⟩] 135 (0, 0))).putObj w.heap.size (.cells #[.string t] 135 (0, 0))) rfl rfl (store_row (t := 135) (x := .tmp 4) (y := .tmp 16) (arr := #[.string ⟨#[]⟩]) (s := 1) rfl rfl (by kernel_rfl) (Go.Den.heap_alloc_new _ _) rfl rfl (by simp [Act.eval, Act.put, Value.cells, Value.oneCell'])) ?_
 apply ops_nil
 generalize hW : (w.alloc (.cells #[.string ⟨#[]⟩] 135 (0, 0))).putObj w.heap.size (.cells #[.string t] 135 (0, 0)) = W
 have hWos : W.os = w.os ∧ W.output = w.output := by rw [← hW]; exact ⟨rfl, rfl⟩
 have hWs : w.heap.size ≤ W.heap.size := by rw [← hW, Go.Den.size_put, Go.Den.size_alloc]; omega
 have hWo : ∀ k, k < w.heap.size → W.heap[k]? = w.heap[k]? := fun k hk => by rw [← hW, Go.Den.heap_put_other (by omega), Go.Den.heap_alloc_lt _ _ hk]
 show Code.wp _ _ _ _ _
 apply wp_region
 refine ops_skip (w' := W.putObj (n + 1) (.cells #[.int .i64 4] 32 (0, 0))) rfl rfl (store_row (t := 32) (x := .tmp 1) (y := .const (.int .i64 4)) (arr := #[e0]) (s := 1) rfl rfl (by kernel_rfl) ((hWo (n + 1) ln1).trans hq) rfl rfl (by simp [Act.eval, Act.put, Value.cells, Value.oneCell'])) ?_
 apply ops_nil
 refine ⟨rfl, _, rfl, .tuple #[], by simp [results, Tryz.results127], rfl, rfl, ?_, fun k hk h1 h2 => ?_, ?_, ?_, hWos⟩
 ·rw [Go.Den.size_put]; exact hWs
 ·rw [Go.Den.heap_put_other h2, hWo k hk]
 ·rw [Go.Den.heap_put_other (by omega), hWo n ln]; exact hp
 ·rw [Go.Den.heap_put_same (by omega)]
theorem try_leaves (n : Nat) (a b c d : Int) (R : Ending → World → Prop) (tm : Array Value) (h2 : tm[2]?.getD Go.undef = .pointer (some ⟨n, 0, none⟩)) (h3 : tm[3]?.getD Go.undef = .pointer (some ⟨n + 1, 0, none⟩)) (u : FrameMode) (hu : settle u = .returning) (w : World) (hp : w.heap[n]? = some (.cells #[.int .i64 a, .int .i64 b, .int .i64 c] 31 (0, 0))) (hq : w.heap[n + 1]? = some (.cells #[.int .i64 d] 32 (0, 0)))
  (hR : R (.returned (.tuple #[.agg #[.int .i64 a, .int .i64 b, .int .i64 c], .int .i64 d])) w) : Leaves Tryz.prog Tryz.f79 tm R [] (settle u) w := by
 have c0 : w.cell? ⟨n, 0, none⟩ = some (.int .i64 a) := by rw [Go.Den.cell_row hp]; rfl
 have c1 : w.cell? ⟨n, 1, none⟩ = some (.int .i64 b) := by rw [Go.Den.cell_row hp]; rfl
 have c2 : w.cell? ⟨n, 2, none⟩ = some (.int .i64 c) := by rw [Go.Den.cell_row hp]; rfl
 have c3 : w.cell? ⟨n + 1, 0, none⟩ = some (.int .i64 d) := by rw [Go.Den.cell_row hq]; rfl
 rw [hu]
 refine ⟨_, ?_, hR⟩
 simp [results, Tryz.results79, go_sem, h2, h3, c0, c1, c2, c3]
def tryW (w : World) : World := (w.alloc (.cells #[.int .i64 0, .int .i64 0, .int .i64 0] 31 (0, 0))).alloc (.cells #[.int .i64 0] 32 (0, 0))
def TryR (n : Nat) (w2 w' : World) (a b c d : Int) : Prop := w2.heap.size ≤ w'.heap.size ∧ (∀ k, k < w2.heap.size → k ≠ n → k ≠ n + 1 → w'.heap[k]? = w2.heap[k]?) ∧ w'.heap[n]? = some (.cells #[.int .i64 a, .int .i64 b, .int .i64 c] 31 (0, 0)) ∧ w'.heap[n + 1]? = some (.cells #[.int .i64 d] 32 (0, 0)) ∧ w'.os = w2.os ∧ w'.output = w2.output
set_option maxHeartbeats 4000000 in
theorem try_walk {g : FuncId} {fi ca : Array Value} {w : World} (hE : Go.Den.Enterable Tryz.prog g) {Rd : World → Prop} (a b c d : Int)
  (hdo : Calls Tryz.prog g (fi ++ #[] ++ ca) (tryW w) fun e w2 => ((∃ v, e = .returned v ∧ a = 0 ∧ b = 0 ∧ c = 0 ∧ d = 0) ∨ (e = .panicked [{ v := .iface 133 (.agg #[.int .i64 a, .int .i64 b, .int .i64 c]), recovered := false }] ∧ d = 7) ∨ (∃ t, e = .panicked [{ v := .iface 135 (.agg #[.string t]), recovered := false }] ∧ a = 0 ∧ b = 0 ∧ c = 0 ∧ d = 4)) ∧ Rd w2 ∧ w2.heap[w.heap.size]? = some (.cells #[.int .i64 0, .int .i64 0, .int .i64 0] 31 (0, 0)) ∧ w2.heap[w.heap.size + 1]? = some (.cells #[.int .i64 0] 32 (0, 0))) :
  Calls Tryz.prog 79 #[.func (.func g) fi ca] w fun e w' => e = .returned (.tuple #[.agg #[.int .i64 a, .int .i64 b, .int .i64 c], .int .i64 d]) ∧ ∃ w2, Rd w2 ∧ TryR w.heap.size w2 w' a b c d := by
 have hmf : ∀ (fn : Fn) (first cap : Array Value) (w : World), (Instr.makeFunc fn first cap).run Tryz.prog w = .ok (.func fn first cap) w := fun _ _ _ _ => rfl
 have e00 : fi ++ #[] ++ ca = fi ++ ca := by simp
 rw [e00] at hdo
 refine calls_of_wp_defers Tryz.func79 rfl ?_
 have ht : (#[Value.func (.func g) fi ca] : Array Value) ++ Array.replicate (Tryz.f79.ntmps - 1) Go.undef = #[.func (.func g) fi ca, Go.undef, Go.undef, Go.undef, Go.undef, Go.undef, Go.undef, Go.undef] := rfl
 show Code.wp _ _ _ { tmps := #[Value.func (.func g) fi ca] ++ Array.replicate (Tryz.f79.ntmps - 1) Go.undef, defers := [] } _
 rw [ht]
 apply wp_seq
 apply wp_region
 refine ops_value (v := .pointer (some ⟨w.heap.size, 0, none⟩)) (w' := w.alloc (.cells #[.int .i64 0, .int .i64 0, .int .i64 0] 31 (0, 0))) rfl rfl (by simp [go_sem]) ?_
 refine ops_value (v := .pointer (some ⟨w.heap.size + 1, 0, none⟩)) (w' := tryW w) rfl rfl (by simp [go_sem, tryW, Go.Den.size_alloc]) ?_
 apply ops_nil
 show Code.wp _ _ _ _ _
 apply wp_seq
 apply wp_region
 refine ops_value (v := .func (.func 127) #[] #[.pointer (some ⟨w.heap.size, 0, none⟩), .pointer (some ⟨w.heap.size + 1, 0, none⟩)]) (w' := tryW w) rfl rfl (by simp [go_sem, Act.put, hmf]) ?_
 refine ops_defer (d := { target := .fn (.func 127) #[.pointer (some ⟨w.heap.size, 0, none⟩), .pointer (some ⟨w.heap.size + 1, 0, none⟩)], args := #[] }) (w' := tryW w) rfl rfl (by simp [go_sem, Act.put]) ?_
 apply ops_nil
 show Code.wp _ _ _ _ _
 apply wp_seq
 apply wp_region
 refine ops_value (v := .func (.func g) fi ca) (w' := tryW w) rfl rfl (by simp [go_sem, Act.put]) ?_
 refine ops_call (g := g) (args := fi ++ ca) rfl rfl (by
  have h := Go.Den.callFunc_run hE (fi ++ ca) (tryW w)
  simp [go_sem, Act.put, invoke, h]) hdo ?_
 rintro e w2 ⟨he, hRd, hn, hn1⟩
 have hi : (invoke (.fn (.func 127) #[.pointer (some ⟨w.heap.size, 0, none⟩), .pointer (some ⟨w.heap.size + 1, 0, none⟩)]) #[]).run Tryz.prog w2 = .ok (.enter 127 #[.pointer (some ⟨w.heap.size, 0, none⟩), .pointer (some ⟨w.heap.size + 1, 0, none⟩)]) w2 := by simp [go_sem, invoke]
 rcases he with ⟨v, rfl, rfl, rfl, rfl, rfl⟩ | ⟨rfl, rfl⟩ | ⟨t, rfl, rfl, rfl, rfl, rfl⟩
 ·apply ops_nil
  show Code.wp _ _ _ _ _
  apply wp_seq
  apply wp_region
  have ln : w.heap.size < w2.heap.size := Go.Den.lt_of_heap hn
  have ln1 : w.heap.size + 1 < w2.heap.size := Go.Den.lt_of_heap hn1
  refine ops_value (v := .agg #[.int .i64 0, .int .i64 0, .int .i64 0]) (w' := w2) rfl rfl (by simp [go_sem]) ?_
  refine ops_skip (w' := w2.putObj w.heap.size (.cells #[.int .i64 0, .int .i64 0, .int .i64 0] 31 (0, 0))) rfl rfl (store_row (t := 31) (x := .tmp 2) (y := .tmp 7) (arr := #[.int .i64 0, .int .i64 0, .int .i64 0]) (s := 3) rfl rfl (by kernel_rfl) hn rfl rfl (by simp [Act.eval, Act.put, Value.cells, Value.oneCell'])) ?_
  refine ops_skip (w' := (w2.putObj w.heap.size (.cells #[.int .i64 0, .int .i64 0, .int .i64 0] 31 (0, 0))).putObj (w.heap.size + 1) (.cells #[.int .i64 0] 32 (0, 0))) rfl rfl (store_row (t := 32) (x := .tmp 3) (y := .const (.int .i64 0)) (arr := #[.int .i64 0]) (s := 1) rfl rfl (by kernel_rfl) (by rw [Go.Den.heap_put_other (by omega)]; exact hn1) rfl rfl (by simp [Act.eval, Act.put, Value.cells, Value.oneCell'])) ?_
  apply ops_nil
  show Code.wp _ _ _ _ _
  apply wp_ret
  have hi2 : ∀ W : World, (invoke (.fn (.func 127) #[.pointer (some ⟨w.heap.size, 0, none⟩), .pointer (some ⟨w.heap.size + 1, 0, none⟩)]) #[]).run Tryz.prog W = .ok (.enter 127 #[.pointer (some ⟨w.heap.size, 0, none⟩), .pointer (some ⟨w.heap.size + 1, 0, none⟩)]) W := fun W => by simp [go_sem, invoke]
  refine leaves_cons (by simp) (hi2 _) ?_
  refine (catch_idle ⟨w.heap.size, 0, none⟩ ⟨w.heap.size + 1, 0, none⟩ _).mono ?_
  rintro e u' w'' ⟨rfl, rfl, rfl⟩
  have g1 : ((w2.putObj w.heap.size (.cells #[.int .i64 0, .int .i64 0, .int .i64 0] 31 (0, 0))).putObj (w.heap.size + 1) (.cells #[.int .i64 0] 32 (0, 0))).heap[w.heap.size]? = some (.cells #[.int .i64 0, .int .i64 0, .int .i64 0] 31 (0, 0)) := by
   rw [Go.Den.heap_put_other (by omega), Go.Den.heap_put_same ln]
  have g2 : ((w2.putObj w.heap.size (.cells #[.int .i64 0, .int .i64 0, .int .i64 0] 31 (0, 0))).putObj (w.heap.size + 1) (.cells #[.int .i64 0] 32 (0, 0))).heap[w.heap.size + 1]? = some (.cells #[.int .i64 0] 32 (0, 0)) := by
   rw [Go.Den.heap_put_same (by rw [Go.Den.size_put]; exact ln1)]
  refine try_leaves w.heap.size 0 0 0 0 _ _ rfl rfl .returning rfl _ g1 g2 ⟨rfl, w2, hRd, ?_, fun k hk h1 h2 => ?_, g1, g2, rfl, rfl⟩
  ·rw [Go.Den.size_put, Go.Den.size_put]; exact Nat.le_refl _
  ·rw [Go.Den.heap_put_other h2, Go.Den.heap_put_other h1]
 ·refine leaves_cons (by simp) hi ?_
  refine (catch_found w.heap.size a b c _ _ _ _ [] w2 hn hn1).mono ?_
  rintro e u' w'' ⟨rfl, rfl, h1, h2, h3, h4, h5⟩
  exact try_leaves w.heap.size a b c 7 _ _ rfl rfl _ rfl _ h3 h4 ⟨rfl, w2, hRd, h1, h2, h3, h4, h5⟩
 ·refine leaves_cons (by simp) hi ?_
  refine (catch_none w.heap.size t _ _ _ _ [] w2 hn hn1).mono ?_
  rintro e u' w'' ⟨rfl, rfl, h1, h2, h3, h4, h5⟩
  exact try_leaves w.heap.size 0 0 0 4 _ _ rfl rfl _ rfl _ h3 h4 ⟨rfl, w2, hRd, h1, h2, h3, h4, h5⟩
end Go.Proofs.ChTry
end
section
namespace Go.Den.Ch
open Go.Proofs Go.Proofs.ChTry
section
variable {B0 : Nat} {w0 w : World} {G : Gh} {st st' : St} {args : List PV} {avs : List Value} {r : CR} {rec : Rec}
theorem ints3 {G : Gh} {w : World} {a b c : Int} {u : Value} (h : VR G w (.agg [.int .i64 a, .int .i64 b, .int .i64 c]) u) : u = .agg #[.int .i64 a, .int .i64 b, .int .i64 c] := by
 simp only [VR] at h
 obtain ⟨vs, rfl, h⟩ := h
 obtain ⟨v1, r1, e1, h1, h⟩ := VRL.cons_iff.1 h
 obtain ⟨v2, r2, rfl, h2, h⟩ := VRL.cons_iff.1 h
 obtain ⟨v3, r3, rfl, h3, h⟩ := VRL.cons_iff.1 h
 rw [VRL.nil_iff.1 h] at e1
 simp only [VR] at h1 h2 h3
 subst h1 h2 h3
 rw [arr_of_list e1]
theorem str1 {G : Gh} {w : World} {s : ByteArray} {u : Value} (h : VR G w (.agg [.str s]) u) : u = .agg #[.string s] := by
 simp only [VR] at h
 obtain ⟨vs, rfl, h⟩ := h
 obtain ⟨v1, r1, e1, h1, h⟩ := VRL.cons_iff.1 h
 rw [VRL.nil_iff.1 h] at e1
 simp only [VR] at h1
 subst h1
 rw [arr_of_list e1]
theorem try_out (hw : WR Tryz.prog B0 w0 G st.heap w) {G' : Gh} {h' : List HObj} {w2 w' : World} {lo : Nat} (r1 : WR Tryz.prog B0 w0 G' h' w2) (x : Ext G st.heap (tryW w) G' h' w2 lo) (hn : w2.heap[w.heap.size]? = some (Obj.cells #[.int .i64 0, .int .i64 0, .int .i64 0] 31 (0, 0))) (hn1 : w2.heap[w.heap.size + 1]? = some (Obj.cells #[.int .i64 0] 32 (0, 0))) {a b c d : Int} (ht : TryR w.heap.size w2 w' a b c d) :
  WR Tryz.prog B0 w0 G' h' w' ∧ Ext G st.heap w G' h' w' lo := by
 have hsz : (tryW w).heap.size = w.heap.size + 2 := by unfold tryW; rw [size_alloc, size_alloc]
 have hf1 : Foreign B0 G w (tryW w) (fun _ => False) := .grow (by omega) (fun b hb => by unfold tryW; rw [heap_alloc_lt _ _ (by rw [size_alloc]; omega), heap_alloc_lt _ _ hb]) ⟨rfl, rfl⟩
 have hfree : ∀ k, (k = w.heap.size ∨ k = w.heap.size + 1) → B0 ≤ k ∧ (∀ l, G'.be l ≠ some k) ∧ (∀ t e, G'.tg t ≠ some (k, e)) ∧ G'.cm k = none := by
  intro k hk
  have hlow := hw.low.1
  have gb : ∀ l, G.be l ≠ some k := fun l h => by have := (hw.obj h).2.1; omega
  have gt : ∀ t e, G.tg t ≠ some (k, e) := fun t e h => by have := (hw.tag h).2.1; omega
  have gc : G.cm k = none := by
   cases h : G.cm k with
   | none => rfl
   | some n => have := hw.cmLt h; omega
  refine ⟨by omega, fun l h => ?_, fun t e h => ?_, ?_⟩
  ·cases hg : G.be l with
   | none => have := (x.nbe h hg).2; omega
   | some b' => have := x.pres.be hg; rw [h] at this; cases this; exact gb l hg
  ·cases hg : G.tg t with
   | none =>
    rcases (x.ntg h hg).2 with h1 | ⟨t', e', h1⟩
    ·omega
    ·exact gt t' e' h1
   | some y => have := x.pres.tg hg; rw [h] at this; cases this; exact gt t e hg
  ·cases h : G'.cm k with
   | none => rfl
   | some n =>
    rcases x.ncm h gc with h1 | ⟨t, e, h1⟩
    ·omega
    ·exact absurd h1 (gt t e)
 have hf2 : Foreign B0 G' w2 w' (fun k => k = w.heap.size ∨ k = w.heap.size + 1) := by
  refine ⟨ht.1, fun b hb hx => ht.2.1 b hb (fun e => hx (.inl e)) (fun e => hx (.inr e)), hfree, ht.2.2.2.2, fun b arr T fr hx hh => ?_⟩
  rcases hx with rfl | rfl
  ·rw [hn] at hh; cases hh; exact ⟨_, ht.2.2.1, rfl⟩
  ·rw [hn1] at hh; cases hh; exact ⟨_, ht.2.2.2.1, rfl⟩
 have x1 : Ext G st.heap w G st.heap (tryW w) lo := Ext.grow hw hf1
 exact ⟨hf2.wr r1, (x1.trans x).foreign r1 hf2 (fun k hk => by omega)⟩
theorem try_frame (hw : WR Tryz.prog B0 w0 G st.heap w) {G' : Gh} {h' : List HObj} {w2 : World} {lo : Nat} (x : Ext G st.heap (tryW w) G' h' w2 lo) : w2.heap[w.heap.size]? = some (Obj.cells #[.int .i64 0, .int .i64 0, .int .i64 0] 31 (0, 0)) ∧ w2.heap[w.heap.size + 1]? = some (Obj.cells #[.int .i64 0] 32 (0, 0)) := by
 have hsz : (tryW w).heap.size = w.heap.size + 2 := by unfold tryW; rw [size_alloc, size_alloc]
 have key : ∀ k, w.heap.size ≤ k → k < w.heap.size + 2 → w2.heap[k]? = (tryW w).heap[k]? := fun k h1 h2 => x.frame (by omega) (fun l h => by have := (hw.obj h).2.1; omega) (fun t e h => by have := (hw.tag h).2.1; omega) (by
  cases h : G.cm k with
  | none => rfl
  | some n => have := hw.cmLt h; omega)
 refine ⟨?_, ?_⟩
 ·rw [key _ (Nat.le_refl _) (by omega)]
  unfold tryW
  rw [heap_alloc_lt _ _ (by rw [size_alloc]; omega), heap_alloc_new]
 ·rw [key _ (by omega) (by omega)]
  unfold tryW
  have := heap_alloc_new (w.alloc (.cells #[.int .i64 0, .int .i64 0, .int .i64 0] 31 (0, 0))) (.cells #[.int .i64 0] 32 (0, 0))
  rwa [size_alloc] at this
theorem enter79 : Enterable Tryz.prog 79 := ⟨_, Tryz.func79, by kernel_rfl, by kernel_rfl⟩
theorem try_ok (hs : SoundCall Tryz.prog B0 w0 rec) {dg : Nat} {da dc : List PV} (h : tryR rec (.func dg da dc) st = some (some (r, st'))) (hlo : st.lo ≤ st.heap.length) (hw : WR Tryz.prog B0 w0 G st.heap w) (ha : VRL G w [.func dg da dc] avs) : ∀ n, CallsIn Fence.wide n Tryz.prog 79 avs.toArray w (CallR Tryz.prog B0 w0 G st w r st') := by
 intro n
 obtain ⟨fv, vs', rfl, hv, h2⟩ := VRL.cons_iff.1 ha
 rw [VRL.nil_iff.1 h2]
 have hsz : (tryW w).heap.size = w.heap.size + 2 := by unfold tryW; rw [size_alloc, size_alloc]
 have hf1 : Foreign B0 G w (tryW w) (fun _ => False) := .grow (by omega) (fun b hb => by unfold tryW; rw [heap_alloc_lt _ _ (by rw [size_alloc]; omega), heap_alloc_lt _ _ hb]) ⟨rfl, rfl⟩
 have hw1 := hf1.wr hw
 have hv1 := VR.mono (hf1.pres hw) hv
 have hva := hv
 simp only [VR] at hva
 obtain ⟨a', c', rfl, _, _⟩ := hva
 have key : ∀ (r2 : CR) (st2 : St) (a b c d : Int), rec.call (.func dg da dc) [] st = some (r2, st2) → (∀ w2 e, CallR Tryz.prog B0 w0 G st (tryW w) r2 st2 e w2 → ((∃ v, e = .returned v ∧ a = 0 ∧ b = 0 ∧ c = 0 ∧ d = 0) ∨ (e = .panicked [{ v := .iface 133 (.agg #[.int .i64 a, .int .i64 b, .int .i64 c]), recovered := false }] ∧ d = 7) ∨ (∃ t, e = .panicked [{ v := .iface 135 (.agg #[.string t]), recovered := false }] ∧ a = 0 ∧ b = 0 ∧ c = 0 ∧ d = 4))) →
   CallsIn Fence.wide n Tryz.prog 79 #[.func (.func dg) a' c'] w (CallR Tryz.prog B0 w0 G st w (.ret (.tuple [.agg [.int .i64 a, .int .i64 b, .int .i64 c], .int .i64 d])) st2) := by
  intro r2 st2 a b c d hcall hcase
  obtain ⟨_, hsnd⟩ := hs _ _ _ _ _ hcall hlo
  obtain ⟨hE, hC⟩ := hsnd G (tryW w) _ [] hw1 hv1 (VRL.nil_iff.2 rfl) a' c' rfl
  have hC1 := callsIn_wide.1 (hC 0)
  refine callsIn_wide.2 ((try_walk hE (Rd := fun w2 => ∃ G', WR Tryz.prog B0 w0 G' st2.heap w2 ∧ Ext G st.heap (tryW w) G' st2.heap w2 st2.lo) a b c d (hC1.mono ?_)).mono ?_)
  ·intro e w2 hR
   have hR' := hR
   obtain ⟨G', k1, k2, _⟩ := hR'
   exact ⟨hcase w2 e hR, ⟨G', k1, k2⟩, try_frame hw k2⟩
  ·rintro e w' ⟨rfl, w2, ⟨G', k1, k2⟩, ht⟩
   obtain ⟨f1, f2⟩ := try_frame hw k2
   obtain ⟨g1, g2⟩ := try_out hw k1 k2 f1 f2 ht
   refine ⟨G', g1, g2, _, rfl, ?_⟩
   simp only [VR]
   exact ⟨_, rfl, VRL.cons (by simp only [VR]; exact ⟨_, rfl, VRL.cons (by simp only [VR]) (VRL.cons (by simp only [VR]) (VRL.cons (by simp only [VR]) (VRL.nil_iff.2 rfl)))⟩) (VRL.cons (by simp only [VR]) (VRL.nil_iff.2 rfl))⟩
 unfold tryR at h
 split at h
 ·rename_i v st2 hcall
  simp only [Option.some.injEq, Prod.mk.injEq] at h
  obtain ⟨rfl, rfl⟩ := h
  exact key _ _ 0 0 0 0 hcall (fun w2 e hR => by
   obtain ⟨_, _, _, u, he, _⟩ := hR
   exact .inl ⟨u, he, rfl, rfl, rfl, rfl⟩)
 ·rename_i t v st2 hcall
  split at h
  ·rename_i a b c
   simp only [Option.some.injEq, Prod.mk.injEq] at h
   obtain ⟨rfl, rfl⟩ := h
   exact key _ _ a b c 7 hcall (fun w2 e hR => by
    obtain ⟨_, _, _, u, he, hu⟩ := hR
    simp only [VR] at hu
    obtain ⟨y, rfl, vs, rfl, hvs⟩ := hu
    have := ints3 (u := .agg vs) (by simp only [VR]; exact ⟨vs, rfl, hvs⟩)
    rw [this] at he
    exact .inr (.inl ⟨he, rfl⟩))
  ·rename_i s
   simp only [Option.some.injEq, Prod.mk.injEq] at h
   obtain ⟨rfl, rfl⟩ := h
   exact key _ _ 0 0 0 4 hcall (fun w2 e hR => by
    obtain ⟨_, _, _, u, he, hu⟩ := hR
    simp only [VR] at hu
    obtain ⟨y, rfl, vs, rfl, hvs⟩ := hu
    have := str1 (u := .agg vs) (by simp only [VR]; exact ⟨vs, rfl, hvs⟩)
    rw [this] at he
    exact .inr (.inr ⟨s, he, rfl, rfl, rfl, rfl⟩))
  ·cases h
 ·cases h
end
theorem primOK {B0 : Nat} {w0 : World} {m : Int} (hB : 1 < B0) (hm : w0.cell? ⟨1, 0, none⟩ = some (.int .i64 m)) : PrimOK Tryz.prog B0 w0 EE := by
 intro g rec args st r st' _ _ hs _ hp hlo G w avs hw ha
 have hp : primT g rec args st = some (some (r, st')) := hp
 unfold primT at hp
 split at hp
 ·split at hp
  ·exact ⟨enter79, try_ok hs hp hlo hw ha⟩
  ·cases hp
 ·exact ⟨enter137, itoa_ok hp hw ha⟩
 ·exact ⟨enter138, join_ok hp hw ha⟩
 ·exact ⟨enter139, split_ok hB hm hp hw ha⟩
 ·cases hp
theorem primGrows : PrimGrows EE := by
 intro g rec args st r st' hg _ hp hlo
 have hp : primT g rec args st = some (some (r, st')) := hp
 unfold primT at hp
 split at hp
 ·split at hp
  ·unfold tryR at hp
   split at hp
   ·rename_i hcall
    simp only [Option.some.injEq, Prod.mk.injEq] at hp
    obtain ⟨rfl, rfl⟩ := hp
    exact hg _ _ _ _ _ hcall hlo
   ·rename_i hcall
    split at hp
    ·simp only [Option.some.injEq, Prod.mk.injEq] at hp
     obtain ⟨rfl, rfl⟩ := hp
     exact hg _ _ _ _ _ hcall hlo
    ·simp only [Option.some.injEq, Prod.mk.injEq] at hp
     obtain ⟨rfl, rfl⟩ := hp
     exact hg _ _ _ _ _ hcall hlo
    ·cases hp
   ·cases hp
  ·cases hp
 ·unfold itoaR at hp
  split at hp
  ·split at hp
   ·simp only [Option.some.injEq, Prod.mk.injEq] at hp
    obtain ⟨rfl, rfl⟩ := hp
    exact .refl _
   ·cases hp
  ·cases hp
 ·unfold joinR at hp
  split at hp
  ·split at hp
   ·split at hp
    ·simp only [Option.some.injEq, Prod.mk.injEq] at hp
     obtain ⟨rfl, rfl⟩ := hp
     exact .refl _
    ·cases hp
   ·cases hp
  ·cases hp
 ·unfold splitR at hp
  split at hp
  ·split at hp
   ·split at hp
    ·simp only [Option.some.injEq, Prod.mk.injEq] at hp
     obtain ⟨rfl, rfl⟩ := hp
     exact .refl _
    ·cases hp
   ·cases hp
  ·cases hp
 ·cases hp
end Go.Den.Ch
end

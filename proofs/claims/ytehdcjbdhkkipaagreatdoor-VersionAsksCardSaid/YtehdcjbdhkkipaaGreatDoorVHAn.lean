/- Part of the proofs of laws of the package version. Texts: VnPrimB, VnPrimG, VnPrimC, VnEntry, VnRow, VnIn. -/
import Derived.Test.YtehdcjbdhkkipaaGreatDoorVHAm
import Derived.Test.YtehdcjbdhkkipaaGreatDoorChecked
import Derived.WalkKit
import Derived.Defers
import Derived.Recover
import Derived.Lib.AppendZeros
import Derived.Test.YtehdcjbdhkkipaaGreatDoorVHAl
import Derived.ProofKit
import Derived.HandedShaped
import Derived.Shelf.Vars
import Derived.LaidLaws
import Derived.Lay
import Derived.LaidHandle
import Derived.Test.YtehdcjbdhkkipaaGreatDoorRows
import Derived.LaidMore
import Derived.OpenShut
import Derived.Stop.Joined
import Derived.Carry
set_option linter.unusedSimpArgs false
set_option linter.unusedVariables false
section
namespace Go.Proofs.VnTry
open Go.RowKit Go.Extern.Stop Go.Stop Go.Extern
section
variable {P:Program} {ops:Array Oper} {Q:Exit→Act→World→Prop} {i:Nat} {rest:List Nat} {a:Act} {w w':World} {o:Oper}
theorem ops_value {v:Value} (ho:ops[i]? = some o) (hg:o.guard=none) (hr:(execOp a.eval o).run P w = .ok (.value v) w') (h:wpOps P ops Q rest (a.put o.dst v) w'):wpOps P ops Q (i::rest) a w:=by
 simp only [wpOps,ho,Region.wanted,hg,if_true]
 left
 simp only [Oper.wp,Oper.upon,hr]
 exact h
theorem ops_skip (ho:ops[i]? = some o) (hg:o.guard=none) (hr:(execOp a.eval o).run P w = .ok .skip w') (h:wpOps P ops Q rest (a.put o.dst Go.undef) w'):wpOps P ops Q (i::rest) a w:=by
 simp only [wpOps,ho,Region.wanted,hg,if_true]
 left
 simp only [Oper.wp,Oper.upon,hr]
 exact h
theorem ops_defer {d:Deferred} (ho:ops[i]? = some o) (hg:o.guard=none) (hr:(execOp a.eval o).run P w = .ok (.defer d) w') (h:wpOps P ops Q rest ({ a with defers:=d::a.defers }.put o.dst Go.undef) w'):wpOps P ops Q (i::rest) a w:=by
 simp only [wpOps,ho,Region.wanted,hg,if_true]
 left
 simp only [Oper.wp,Oper.upon,hr]
 exact h
theorem ops_call {g:FuncId} {args:Array Value} {R:Ending→World→Prop} (ho:ops[i]? = some o) (hg:o.guard=none) (hr:(execOp a.eval o).run P w = .ok (.enter g args) w) (hc:Calls P g args w R) (h:∀ e w'',R e w''→match e with
  | .returned v=>wpOps P ops Q rest (a.put o.dst v) w''
  | .panicked chain=>Q (.panic chain) a w''
  | .outgrown=>False):wpOps P ops Q (i::rest) a w:=by
 simp only [wpOps,ho,Region.wanted,hg,if_true]
 left
 simp only [Oper.wp,Oper.upon,hr]
 refine hc.mono fun e w'' he=>?_
 have:=h e w'' he
 cases e with
 | returned v=>exact this
 | panicked chain=>exact this
 | outgrown=>exact this.elim
theorem ops_nil (h:Q .normal a w):wpOps P ops Q [] a w:=h
theorem store_row {t T:TypeId} {x y:Operand} {g s:Nat} {arr:Array Value} (ho:o.op = .store t x y) (hx:a.eval x = .pointer (some ⟨g,0,none⟩)) (hsz:Go.Den.sizeT P t=some s) (hg:w.heap[g]? = some (Obj.cells arr T (0,0))) (hs:(a.eval y).cells.size=s) (hs2:arr.size=s) (h1:∀ u∈(a.eval y).cells.toList,u.oneCell'=true) :
  (execOp a.eval o).run P w = .ok .skip (w.putObj g (Obj.cells (a.eval y).cells T (0,0))):=by
 refine Go.Den.OpRun.unit (by unfold execOp;rw [ho]) ?_
 unfold Instr.storeAt storeVar
 have:=Go.Den.run_storeCells_th (P:=P) g 0 T (0,0) (a.eval y).cells.toList 0 arr w hg (Go.Den.Thawed.zero _) (by simp;omega) h1
 have e1:(arr.toList.take 0++(a.eval y).cells.toList++arr.toList.drop (0+(a.eval y).cells.toList.length)).toArray=(a.eval y).cells:=by
  rw [List.drop_of_length_le (by simp;omega)];simp
 simp only [Nat.add_zero] at this
 rw [e1] at this
 simp only [hx,Sem.run_bind,Go.Den.sureAddr_run,Result.andThen_ok,Go.Den.sizeOf_run hsz,hs,ne_eq,not_true_eq_false,if_false,this,Sem.run_ite]
end
theorem catch_idle (p:Addr) (w:World) :
  CallsD Tryz.prog 154 #[.pointer (some p)] .returning w fun e u' w'=>e = .returned (.tuple #[])∧u' = .returning∧w'=w:=by
 have hnil:∀ w:World,(binOp BinOp.eql 20 .nilIface .nilIface).run Tryz.prog w = .ok (.bool true) w:=fun _=>by kernel_rfl
 refine callsD_of_wpS Tryz.func154 rfl fun c₀ cs hu=>?_
 apply wpS_seq
 apply wpS_region
 simp [wpOpsS,go_sem,recoverD,hu,Tryz.ntmps154,Exit.thenS]
 have ht:#[Value.pointer (some p)]++(Array.replicate 13 Go.undef).setIfInBounds 4 Value.nilIface=#[.pointer (some p),Go.undef,Go.undef,Go.undef,Go.undef,.nilIface,Go.undef,Go.undef,Go.undef,Go.undef,Go.undef,Go.undef,Go.undef,Go.undef]:=rfl
 rw [ht]
 refine wpS_of_wp ?_
 apply wp_block
 apply wp_seq
 apply wp_region
 simp [wpOps,go_sem,hnil,Exit.then]
 (repeat apply Or.inl)
 refine wp_cond_true (by simp [Act.eval]) ?_
 apply wp_region
 simp [wpOps,go_sem,Exit.inBlock]
 (repeat apply Or.inl)
 cases c₀
 simp_all [bodyPostS,results,Tryz.results154]
theorem catch_found (n:Nat) (x:Int) (e0:Value) (older:List PanicEntry) (w:World) (hq:w.heap[n]? = some (.cells #[e0] 29 (0,0))) :
  CallsD Tryz.prog 154 #[.pointer (some ⟨n,0,none⟩)] (.panicking ({ v := .iface 199 (.agg #[.int .i64 x]),recovered:=false }::older)) w fun e u' w'=>e = .returned (.tuple #[])∧u' = .panicking ({ v := .iface 199 (.agg #[.int .i64 x]),recovered:=true }::older) ∧
   w.heap.size≤w'.heap.size∧(∀ k,k<w.heap.size→k≠n→w'.heap[k]? = w.heap[k]?)∧w'.heap[n]? = some (.cells #[.int .i64 2] 29 (0,0))∧w'.os=w.os∧w'.output=w.output:=by
 have hnil:∀ w:World,(binOp BinOp.eql 20 (.iface 199 (.agg #[.int .i64 x])) .nilIface).run Tryz.prog w = .ok (.bool false) w:=fun _=>by kernel_rfl
 have hta:∀ w:World,(Instr.typeAssert (.iface 199 (.agg #[.int .i64 x])) 20 199 true).run Tryz.prog w = .ok (.tuple #[.agg #[.int .i64 x],.bool true]) w:=fun _=>by kernel_rfl
 have ln:n<w.heap.size:=Go.Den.lt_of_heap hq
 refine callsD_of_wpS Tryz.func154 rfl fun c₀ cs hu=>?_
 apply wpS_seq
 apply wpS_region
 simp [wpOpsS,go_sem,recoverD,hu,Tryz.ntmps154,Exit.thenS]
 have ht:#[Value.pointer (some ⟨n,0,none⟩)]++(Array.replicate 13 Go.undef).setIfInBounds 4 (.iface 199 (.agg #[.int .i64 x]))=#[.pointer (some ⟨n,0,none⟩),Go.undef,Go.undef,Go.undef,Go.undef,.iface 199 (.agg #[.int .i64 x]),Go.undef,Go.undef,Go.undef,Go.undef,Go.undef,Go.undef,Go.undef,Go.undef]:=rfl
 rw [ht]
 refine wpS_of_wp ?_
 apply wp_block
 apply wp_seq
 apply wp_region
 simp [wpOps,go_sem,hnil,Exit.then]
 (repeat apply Or.inl)
 refine wp_cond_false (by simp [Act.eval]) ?_
 apply wp_seq
 apply wp_region
 simp [wpOps,go_sem,Exit.then,hta]
 (repeat apply Or.inl)
 refine wp_cond_true (by simp [Act.eval]) ?_
 apply wp_seq
 apply wp_region
 refine ops_value (v := .pointer (some ⟨w.heap.size,0,none⟩)) (w':=w.alloc (.cells #[.int .i64 0] 199 (0,0))) rfl rfl (by simp [go_sem]) ?_
 refine ops_skip (w':=(w.alloc (.cells #[.int .i64 0] 199 (0,0))).putObj w.heap.size (.cells #[.int .i64 x] 199 (0,0))) rfl rfl (store_row (t:=199) (x := .tmp 2) (y := .tmp 10) (arr:=#[.int .i64 0]) (s:=1) rfl rfl (by kernel_rfl) (Go.Den.heap_alloc_new _ _) rfl rfl (by simp [Act.eval,Act.put,Value.cells,Value.oneCell'])) ?_
 apply ops_nil
 generalize hW:(w.alloc (.cells #[.int .i64 0] 199 (0,0))).putObj w.heap.size (.cells #[.int .i64 x] 199 (0,0))=W
 have hWos:W.os=w.os∧W.output=w.output:=by rw [← hW];exact ⟨rfl,rfl⟩
 have hWs:w.heap.size≤W.heap.size:=by rw [← hW,Go.Den.size_put,Go.Den.size_alloc];omega
 have hWo:∀ k,k<w.heap.size→W.heap[k]? = w.heap[k]? := fun k hk=>by rw [← hW,Go.Den.heap_put_other (by omega),Go.Den.heap_alloc_lt _ _ hk]
 show Code.wp _ _ _ _ _
 apply wp_region
 refine ops_skip (w':=W.putObj n (.cells #[.int .i64 2] 29 (0,0))) rfl rfl (store_row (t:=29) (x := .tmp 0) (y := .const (.int .i64 2)) (arr:=#[e0]) (s:=1) rfl rfl (by kernel_rfl) ((hWo n ln).trans hq) rfl rfl (by simp [Act.eval,Act.put,Value.cells,Value.oneCell'])) ?_
 apply ops_nil
 refine ⟨rfl,_,rfl,.tuple #[],by simp [results,Tryz.results154],rfl,rfl,?_,fun k hk h1=>?_,?_,hWos⟩
 ·rw [Go.Den.size_put];exact hWs
 ·rw [Go.Den.heap_put_other h1,hWo k hk]
 ·rw [Go.Den.heap_put_same (by omega)]
theorem catch_none (n:Nat) (t:ByteArray) (e0:Value) (older:List PanicEntry) (w:World) (hq:w.heap[n]? = some (.cells #[e0] 29 (0,0))) :
  CallsD Tryz.prog 154 #[.pointer (some ⟨n,0,none⟩)] (.panicking ({ v := .iface 201 (.agg #[.string t]),recovered:=false }::older)) w fun e u' w'=>e = .returned (.tuple #[])∧u' = .panicking ({ v := .iface 201 (.agg #[.string t]),recovered:=true }::older) ∧
   w.heap.size≤w'.heap.size∧(∀ k,k<w.heap.size→k≠n→w'.heap[k]? = w.heap[k]?)∧w'.heap[n]? = some (.cells #[.int .i64 4] 29 (0,0))∧w'.os=w.os∧w'.output=w.output:=by
 have hnil:∀ w:World,(binOp BinOp.eql 20 (.iface 201 (.agg #[.string t])) .nilIface).run Tryz.prog w = .ok (.bool false) w:=fun _=>by kernel_rfl
 have hta:∀ w:World,(Instr.typeAssert (.iface 201 (.agg #[.string t])) 20 199 true).run Tryz.prog w = .ok (.tuple #[.agg #[.int .i64 0],.bool false]) w:=fun _=>by kernel_rfl
 have htb:∀ w:World,(Instr.typeAssert (.iface 201 (.agg #[.string t])) 20 201 true).run Tryz.prog w = .ok (.tuple #[.agg #[.string t],.bool true]) w:=fun _=>by kernel_rfl
 have ln:n<w.heap.size:=Go.Den.lt_of_heap hq
 refine callsD_of_wpS Tryz.func154 rfl fun c₀ cs hu=>?_
 apply wpS_seq
 apply wpS_region
 simp [wpOpsS,go_sem,recoverD,hu,Tryz.ntmps154,Exit.thenS]
 have ht:#[Value.pointer (some ⟨n,0,none⟩)]++(Array.replicate 13 Go.undef).setIfInBounds 4 (.iface 201 (.agg #[.string t]))=#[.pointer (some ⟨n,0,none⟩),Go.undef,Go.undef,Go.undef,Go.undef,.iface 201 (.agg #[.string t]),Go.undef,Go.undef,Go.undef,Go.undef,Go.undef,Go.undef,Go.undef,Go.undef]:=rfl
 rw [ht]
 refine wpS_of_wp ?_
 apply wp_block
 apply wp_seq
 apply wp_region
 simp [wpOps,go_sem,hnil,Exit.then]
 (repeat apply Or.inl)
 refine wp_cond_false (by simp [Act.eval]) ?_
 apply wp_seq
 apply wp_region
 simp [wpOps,go_sem,Exit.then,hta]
 (repeat apply Or.inl)
 refine wp_cond_false (by simp [Act.eval]) ?_
 apply wp_seq
 apply wp_region
 simp [wpOps,go_sem,Exit.then,htb]
 (repeat apply Or.inl)
 refine wp_cond_true (by simp [Act.eval]) ?_
 apply wp_seq
 apply wp_region
 refine ops_value (v := .pointer (some ⟨w.heap.size,0,none⟩)) (w':=w.alloc (.cells #[.string ⟨#[]⟩] 201 (0,0))) rfl rfl (by simp [go_sem]) ?_
 refine ops_skip (w':=(w.alloc (.cells #[.string ⟨#[]⟩] 201 (0,0))).putObj w.heap.size (.cells #[.string t] 201 (0,0))) rfl rfl (store_row (t:=201) (x := .tmp 3) (y := .tmp 13) (arr:=#[.string ⟨#[]⟩]) (s:=1) rfl rfl (by kernel_rfl) (Go.Den.heap_alloc_new _ _) rfl rfl (by simp [Act.eval,Act.put,Value.cells,Value.oneCell'])) ?_
 apply ops_nil
 generalize hW:(w.alloc (.cells #[.string ⟨#[]⟩] 201 (0,0))).putObj w.heap.size (.cells #[.string t] 201 (0,0))=W
 have hWos:W.os=w.os∧W.output=w.output:=by rw [← hW];exact ⟨rfl,rfl⟩
 have hWs:w.heap.size≤W.heap.size:=by rw [← hW,Go.Den.size_put,Go.Den.size_alloc];omega
 have hWo:∀ k,k<w.heap.size→W.heap[k]? = w.heap[k]? := fun k hk=>by rw [← hW,Go.Den.heap_put_other (by omega),Go.Den.heap_alloc_lt _ _ hk]
 show Code.wp _ _ _ _ _
 apply wp_region
 refine ops_skip (w':=W.putObj n (.cells #[.int .i64 4] 29 (0,0))) rfl rfl (store_row (t:=29) (x := .tmp 0) (y := .const (.int .i64 4)) (arr:=#[e0]) (s:=1) rfl rfl (by kernel_rfl) ((hWo n ln).trans hq) rfl rfl (by simp [Act.eval,Act.put,Value.cells,Value.oneCell'])) ?_
 apply ops_nil
 refine ⟨rfl,_,rfl,.tuple #[],by simp [results,Tryz.results154],rfl,rfl,?_,fun k hk h1=>?_,?_,hWos⟩
 ·rw [Go.Den.size_put];exact hWs
 ·rw [Go.Den.heap_put_other h1,hWo k hk]
 ·rw [Go.Den.heap_put_same (by omega)]
theorem try_leaves (n:Nat) (d:Int) (R:Ending→World→Prop) (tm:Array Value) (h2:tm[2]?.getD Go.undef = .pointer (some ⟨n,0,none⟩)) (u:FrameMode) (hu:settle u = .returning) (w:World) (hq:w.heap[n]? = some (.cells #[.int .i64 d] 29 (0,0)))
  (hR:R (.returned (.int .i64 d)) w):Leaves Tryz.prog Tryz.f122 tm R [] (settle u) w:=by
 have c3:w.cell? ⟨n,0,none⟩=some (.int .i64 d):=by rw [Go.Den.cell_row hq];rfl
 rw [hu]
 refine ⟨_,?_,hR⟩
 simp [results,Tryz.results122,go_sem,h2,c3]
def tryW (w:World):World:=w.alloc (.cells #[.int .i64 0] 29 (0,0))
def TryR (n:Nat) (w2 w':World) (d:Int):Prop:=w2.heap.size≤w'.heap.size∧(∀ k,k<w2.heap.size→k≠n→w'.heap[k]? = w2.heap[k]?)∧w'.heap[n]? = some (.cells #[.int .i64 d] 29 (0,0))∧w'.os=w2.os∧w'.output=w2.output
set_option maxHeartbeats 4000000 in
theorem try_walk {g:FuncId} {fi ca:Array Value} {w:World} (hE:Go.Den.Enterable Tryz.prog g) {Rd:World→Prop} (d:Int)
  (hdo:Calls Tryz.prog g (fi++#[]++ca) (tryW w) fun e w2=>((∃ v,e = .returned v∧d=0)∨(∃ x,e = .panicked [{ v := .iface 199 (.agg #[.int .i64 x]),recovered:=false }]∧d=2)∨(∃ t,e = .panicked [{ v := .iface 201 (.agg #[.string t]),recovered:=false }]∧d=4))∧Rd w2∧w2.heap[w.heap.size]? = some (.cells #[.int .i64 0] 29 (0,0))) :
  Calls Tryz.prog 122 #[.func (.func g) fi ca] w fun e w'=>e = .returned (.int .i64 d)∧∃ w2,Rd w2∧TryR w.heap.size w2 w' d:=by
 have hmf:∀ (fn:Fn) (first cap:Array Value) (w:World),(Instr.makeFunc fn first cap).run Tryz.prog w = .ok (.func fn first cap) w:=fun _ _ _ _=>rfl
 have e00:fi++#[]++ca=fi++ca:=by simp
 rw [e00] at hdo
 refine calls_of_wp_defers Tryz.func122 rfl ?_
 have ht:(#[Value.func (.func g) fi ca]:Array Value)++Array.replicate (Tryz.f122.ntmps - 1) Go.undef=#[.func (.func g) fi ca,Go.undef,Go.undef,Go.undef,Go.undef,Go.undef]:=rfl
 show Code.wp _ _ _ { tmps:=#[Value.func (.func g) fi ca]++Array.replicate (Tryz.f122.ntmps - 1) Go.undef,defers:=[] } _
 rw [ht]
 apply wp_seq
 apply wp_region
 refine ops_value (v := .pointer (some ⟨w.heap.size,0,none⟩)) (w':=tryW w) rfl rfl (by simp [go_sem,tryW]) ?_
 apply ops_nil
 show Code.wp _ _ _ _ _
 apply wp_seq
 apply wp_region
 refine ops_value (v := .func (.func 154) #[] #[.pointer (some ⟨w.heap.size,0,none⟩)]) (w':=tryW w) rfl rfl (by simp [go_sem,Act.put,hmf]) ?_
 refine ops_defer (d:={ target := .fn (.func 154) #[.pointer (some ⟨w.heap.size,0,none⟩)],args:=#[] }) (w':=tryW w) rfl rfl (by simp [go_sem,Act.put]) ?_
 apply ops_nil
 show Code.wp _ _ _ _ _
 apply wp_seq
 apply wp_region
 refine ops_value (v := .func (.func g) fi ca) (w':=tryW w) rfl rfl (by simp [go_sem,Act.put]) ?_
 refine ops_call (g:=g) (args:=fi++ca) rfl rfl (by
  have h:=Go.Den.callFunc_run hE (fi++ca) (tryW w)
  simp [go_sem,Act.put,invoke,h]) hdo ?_
 rintro e w2 ⟨he,hRd,hn1⟩
 have hi:(invoke (.fn (.func 154) #[.pointer (some ⟨w.heap.size,0,none⟩)]) #[]).run Tryz.prog w2 = .ok (.enter 154 #[.pointer (some ⟨w.heap.size,0,none⟩)]) w2:=by simp [go_sem,invoke]
 rcases he with ⟨v,rfl,rfl⟩|⟨x,rfl,rfl⟩|⟨t,rfl,rfl⟩
 ·apply ops_nil
  show Code.wp _ _ _ _ _
  apply wp_seq
  apply wp_region
  have ln1:w.heap.size<w2.heap.size:=Go.Den.lt_of_heap hn1
  refine ops_skip (w':=w2.putObj w.heap.size (.cells #[.int .i64 0] 29 (0,0))) rfl rfl (store_row (t:=29) (x := .tmp 2) (y := .const (.int .i64 0)) (arr:=#[.int .i64 0]) (s:=1) rfl rfl (by kernel_rfl) hn1 rfl rfl (by simp [Act.eval,Act.put,Value.cells,Value.oneCell'])) ?_
  apply ops_nil
  show Code.wp _ _ _ _ _
  apply wp_ret
  have hi2:∀ W:World,(invoke (.fn (.func 154) #[.pointer (some ⟨w.heap.size,0,none⟩)]) #[]).run Tryz.prog W = .ok (.enter 154 #[.pointer (some ⟨w.heap.size,0,none⟩)]) W:=fun W=>by simp [go_sem,invoke]
  refine leaves_cons (by simp) (hi2 _) ?_
  refine (catch_idle ⟨w.heap.size,0,none⟩ _).mono ?_
  rintro e u' w'' ⟨rfl,rfl,rfl⟩
  have g2:(w2.putObj w.heap.size (.cells #[.int .i64 0] 29 (0,0))).heap[w.heap.size]? = some (.cells #[.int .i64 0] 29 (0,0)):=by
   rw [Go.Den.heap_put_same ln1]
  refine try_leaves w.heap.size 0 _ _ rfl .returning rfl _ g2 ⟨rfl,w2,hRd,?_,fun k hk h1=>?_,g2,rfl,rfl⟩
  ·rw [Go.Den.size_put];exact Nat.le_refl _
  ·rw [Go.Den.heap_put_other h1]
 ·refine leaves_cons (by simp) hi ?_
  refine (catch_found w.heap.size x _ [] w2 hn1).mono ?_
  rintro e u' w'' ⟨rfl,rfl,h1,h2,h4,h5⟩
  exact try_leaves w.heap.size 2 _ _ rfl _ rfl _ h4 ⟨rfl,w2,hRd,h1,h2,h4,h5⟩
 ·refine leaves_cons (by simp) hi ?_
  refine (catch_none w.heap.size t _ [] w2 hn1).mono ?_
  rintro e u' w'' ⟨rfl,rfl,h1,h2,h4,h5⟩
  exact try_leaves w.heap.size 4 _ _ rfl _ rfl _ h4 ⟨rfl,w2,hRd,h1,h2,h4,h5⟩
end Go.Proofs.VnTry
end
section
namespace Go.Proofs.VnTry
open Go.RowKit Go.Extern.Stop Go.Stop Go.Extern
theorem info_parts25:∃ i,Tryz.prog.info? 25=some i∧i.zero=some (.slice none 0 0)∧i.size=1∧i.bytes=24:=by
 have h:(Tryz.prog.info? 25).map (fun i=>(i.zero,i.size,i.bytes))=some (some (.slice none 0 0),1,24):=by kernel_rfl
 revert h
 generalize Tryz.prog.info? 25=o
 intro h
 obtain ⟨i,hi,hzz⟩:=Option.map_eq_some_iff.1 h
 simp only [Prod.mk.injEq] at hzz
 exact ⟨i,hi,hzz.1,hzz.2.1,hzz.2.2⟩
theorem grow_app {P:Program} (hu:P.underlying 45=some (.slice 25)) (hu3:P.underlying 3=some (.int .i64)) (hinfo:∃ i,P.info? 25=some i∧i.zero=some (.slice none 0 0)∧i.size=1∧i.bytes=24) (n:Nat) (h1:1≤n) (h2:n≤1000) (w:World):∃ (cap:Nat) (Z:Array Value),n≤cap∧Z.size=cap∧(Builtin.append_ #[45,3] 45 #[.slice none 0 0,.int .i64 n]).run P w = .ok (.slice (some ⟨w.heap.size,0,none⟩) n cap) (w.drew.alloc (.cells Z 25)):=by
 obtain ⟨i0,hi,hz0,hz1,hz2⟩:=hinfo
 have happ:=Lib.run_append_nil_zeros (P:=P) w 45 3 45 25 i0 (.slice none 0 0) .i64 .i64 hu hu3 hi hz0 n (by omega) (by omega) (by omega) (by rw [hz2];omega)
 have hge:=grownCap_ge w n 0 25
 exact ⟨_,_,hge,by simp [size_zeroCells,Value.cells];omega,happ⟩
theorem rep25 (a b c:Value):(#[a,b]:Array Value)++Array.replicate (27 - (#[a,b]:Array Value).size) c=#[a,b,c,c,c,c,c,c,c,c,c,c,c,c,c,c,c,c,c,c,c,c,c,c,c,c,c]:=by
 apply Array.ext'
 rw [Array.toList_append,Array.toList_replicate]
 rfl
set_option maxHeartbeats 4000000 in
theorem grow_walk (n:Nat) (h1:1≤n) (h2:n≤1000) (w:World):Calls Tryz.prog 145 #[.slice none 0 0,.int .i64 n] w fun e w'=>∃ (cap:Nat) (Z:Array Value),n≤cap∧Z.size=cap∧e = .returned (.slice (some ⟨w.heap.size,0,none⟩) 0 cap)∧w'=w.drew.alloc (.cells Z 25):=by
 obtain ⟨cap2,Z,hcapge,hZs,happ⟩:=grow_app Tryz.underlying45 Tryz.underlying3 info_parts25 n h1 h2 w
 have hw:IntKind.i64.wrap (n:Int)=n:=by rw [IntKind.wrap_i64];omega
 have hw0:IntKind.i64.wrap 0=0:=rfl
 have hd1:decide ((n:Int)<0)=false:=by simp
 have hd2:decide ((n:Int)>0)=true:=by simp;omega
 refine calls_of_wp Tryz.func145 rfl ?_
 have ht:(#[Value.slice none 0 0,.int .i64 n]:Array Value)++Array.replicate (Tryz.f145.ntmps - (#[Value.slice none 0 0,.int .i64 n]:Array Value).size) Go.undef=#[.slice none 0 0,.int .i64 n,Go.undef,Go.undef,Go.undef,Go.undef,Go.undef,Go.undef,Go.undef,Go.undef,Go.undef,Go.undef,Go.undef,Go.undef,Go.undef,Go.undef,Go.undef,Go.undef,Go.undef,Go.undef,Go.undef,Go.undef,Go.undef,Go.undef,Go.undef,Go.undef,Go.undef]:=by
  rw [Tryz.ntmps145]
  exact rep25 _ _ _
 rw [ht]
 apply wp_seq
 apply wp_region
 refine ops_value (v := .slice none 0 0) (w':=w) rfl rfl (by simp [go_sem]) ?_
 apply ops_nil
 show Code.wp _ _ _ _ _
 apply wp_seq
 apply wp_seq
 apply wp_region
 refine ops_value (v := .int .i64 n) (w':=w) rfl rfl (by simp [go_sem,Act.put]) ?_
 refine ops_value (v := .bool false) (w':=w) rfl rfl (by simp [go_sem,Act.put]) ?_
 apply ops_nil
 show Code.wp _ _ _ _ _
 refine wp_cond_false (by simp [Act.eval,Act.put]) ?_
 apply wp_skip
 show Code.wp _ _ _ _ _
 apply wp_seq
 apply wp_seq
 apply wp_region
 refine ops_value (v := .int .i64 n) (w':=w) rfl rfl (by simp [go_sem,Act.put]) ?_
 refine ops_value (v := .slice none 0 0) (w':=w) rfl rfl (by simp [go_sem,Act.put]) ?_
 refine ops_value (v := .int .i64 0) (w':=w) rfl rfl (by simp [go_sem,Act.put]) ?_
 refine ops_value (v := .slice none 0 0) (w':=w) rfl rfl (by simp [go_sem,Act.put]) ?_
 refine ops_value (v := .int .i64 0) (w':=w) rfl rfl (by simp [go_sem,Act.put]) ?_
 refine ops_value (v := .int .i64 0) (w':=w) rfl rfl (by simp [go_sem,Act.put,hw0]) ?_
 refine ops_value (v := .int .i64 n) (w':=w) rfl rfl (by simp [go_sem,Act.put,hw]) ?_
 refine ops_value (v := .int .i64 n) (w':=w) rfl rfl (by simp [go_sem,Act.put]) ?_
 apply ops_nil
 show Code.wp _ _ _ _ _
 apply wp_seq
 apply wp_region
 refine ops_value (v := .int .i64 n) (w':=w) rfl rfl (by simp [go_sem,Act.put]) ?_
 refine ops_value (v := .bool true) (w':=w) rfl rfl (by simp [go_sem,Act.put];omega) ?_
 apply ops_nil
 show Code.wp _ _ _ _ _
 refine wp_cond_true (by simp [Act.eval,Act.put]) ?_
 apply wp_region
 refine ops_value (v := .slice none 0 0) (w':=w) rfl rfl (by simp [go_sem,Act.put]) ?_
 refine ops_value (v := .slice none 0 0) (w':=w) rfl rfl (by simp [go_sem,Act.put]) ?_
 refine ops_value (v := .int .i64 0) (w':=w) rfl rfl (by simp [go_sem,Act.put]) ?_
 refine ops_value (v := .slice none 0 0) (w':=w) rfl rfl (by simp [go_sem,Act.put]) ?_
 refine ops_value (v := .int .i64 n) (w':=w) rfl rfl (by simp [go_sem,Act.put]) ?_
 refine ops_value (v := .slice (some ⟨w.heap.size,0,none⟩) n cap2) (w':=w.drew.alloc (.cells Z 25)) rfl rfl (by unfold execOp;simp [resolve,invoke,builtin,Act.put,Act.eval,happ]) ?_
 generalize hW:w.drew.alloc (.cells Z 25)=W
 refine ops_value (v := .slice none 0 0) (w':=W) rfl rfl (by simp [go_sem,Act.put]) ?_
 refine ops_value (v := .int .i64 0) (w':=W) rfl rfl (by simp [go_sem,Act.put]) ?_
 refine ops_value (v := .slice (some ⟨w.heap.size,0,none⟩) 0 cap2) (w':=W) rfl rfl (by simp [go_sem,Act.put]) ?_
 refine ops_value (v := .slice (some ⟨w.heap.size,0,none⟩) 0 cap2) (w':=W) rfl rfl (by simp [go_sem,Act.put]) ?_
 apply ops_nil
 show Code.wp _ _ _ _ _
 apply wp_seq
 apply wp_region
 refine ops_value (v := .slice (some ⟨w.heap.size,0,none⟩) 0 cap2) (w':=W) rfl rfl (by simp [go_sem,Act.put]) ?_
 refine ops_value (v := .slice (some ⟨w.heap.size,0,none⟩) 0 cap2) (w':=W) rfl rfl (by simp [go_sem,Act.put]) ?_
 apply ops_nil
 show Code.wp _ _ _ _ _
 apply wp_ret
 have hr:∀ (tm:Array Value),tm[4]?.getD Go.undef = .slice (some ⟨w.heap.size,0,none⟩) 0 cap2→(results Tryz.f145 tm).run Tryz.prog W = .ok (.slice (some ⟨w.heap.size,0,none⟩) 0 cap2) W:=fun tm h=>by simp [results,Tryz.results145,go_sem,h]
 refine ⟨by simp [Act.put],_,hr _ (by simp [Act.put]),?_⟩
 exact ⟨cap2,Z,hcapge,hZs,rfl,hW.symm⟩
end Go.Proofs.VnTry
end
section
namespace Go.Den.Ve
open Go.Proofs Go.Proofs.VnTry
section
variable {B0:Nat} {w0 w:World} {G:Gh} {st st':St} {args:List PV} {avs:List Value} {r:CR} {rec:Rec}
theorem int1 {G:Gh} {w:World} {a:Int} {u:Value} (h:VR G w (.agg [.int .i64 a]) u):u = .agg #[.int .i64 a]:=by
 simp only [VR] at h
 obtain ⟨vs,rfl,h⟩:=h
 obtain ⟨v1,r1,e1,h1,h⟩:=VRL.cons_iff.1 h
 rw [VRL.nil_iff.1 h] at e1
 simp only [VR] at h1
 subst h1
 rw [arr_of_list e1]
theorem str1 {G:Gh} {w:World} {s:ByteArray} {u:Value} (h:VR G w (.agg [.str s]) u):u = .agg #[.string s]:=by
 simp only [VR] at h
 obtain ⟨vs,rfl,h⟩:=h
 obtain ⟨v1,r1,e1,h1,h⟩:=VRL.cons_iff.1 h
 rw [VRL.nil_iff.1 h] at e1
 simp only [VR] at h1
 subst h1
 rw [arr_of_list e1]
theorem try_out (hw:WR Tryz.prog B0 w0 G st.heap w) {G':Gh} {h':List HObj} {w2 w':World} {lo:Nat} (r1:WR Tryz.prog B0 w0 G' h' w2) (x:Ext G st.heap (tryW w) G' h' w2 lo) (hn1:w2.heap[w.heap.size]? = some (Obj.cells #[.int .i64 0] 29 (0,0))) {d:Int} (ht:TryR w.heap.size w2 w' d) :
  WR Tryz.prog B0 w0 G' h' w'∧Ext G st.heap w G' h' w' lo:=by
 have hsz:(tryW w).heap.size=w.heap.size+1:=by unfold tryW;rw [size_alloc]
 have hf1:Foreign B0 G w (tryW w) (fun _=>False) := .grow (by omega) (fun b hb=>by unfold tryW;rw [heap_alloc_lt _ _ hb]) ⟨rfl,rfl⟩
 have hfree:∀ k,k=w.heap.size→B0≤k∧(∀ l,G'.be l≠some k)∧(∀ t e,G'.tg t≠some (k,e))∧G'.cm k=none:=by
  intro k hk
  have hlow:=hw.low.1
  have gb:∀ l,G.be l≠some k:=fun l h=>by have:=(hw.obj h).2.1;omega
  have gt:∀ t e,G.tg t≠some (k,e):=fun t e h=>by have:=(hw.tag h).2.1;omega
  have gc:G.cm k=none:=by
   cases h:G.cm k with
   | none=>rfl
   | some n=>have:=hw.cmLt h;omega
  refine ⟨by omega,fun l h=>?_,fun t e h=>?_,?_⟩
  ·cases hg:G.be l with
   | none=>have:=(x.nbe h hg).2;omega
   | some b'=>have:=x.pres.be hg;rw [h] at this;cases this;exact gb l hg
  ·cases hg:G.tg t with
   | none =>
    rcases (x.ntg h hg).2 with h1|⟨t',e',h1⟩
    ·omega
    ·exact gt t' e' h1
   | some y=>have:=x.pres.tg hg;rw [h] at this;cases this;exact gt t e hg
  ·cases h:G'.cm k with
   | none=>rfl
   | some n =>
    rcases x.ncm h gc with h1|⟨t,e,h1⟩
    ·omega
    ·exact absurd h1 (gt t e)
 have hf2:Foreign B0 G' w2 w' (fun k=>k=w.heap.size):=by
  refine ⟨ht.1,fun b hb hx=>ht.2.1 b hb hx,hfree,ht.2.2.2,fun b arr T fr hx hh=>?_⟩
  subst hx
  rw [hn1] at hh;cases hh;exact ⟨_,ht.2.2.1,rfl⟩
 have x1:Ext G st.heap w G st.heap (tryW w) lo:=Ext.grow hw hf1
 exact ⟨hf2.wr r1,(x1.trans x).foreign r1 hf2 (fun k hk=>by omega)⟩
theorem try_frame (hw:WR Tryz.prog B0 w0 G st.heap w) {G':Gh} {h':List HObj} {w2:World} {lo:Nat} (x:Ext G st.heap (tryW w) G' h' w2 lo):w2.heap[w.heap.size]? = some (Obj.cells #[.int .i64 0] 29 (0,0)):=by
 have hsz:(tryW w).heap.size=w.heap.size+1:=by unfold tryW;rw [size_alloc]
 have key:∀ k,w.heap.size≤k→k<w.heap.size+1→w2.heap[k]? = (tryW w).heap[k]? := fun k h1 h2=>x.frame (by omega) (fun l h=>by have:=(hw.obj h).2.1;omega) (fun t e h=>by have:=(hw.tag h).2.1;omega) (by
  cases h:G.cm k with
  | none=>rfl
  | some n=>have:=hw.cmLt h;omega)
 rw [key _ (Nat.le_refl _) (by omega)]
 unfold tryW
 rw [heap_alloc_new]
theorem enter122:Enterable Tryz.prog 122:=⟨_,Tryz.func122,by kernel_rfl,by kernel_rfl⟩
theorem enter145:Enterable Tryz.prog 145:=⟨_,Tryz.func145,by kernel_rfl,by kernel_rfl⟩
theorem try_ok (hs:SoundCall Tryz.prog B0 w0 rec) {dg:Nat} {da dc:List PV} (h:tryR rec (.func dg da dc) st=some (some (r,st'))) (hlo:st.lo≤st.heap.length) (hw:WR Tryz.prog B0 w0 G st.heap w) (ha:VRL G w [.func dg da dc] avs):∀ n,CallsIn Fence.wide n Tryz.prog 122 avs.toArray w (CallR Tryz.prog B0 w0 G st w r st'):=by
 intro n
 obtain ⟨fv,vs',rfl,hv,h2⟩:=VRL.cons_iff.1 ha
 rw [VRL.nil_iff.1 h2]
 have hsz:(tryW w).heap.size=w.heap.size+1:=by unfold tryW;rw [size_alloc]
 have hf1:Foreign B0 G w (tryW w) (fun _=>False) := .grow (by omega) (fun b hb=>by unfold tryW;rw [heap_alloc_lt _ _ hb]) ⟨rfl,rfl⟩
 have hw1:=hf1.wr hw
 have hv1:=VR.mono (hf1.pres hw) hv
 have hva:=hv
 simp only [VR] at hva
 obtain ⟨a',c',rfl,_,_⟩:=hva
 have key:∀ (r2:CR) (st2:St) (d:Int),rec.call (.func dg da dc) [] st=some (r2,st2)→(∀ w2 e,CallR Tryz.prog B0 w0 G st (tryW w) r2 st2 e w2→((∃ v,e = .returned v∧d=0)∨(∃ x,e = .panicked [{ v := .iface 199 (.agg #[.int .i64 x]),recovered:=false }]∧d=2)∨(∃ t,e = .panicked [{ v := .iface 201 (.agg #[.string t]),recovered:=false }]∧d=4))) →
   CallsIn Fence.wide n Tryz.prog 122 #[.func (.func dg) a' c'] w (CallR Tryz.prog B0 w0 G st w (.ret (.int .i64 d)) st2):=by
  intro r2 st2 d hcall hcase
  obtain ⟨_,hsnd⟩:=hs _ _ _ _ _ hcall hlo
  obtain ⟨hE,hC⟩:=hsnd G (tryW w) _ [] hw1 hv1 (VRL.nil_iff.2 rfl) a' c' rfl
  have hC1:=callsIn_wide.1 (hC 0)
  refine callsIn_wide.2 ((try_walk hE (Rd:=fun w2=>∃ G',WR Tryz.prog B0 w0 G' st2.heap w2∧Ext G st.heap (tryW w) G' st2.heap w2 st2.lo) d (hC1.mono ?_)).mono ?_)
  ·intro e w2 hR
   have hR':=hR
   obtain ⟨G',k1,k2,_⟩:=hR'
   exact ⟨hcase w2 e hR,⟨G',k1,k2⟩,try_frame hw k2⟩
  ·rintro e w' ⟨rfl,w2,⟨G',k1,k2⟩,ht⟩
   have f2:=try_frame hw k2
   obtain ⟨g1,g2⟩:=try_out hw k1 k2 f2 ht
   refine ⟨G',g1,g2,_,rfl,?_⟩
   simp only [VR]
 unfold tryR at h
 split at h
 ·rename_i v st2 hcall
  simp only [Option.some.injEq,Prod.mk.injEq] at h
  obtain ⟨rfl,rfl⟩:=h
  exact key _ _ 0 hcall (fun w2 e hR=>by
   obtain ⟨_,_,_,u,he,_⟩:=hR
   exact .inl ⟨u,he,rfl⟩)
 ·rename_i t v st2 hcall
  split at h
  ·rename_i x
   simp only [Option.some.injEq,Prod.mk.injEq] at h
   obtain ⟨rfl,rfl⟩:=h
   exact key _ _ 2 hcall (fun w2 e hR=>by
    obtain ⟨_,_,_,u,he,hu⟩:=hR
    simp only [VR] at hu
    obtain ⟨y,rfl,vs,rfl,hvs⟩:=hu
    have:=int1 (u := .agg vs) (by simp only [VR];exact ⟨vs,rfl,hvs⟩)
    rw [this] at he
    exact .inr (.inl ⟨x,he,rfl⟩))
  ·rename_i s
   simp only [Option.some.injEq,Prod.mk.injEq] at h
   obtain ⟨rfl,rfl⟩:=h
   exact key _ _ 4 hcall (fun w2 e hR=>by
    obtain ⟨_,_,_,u,he,hu⟩:=hR
    simp only [VR] at hu
    obtain ⟨y,rfl,vs,rfl,hvs⟩:=hu
    have:=str1 (u := .agg vs) (by simp only [VR];exact ⟨vs,rfl,hvs⟩)
    rw [this] at he
    exact .inr (.inr ⟨s,he,rfl⟩))
  ·cases h
 ·cases h
theorem grow_ok (h:growR st args=some (some (r,st'))) (hw:WR Tryz.prog B0 w0 G st.heap w) (ha:VRL G w args avs):∀ n,CallsIn Fence.wide n Tryz.prog 145 avs.toArray w (CallR Tryz.prog B0 w0 G st w r st'):=by
 intro n
 unfold growR at h
 split at h
 ·rename_i k
  split at h
  ·rename_i hk
   simp only [Option.some.injEq,Prod.mk.injEq] at h
   obtain ⟨rfl,rfl⟩:=h
   obtain ⟨v,vs',rfl,h1,h2⟩:=VRL.cons_iff.1 ha
   obtain ⟨v2,vs2,rfl,h3,h4⟩:=VRL.cons_iff.1 h2
   rw [VRL.nil_iff.1 h4]
   simp only [VR] at h1 h3
   subst h1 h3
   obtain ⟨i,rfl⟩:∃ i:Nat,k=i:=⟨k.toNat,by omega⟩
   refine callsIn_wide.2 ((grow_walk i (by omega) (by omega) w).mono ?_)
   rintro e w' ⟨cap,Z,hge,hZs,rfl,rfl⟩
   have hw1:WR Tryz.prog B0 w0 G st.heap w.drew:=hw.same rfl
   have hext:Ext G st.heap w G st.heap w.drew st.lo := .same rfl
   obtain ⟨g1,g2,g3⟩:=alloc_row hw1 false [] Z 25 (0,0) (by simp) (Thawed.zero _) (fun G' w' _ _=>by simp only [VRC])
   refine ⟨_,g1,hext.trans (g2 st.lo),_,rfl,?_⟩
   simp only [VR]
   exact .inl ⟨_,0,cap,rfl,Nat.zero_le _,fun h=>absurd rfl h,⟨rfl,upd_same _ _ _,⟨_,_,_,heap_alloc_new w.drew _,by rw [hZs];omega⟩⟩,by simp only [VRC]⟩
  ·cases h
 ·cases h
end
theorem primOK {B0:Nat} {w0:World} {m:Int} (hB:1<B0) (hm:w0.cell? ⟨1,0,none⟩=some (.int .i64 m)):PrimOK Tryz.prog B0 w0 EE:=by
 intro g rec args st r st' _ _ hs _ hp hlo G w avs hw ha
 have hp:primT g rec args st=some (some (r,st')):=hp
 unfold primT at hp
 split at hp
 ·split at hp
  ·exact ⟨enter122,try_ok hs hp hlo hw ha⟩
  ·cases hp
 ·exact ⟨enter145,grow_ok hp hw ha⟩
 ·exact ⟨enter152,itoa_ok hp hw ha⟩
 ·exact ⟨enter153,join_ok hp hw ha⟩
 ·exact ⟨enter155,split_ok hB hm hp hw ha⟩
 ·cases hp
theorem primGrows:PrimGrows EE:=by
 intro g rec args st r st' hg _ hp hlo
 have hp:primT g rec args st=some (some (r,st')):=hp
 unfold primT at hp
 split at hp
 ·split at hp
  ·unfold tryR at hp
   split at hp
   ·rename_i hcall
    simp only [Option.some.injEq,Prod.mk.injEq] at hp
    obtain ⟨rfl,rfl⟩:=hp
    exact hg _ _ _ _ _ hcall hlo
   ·rename_i hcall
    split at hp
    ·simp only [Option.some.injEq,Prod.mk.injEq] at hp
     obtain ⟨rfl,rfl⟩:=hp
     exact hg _ _ _ _ _ hcall hlo
    ·simp only [Option.some.injEq,Prod.mk.injEq] at hp
     obtain ⟨rfl,rfl⟩:=hp
     exact hg _ _ _ _ _ hcall hlo
    ·cases hp
   ·cases hp
  ·cases hp
 ·unfold growR at hp
  split at hp
  ·split at hp
   ·simp only [Option.some.injEq,Prod.mk.injEq] at hp
    obtain ⟨rfl,rfl⟩:=hp
    exact ⟨Nat.le_refl _,by simp,fun l h1 h2=>by first|exact (List.getElem?_append_left (by omega))|exact (List.getElem?_append_left (by omega)).symm⟩
   ·cases hp
  ·cases hp
 ·unfold itoaR at hp
  split at hp
  ·split at hp
   ·simp only [Option.some.injEq,Prod.mk.injEq] at hp
    obtain ⟨rfl,rfl⟩:=hp
    exact .refl _
   ·cases hp
  ·cases hp
 ·unfold joinR at hp
  split at hp
  ·split at hp
   ·split at hp
    ·simp only [Option.some.injEq,Prod.mk.injEq] at hp
     obtain ⟨rfl,rfl⟩:=hp
     exact .refl _
    ·cases hp
   ·cases hp
  ·cases hp
 ·unfold splitR at hp
  split at hp
  ·split at hp
   ·split at hp
    ·simp only [Option.some.injEq,Prod.mk.injEq] at hp
     obtain ⟨rfl,rfl⟩:=hp
     exact .refl _
    ·cases hp
   ·cases hp
  ·cases hp
 ·cases hp
end Go.Den.Ve
end
section
namespace Go.Den
variable {P:Program}
def gh0 (W:World):Gh:=⟨fun _=>none,fun _=>none,fun b=>match W.heap[b]? with
 | some (.cells arr _ _)=>some arr.size
 | _=>none⟩
theorem wr0 (W:World):WR P W.heap.size W (gh0 W) [] W:=by
 refine ⟨fun _=>⟨rfl,rfl⟩,fun h=>(by cases h),fun h=>(by cases h),fun h=>(by cases h),fun h=>(by cases h),fun {b n} h=>?_,⟨Nat.le_refl _,fun _ _=>rfl⟩,⟨rfl,rfl⟩⟩
 simp only [gh0] at h
 split at h
 ·rename_i arr T fr hb
  cases h
  exact ⟨arr,T,fr,hb,Nat.le_refl _⟩
 ·cases h
theorem vrc_of {G:Gh} {w:World}:∀ {cs:List PV} {b off:Nat},(∀ (j:Nat) (p:PV),cs[j]? = some p→∃ v,w.cell? ⟨b,off+j,none⟩=some v∧VR G w p v)→VRC G w cs b off
 | [],b,off,h=>by simp only [VRC]
 | c::cs,b,off,h=>by
  simp only [VRC]
  refine ⟨h 0 c rfl,vrc_of fun j p hj=>?_⟩
  obtain ⟨v,h1,h2⟩:=h (j+1) p (by simpa using hj)
  exact ⟨v,by rw [← h1];congr 2;omega,h2⟩
theorem cell_gh {W:World} {b i:Nat} {v:Value} (h:W.cell? ⟨b,i,none⟩=some v):∃ m,(gh0 W).cm b=some m∧i<m:=by
 unfold World.cell? at h
 split at h
 ·rename_i arr T fr hb
  refine ⟨arr.size,?_,?_⟩
  ·simp only [gh0]
   simp only at hb
   rw [hb]
  ·simp only [Option.isSome_none,Bool.false_eq_true,if_false] at h
   exact (Array.getElem?_eq_some_iff.1 h).1
 ·cases h
theorem vr_slice0 {W:World} {n cap b off:Nat} {cs:List PV} (hcap:n≤cap) (h:∀ (j:Nat) (p:PV),cs[j]? = some p→∃ v,W.cell? ⟨b,off+j,none⟩=some v∧VR (gh0 W) W p v):VR (gh0 W) W (.slice .shared n cs) (.slice (some ⟨b,off,none⟩) n cap):=by
 simp only [VR]
 refine .inl ⟨b,off,cap,rfl,hcap,fun hne=>?_,trivial,vrc_of h⟩
 have hl:cs.length - 1<cs.length:=by
  have:cs.length≠0:=by simpa using hne
  omega
 obtain ⟨v,h1,_⟩:=h (cs.length - 1) _ (List.getElem?_eq_getElem hl)
 obtain ⟨m,h2,h3⟩:=cell_gh h1
 exact ⟨m,h2,by omega⟩
theorem list_of {α:Type} {Q:Nat→α→Prop}:∀ (n:Nat),(∀ i,i<n→∃ a,Q i a)→∃ l:List α,l.length=n∧∀ (i:Nat) (a:α),l[i]? = some a→Q i a
 | 0,_=>⟨[],rfl,fun i a h=>by simp at h⟩
 | n+1,h=>by
  obtain ⟨l,h1,h2⟩:=list_of n (fun i hi=>h i (by omega))
  obtain ⟨a,ha⟩:=h n (by omega)
  refine ⟨l++[a],by simp [h1],fun i x hx=>?_⟩
  by_cases hi:i<n
  ·rw [List.getElem?_append_left (by omega)] at hx
   exact h2 i x hx
  ·have hlt:=(List.getElem?_eq_some_iff.1 hx).1
   simp [h1] at hlt
   have:i=n:=by omega
   subst this
   rw [List.getElem?_append_right (by omega),h1] at hx
   simp at hx
   subst hx
   exact ha
end Go.Den
namespace Go.Den.Ve
set_option maxRecDepth 100000
open Go.Proofs Go.ChangeShapes Go.WideShapes
section
variable {H:Type} {enc:TypeId×Value→H} {W:World} {base fuel:Nat} {d:DataW H} {ps:List MemPlace}
end
theorem law_call {g:Nat} {args:List PV} {avs:Array Value} {W:World} (hB:∃ m,1<W.heap.size∧W.cell? ⟨1,0,none⟩=some (.int .i64 m)) (h:∀ st,Cl EE (.func g [] []) args st (.ret (.bool true)) st) (ha:VRL (gh0 W) W args avs.toList) :
  Calls Tryz.prog g avs W fun e W'=>e = .returned (.bool true)∧W.heap.size≤W'.heap.size∧(∀ b,b<W.heap.size→W'.heap[b]? = W.heap[b]?)∧W'.os=W.os∧W'.output=W.output:=by
 obtain ⟨m,hB,hm⟩:=hB
 obtain ⟨N,hN⟩:=h { heap:=[],lo:=0 }
 have hs:=(run_ok (B0:=W.heap.size) (w0:=W) follows envOK envFn (primOK hB hm) primGrows N).1 _ _ _ _ _ (hN N (Nat.le_refl _)) (Nat.le_refl _)
 obtain ⟨_,hC⟩:=hs.2 (gh0 W) W (.func (.func g) #[] #[]) avs.toList (wr0 W) (by simp only [VR];exact ⟨_,_,rfl,VRL.nil_iff.2 rfl,VRL.nil_iff.2 rfl⟩) ha #[] #[] rfl
 have hC1:=callsIn_wide.1 (hC 0)
 have e:#[]++avs.toList.toArray++#[]=avs:=by simp
 rw [e] at hC1
 refine hC1.mono ?_
 rintro e W' ⟨G',hw,hx,u,rfl,hu⟩
 simp only [VR] at hu
 subst hu
 exact ⟨rfl,hw.low.1,hw.low.2,hw.out⟩
end Go.Den.Ve
end
section
namespace Go.Proofs.YtehdcjbdhkkipaaGreatDoor
open Go.ChangeShapes Go.WideShapes Go.ChangeAt Go.WideMaps Go.WideElems Go.RowKit
set_option maxRecDepth 100000
theorem ownKnob0:ownKnob Tryz.prog.godebug=none:=by kernel_rfl
theorem laidOut0:laidOutB Tryz.prog=true:=by kernel_rfl
theorem maxLen_cell {W:World} (h:W.ShapedOpen Tryz.prog):∃ m,1<W.heap.size∧W.cell? ⟨1,0,none⟩=some (.int .i64 m):=by
 obtain ⟨m,hm⟩:=cell_of_shapedOpen_int (g:=1) (t:=3) (zero:=#[.int .i64 0]) (k := .i64) h (of_decide_eq_true (by kernel_rfl)) (by kernel_rfl) rfl (by kernel_rfl) (by kernel_rfl) Tryz.underlying3
 refine ⟨m,?_,hm⟩
 unfold World.cell? at hm
 split at hm
 ·rename_i hh
  exact (Array.getElem?_eq_some_iff.1 hh).1
 ·cases hm
theorem returns_law {H:Type} {enc:TypeId×Value→H} {a:Assume} {C:Checked} {os:Os} {f:FuncId} {fn:Func} {s:ChangeSpec} {conds:List PathCond} {apart fresh handsOn again:Bool} {X:World→Array Value→Prop}
  (hX:∀ (w w':World) (args:Array Value),w.heap=w'.heap→X w args→X w' args)
  (own:ownKnob C.prog.godebug=none) (started:os.Started) (noInit:C.prog.inits.idxOf? f=none) (hfn:C.prog.funcs[f]? = some fn)
  (witness:∃ (w:World) (tape:Tape) (i:Input),w.os=os∧(w.forCall tape i).Shaped C.prog∧i.vars=[]∧Input.okWide C.prog (w.forCall tape i) .any w.heap.size f i ∧
   ((s.pre enc C.prog fn conds apart (w.forCall tape i).memory i.args∧X (w.forCall tape i).memory i.args)∧sizedMet enc C.prog fn (OpenSpec.ofChange s) apart (w.forCall tape i).memory i.args)∧a.holds C.prog (lone (Frame.enter C.prog f i.args .normal) [] (w.forCall tape i)))
  (contract:∀ (W:World) (base:Nat) (args:Array Value) (ds gs:List (DataW H)) (before:List MemPlace),
   (∀ (j:Nat) t v,fn.params[j]? = some t→args[j]? = some v→Value.okWide C.prog W .any base t v) →
   DataW.Whole enc C.prog fn.params.toList s.vars apart W args.toList ds gs before →
   W.ShapedOpen C.prog →
   Calls C.prog f args W fun e W'=>∃ v,e = .returned v∧s.post enc C.prog fn apart fresh handsOn again W args v W') :
  ReturnsInHanded a C os f .any (fun w args=>(s.pre enc C.prog fn conds apart w args∧X w args)∧sizedMet enc C.prog fn (OpenSpec.ofChange s) apart w args) (s.post enc C.prog fn apart fresh handsOn again):=by
 refine returnsInHanded_of_calls own started noInit witness ?_
 intro w tape i _ hsh _ hok hpre _
 obtain ⟨_,_,_,fn',hfn',_,_,_,_,hval⟩:=hok
 have e:fn'=fn:=Option.some.inj (hfn'.symm.trans hfn)
 subst e
 obtain ⟨⟨⟨ds,gs,before,hw,_⟩,_⟩,_⟩:=hpre
 have hw':=DataW.Whole.of_heap (w':=w.forCall tape i) (by rfl) hw
 refine (contract (w.forCall tape i) w.heap.size i.args ds gs before hval hw' hsh).mono fun e W' ⟨v,he,hp⟩=>?_
 subst he
 exact ChangeSpec.post_blind hp
theorem trodAll_grown {H:Type} {enc:TypeId×Value→H} {W W':World} (hb:Below W.heap.size W W'):∀ {ts:List TypeId} {vs:List Value} {ds:List (DataW H)} {ps:List MemPlace},(∀ t∈ts,Tryz.prog.readableRec t=true∧t<Tryz.prog.types.size)→DataW.TrodAll enc Tryz.prog W 0 (fun _=>true) true ts vs ds ps→(∀ x∈ps,x.block<W.heap.size)→DataW.TrodAll enc Tryz.prog W' 0 (fun b=>decide (b<W.heap.size)) true ts vs ds ps
 | [],vs,ds,ps,_,h,_=>by
  obtain ⟨rfl,rfl,rfl⟩:=trodAll_nil h
  rfl
 | t::ts,vs,ds,ps,hr,h,hl=>by
  obtain ⟨v,vs',d,ds',p,q,rfl,rfl,rfl,h1,h2⟩:=trodAll_cons h
  have h0:=hr t (by simp)
  exact ⟨p,q,Below.trod laidOut0 h0.1 h0.2 h1 hb (fun x hx=>hl x (by simp [hx])),trodAll_grown hb (fun t ht=>hr t (by simp [ht])) h2 (fun x hx=>hl x (by simp [hx])),rfl⟩
theorem keptBut_grown {W W':World} {may:MemPlace→Prop} (h:∀ b,b<W.heap.size→W'.heap[b]? = W.heap[b]?) (ho:W'.os=W.os∧W'.output=W.output):W.keptBut W' may:=by
 refine ⟨ho.1,ho.2,fun i hi=>?_⟩
 rw [h i hi]
 split
 ·rename_i h1 h2
  rw [h1] at h2
  cases h2
  exact ⟨rfl,rfl,rfl,fun _ _=>rfl⟩
 ·rename_i h1 h2
  rw [h1] at h2
  cases h2
  exact .inr ⟨rfl,rfl⟩
 ·rfl
theorem post_true {H:Type} {enc:TypeId×Value→H} {fn:Func} {s:ChangeSpec} {W W':World} {args:Array Value} {ds:List (DataW H)} {before:List MemPlace}
  (hvars:s.vars=[]) (hW:DataW.Whole enc Tryz.prog fn.params.toList s.vars false W args.toList ds [] before) (hres:fn.resultTypes=#[4]) (hfn:s.fn H (ds++[])={ results:=[.lit (.bool true)],args:=ds })
  (hr:∀ t∈fn.params.toList,Tryz.prog.readableRec t=true∧t<Tryz.prog.types.size)
  (hs:W.heap.size≤W'.heap.size) (hb:∀ b,b<W.heap.size→W'.heap[b]? = W.heap[b]?) (ho:W'.os=W.os∧W'.output=W.output) :
  s.post enc Tryz.prog fn false true false false W args (.bool true) W':=by
 have hW0:=hW
 obtain ⟨p,q,hA,hV,rfl,_,_⟩:=hW
 rw [hvars] at hV
 obtain ⟨_,rfl⟩:([]:List (DataW H))=[]∧q=[]:=by
  cases q with
  | nil=>exact ⟨rfl,rfl⟩
  | cons x q=>simp [DataW.TrodVars] at hV
 have hlt:∀ x∈p,x.block<W.heap.size:=fun x hx=>by simpa using hW0.lt x (by simp [hx])
 have ha:({ W' with tape:=W.tape }:World).Alike W':=⟨rfl,rfl,rfl⟩
 have hbl:Below W.heap.size W { W' with tape:=W.tape }:=⟨ho.1,rfl,ho.2,hs,hb⟩
 have hT:=trodAll_grown hbl hr hA hlt
 have hT':DataW.TrodAll enc Tryz.prog W' 0 (fun b=>decide (b<W.heap.size)) true fn.params.toList args.toList ds p:=DataW.TrodAll.of_heap (show ({ W' with tape:=W.tape }:World).heap=W'.heap from rfl) hT
 refine ⟨ds,[],p++[],[],p,[],hW0,?_,?_,?_,keptBut_grown hb ho,fun h=>by cases h⟩
 ·rw [hfn,hres]
  exact trodAll_mk1 (shut_bool Tryz.underlying4 _)
 ·rw [hfn];exact hT'
 ·rw [hfn,hvars];rfl
end Go.Proofs.YtehdcjbdhkkipaaGreatDoor
end
section
namespace Go.Den.Ve
set_option maxRecDepth 100000
open Go.Proofs Go.ChangeShapes Go.WideShapes
section
variable {H:Type} {enc:TypeId×Value→H} {W:World} {base fuel:Nat} {d:DataW H} {ps:List MemPlace}
theorem cells_get {a:Addr} {k:Nat} {cs:List Value} (h:W.cells? 0 a k=some cs):cs.length=k∧∀ (j:Nat) (v:Value),cs[j]? = some v→W.cell? (a.add j)=some v:=by
 unfold World.cells? at h
 simp only [Nat.zero_le,if_true] at h
 have hl:=mapM_some_length h
 rw [List.length_range] at hl
 refine ⟨hl,fun j v hj=>?_⟩
 have hjl:=(List.getElem?_eq_some_iff.1 hj).1
 have:=mapM_some_get h j j (by rw [List.getElem?_range (by omega)])
 rw [this,hj]
theorem add_spot {a:Addr} {v:Value} (h:W.cell? ((a.add 0).add 0)=some v):a.spot=none:=by
 have:=World.cell?_spot h
 simpa [Addr.add] using this
theorem in_slice {α:Type} {en:α→List PV} {t e:TypeId} {k:Nat} (hu:Tryz.prog.underlying t=some (.slice e)) (hk:Tryz.prog.cellsOf e=k) (hk1:0<k) (hen:∀ a,(en a).length=k)
  (hel:∀ (n:Nat) (cs:List Value) (y:DataW H×List MemPlace),DataW.trod enc Tryz.prog W 0 (fun _=>true) true n e cs=some y→∃ a:α,VRL (gh0 W) W (en a) cs)
  {v:Value} {x:DataW H×List MemPlace} (h:DataW.trod enc Tryz.prog W 0 (fun _=>true) true fuel t [v]=some x):∃ F l,VR (gh0 W) W F v∧SlOf k en F l:=by
 rcases DataW.trod_slice hu h with ⟨hv,_⟩|⟨a,len,cap,elems,rest,n,_,hv,_,_,hl,_,hlen,hel',hrest,_⟩
 ·simp at hv
  subst hv
  exact ⟨.nilslice,[],by simp only [VR],rfl,fun _ h=>by cases h⟩
 ·simp at hv
  subst hv
  rw [hk] at hel' hrest
  by_cases hcap:cap=0
  ·subst hcap
   have hl0:len=0:=by omega
   subst hl0
   refine ⟨.slice .shared 0 [],[],?_,rfl,fun _ h=>by cases h⟩
   simp only [VR]
   exact .inr ⟨by trivial,by trivial,by trivial,a,rfl⟩
  ·have hsp:a.spot=none:=by
    have key:∀ (o:Option (DataW H×List MemPlace)) (i:Nat),i=0→o.isSome=true→(W.cells? 0 (a.add (i*k)) k).bind (DataW.trod enc Tryz.prog W 0 (fun _=>true) true n e)=o→a.spot=none:=fun o i hi ho h1=>by
     obtain ⟨y,rfl⟩:=Option.isSome_iff_exists.1 ho
     obtain ⟨cs,h2,h3⟩:=Option.bind_eq_some_iff.1 h1
     obtain ⟨h4,h5⟩:=cells_get h2
     have hc0:0<cs.length:=by omega
     have h6:=h5 0 cs[0] (List.getElem?_eq_getElem hc0)
     rw [hi,Nat.zero_mul] at h6
     exact add_spot h6
    by_cases hlen0:0<len
    ·refine key elems[0]? 0 rfl (by rw [List.getElem?_eq_getElem (by omega)];rfl) (hel' 0 hlen0)
    ·obtain ⟨h1,h2⟩:=hrest rfl
     exact key rest[0]? (len+0) (by omega) (by rw [List.getElem?_eq_getElem (by omega)];rfl) (h2 0 (by omega))
   obtain ⟨b,off,sp⟩:=a
   simp only at hsp
   subst hsp
   have hadd:∀ o j,((⟨b,o,none⟩:Addr).add j)=⟨b,o+j,none⟩:=fun o j=>by
    unfold Addr.add
    by_cases h0:j=0
    ·rw [if_pos h0,h0];rfl
    ·rw [if_neg h0]
   obtain ⟨l,hll,hlq⟩:=list_of (α:=α) (Q:=fun i a=>∀ (j:Nat) (p:PV),(en a)[j]? = some p→∃ v,W.cell? ⟨b,off+i*k+j,none⟩=some v∧VR (gh0 W) W p v) len (fun i hi=>by
    have h1:=hel' i hi
    rw [hadd,List.getElem?_eq_getElem (by omega:i<elems.length)] at h1
    obtain ⟨cs,h2,h3⟩:=Option.bind_eq_some_iff.1 h1
    obtain ⟨h4,h5⟩:=cells_get h2
    obtain ⟨x,hx⟩:=hel n cs _ h3
    refine ⟨x,fun j p hj=>?_⟩
    obtain ⟨v,g1,g2⟩:=hx.get hj
    have:=h5 j v g1
    rw [hadd] at this
    exact ⟨v,this,g2⟩)
   refine ⟨.slice .shared len (l.flatMap en),l,vr_slice0 hl fun j p hj=>?_,by simp only [PV.sl,hll],fun a _=>hen a⟩
   have hjl:=(List.getElem?_eq_some_iff.1 hj).1
   have hfl:(l.flatMap en).length=l.length*k:=flatMap_len (fun a _=>hen a)
   have hi:j / k<l.length:=by
    rw [hfl] at hjl
    exact (Nat.div_lt_iff_lt_mul hk1).2 hjl
   have hdr:(l.flatMap en).drop (j / k*k)=(l.drop (j / k)).flatMap en:=flatMap_drop (j / k) (fun a _=>hen a)
   have hdm:j / k*k+j % k=j:=by rw [Nat.mul_comm];exact Nat.div_add_mod j k
   have hj2:((l.flatMap en).drop (j / k*k))[j % k]? = some p:=by
    rw [List.getElem?_drop,← hj,hdm]
   rw [hdr,List.drop_eq_getElem_cons hi,List.flatMap_cons,List.getElem?_append_left (by rw [hen];exact Nat.mod_lt _ hk1)] at hj2
   obtain ⟨v,g1,g2⟩:=hlq (j / k) _ (List.getElem?_eq_getElem hi) (j % k) p hj2
   refine ⟨v,?_,g2⟩
   rw [← g1]
   congr 2
   omega
theorem e3':Tryz.prog.cellsOf 3=1:=by kernel_rfl
theorem e4':Tryz.prog.cellsOf 4=1:=by kernel_rfl
theorem e22':Tryz.prog.cellsOf 22=1:=by kernel_rfl
theorem e24':Tryz.prog.cellsOf 24=2:=by kernel_rfl
theorem e25':Tryz.prog.cellsOf 25=1:=by kernel_rfl
theorem e76':Tryz.prog.cellsOf 76=2:=by kernel_rfl
theorem e77':Tryz.prog.cellsOf 77=1:=by kernel_rfl
theorem trod_one {t n:Nat} {cs:List Value} {y:DataW H×List MemPlace} (h:DataW.trod enc Tryz.prog W 0 (fun _=>true) true n t cs=some y) (hs:(∃ e,Tryz.prog.underlying t=some (.slice e))):∃ v,cs=[v]:=by
 obtain ⟨e,hu⟩:=hs
 rcases DataW.trod_slice hu h with ⟨hv,_⟩|⟨a,len,cap,elems,rest,n,_,hv,_⟩
 ·exact ⟨_,hv⟩
 ·exact ⟨_,hv⟩
theorem in_ints1 {v:Value} {x:DataW H×List MemPlace} (h:DataW.trod enc Tryz.prog W 0 (fun _=>true) true fuel 25 [v]=some x):∃ F l,VR (gh0 W) W F v∧SlOf 1 encI F l :=
 in_slice Tryz.underlying25 e3' (by decide) (fun _=>rfl) (fun n cs y h=>by
  obtain ⟨k,rfl,_,_⟩:=DataW.trod_int Tryz.underlying3 h
  exact ⟨k,VRL.cons (by simp only [VR]) (VRL.nil_iff.2 rfl)⟩) h
theorem in_line {n:Nat} {cs:List Value} {y:DataW H×List MemPlace} (h:DataW.trod enc Tryz.prog W 0 (fun _=>true) true n 76 cs=some y):∃ a:LP,VRL (gh0 W) W (encLP a) cs:=by
 obtain ⟨xs,n,_,_,hl,hxl,hf⟩:=DataW.trod_struct Tryz.underlying76 h
 rw [e76'] at hl
 match cs,hl with
 | [a,b],_ =>
  have f0:DataW.trod enc Tryz.prog W 0 (fun _=>true) true n 4 (List.take (Tryz.prog.cellsOf 4) [a,b])=xs[0]? := hf 0 _ rfl
  have f1:DataW.trod enc Tryz.prog W 0 (fun _=>true) true n 25 (List.take (Tryz.prog.cellsOf 25) [b])=xs[1]? := hf 1 _ rfl
  rw [e4'] at f0
  rw [e25'] at f1
  have hx:xs.length=2:=hxl
  match xs,hx with
  | [x0,x1],_ =>
   obtain ⟨k,k0,_⟩:=DataW.trod_bool Tryz.underlying4 f0
   simp at k0
   subst k0
   obtain ⟨F,l,h1,h2⟩:=in_ints1 (x:=x1) f1
   exact ⟨⟨k,F,l,h2⟩,VRL.cons (by simp only [VR]) (VRL.cons h1 (VRL.nil_iff.2 rfl))⟩
theorem in_copy {n:Nat} {cs:List Value} {y:DataW H×List MemPlace} (h:DataW.trod enc Tryz.prog W 0 (fun _=>true) true n 77 cs=some y):∃ a:CP,VRL (gh0 W) W (encCP a) cs:=by
 obtain ⟨v,rfl⟩:=trod_one h ⟨_,Tryz.underlying77⟩
 obtain ⟨F,l,h1,h2⟩:=in_slice (en:=encLP) Tryz.underlying77 e76' (by decide) (fun _=>rfl) (fun n cs y h=>in_line h) h
 exact ⟨⟨F,l,h2⟩,VRL.cons h1 (VRL.nil_iff.2 rfl)⟩
theorem in_book {v:Value} (hok:Value.okWide Tryz.prog W .any base 24 v) (h:DataW.Trod enc Tryz.prog W 0 (fun _=>true) true 24 v d ps):∃ b:BP,VR (gh0 W) W b.pv v:=by
 obtain ⟨fuel,h⟩:=h
 unfold Value.okWide at hok
 rw [Tryz.underlying24] at hok
 obtain ⟨cs,rfl,_⟩:=hok
 obtain ⟨xs,n,_,_,hl,hxl,hf⟩:=DataW.trod_struct Tryz.underlying24 h
 rw [e24'] at hl
 have hcs:(Value.agg cs).cells.toList=cs.toList:=rfl
 rw [hcs] at hl hf
 obtain ⟨l⟩:=cs
 match l,hl with
 | [a,b],_ =>
  have f0:DataW.trod enc Tryz.prog W 0 (fun _=>true) true n 3 (List.take (Tryz.prog.cellsOf 3) [a,b])=xs[0]? := hf 0 _ rfl
  have f1:DataW.trod enc Tryz.prog W 0 (fun _=>true) true n 22 (List.take (Tryz.prog.cellsOf 22) [b])=xs[1]? := hf 1 _ rfl
  rw [e3'] at f0
  rw [e22'] at f1
  have hx:xs.length=2:=hxl
  match xs,hx with
  | [x0,x1],_ =>
   obtain ⟨k,k0,_,_⟩:=DataW.trod_int Tryz.underlying3 f0
   simp at k0
   subst k0
   obtain ⟨F,l,h1,h2⟩:=in_slice (en:=encCP) (x:=x1) Tryz.underlying22 e77' (by decide) (fun _=>rfl) (fun n cs y h=>in_copy h) f1
   refine ⟨⟨k,F,l,h2⟩,?_⟩
   simp only [VR]
   exact ⟨_,rfl,VRL.cons (by simp only [VR]) (VRL.cons h1 (VRL.nil_iff.2 rfl))⟩
end
end Go.Den.Ve
end

/- Part of the proofs of laws of the package chest. Texts: ChPrimA, ChPrimB, ChPrimC, ChFnOK. -/
import Derived.Test.YtoeigapilcgelaaGreatDoorK6Aw
import Derived.Test.YtoeigapilcgelaaGreatDoorK6Al
import Derived.Test.YtoeigapilcgelaaGreatDoorK6Aj
import Derived.Test.YtoeigapilcgelaaGreatDoorChecked
import Derived.WalkKit
import Derived.Defers
import Derived.Recover
set_option linter.unusedSimpArgs false
set_option linter.unusedVariables false
section
namespace Go.Den.Ch
open Go.Proofs
def cutS (b : UInt8) : List UInt8 → List (List UInt8)
 | [] => [[]]
 | x :: xs => if x = b then [] :: cutS b xs else match cutS b xs with
  | h :: t => (x :: h) :: t
  | [] => [[x]]
theorem cutS_cons (b : UInt8) (s : List UInt8) : ∃ h t,cutS b s = h :: t := by
 cases s with
 | nil => exact ⟨_,_,rfl⟩
 | cons x xs =>
  simp only [cutS]
  split
  ·exact ⟨_,_,rfl⟩
  ·split <;> exact ⟨_,_,rfl⟩
theorem splitL_cut (b : UInt8) : ∀ (s acc h : List UInt8) (t : List (List UInt8)),cutS b s = h :: t → splitL b acc s = (acc ++ h) :: t
 | [],acc,h,t,e => by simp only [cutS,List.cons.injEq] at e;obtain ⟨rfl,rfl⟩ := e;simp [splitL]
 | x :: xs,acc,h,t,e => by
  obtain ⟨h',t',e'⟩ := cutS_cons b xs
  simp only [cutS,e'] at e
  simp only [splitL]
  split at e
  ·rename_i hx
   rw [if_pos hx]
   simp only [List.cons.injEq] at e
   obtain ⟨rfl,rfl⟩ := e
   rw [splitL_cut b xs [] h' t' e']
   simp
  ·rename_i hx
   rw [if_neg hx]
   simp only [List.cons.injEq] at e
   obtain ⟨rfl,rfl⟩ := e
   rw [splitL_cut b xs (acc ++ [x]) h' t' e']
   simp
theorem splitL_cutS (b : UInt8) (s : List UInt8) : splitL b [] s = cutS b s := by
 obtain ⟨h,t,e⟩ := cutS_cons b s
 rw [splitL_cut b s [] h t e,e];rfl
theorem index_cons (b x : UInt8) (l : List UInt8) : Lib.index (x :: l) [b] = if x = b then 0 else if Lib.index l [b] == -1 then -1 else Lib.index l [b] + 1 := by
 rw [Lib.index]
 by_cases h : x = b
 ·subst h;simp
 ·have : (b == x) = false := by rw [beq_eq_false_iff_ne];exact fun e => h e.symm
  have h2 : ¬ b = x := fun e => h e.symm
  simp [h2,h]
theorem cutS_miss (b : UInt8) : ∀ s : List UInt8,Lib.index s [b] = -1 → cutS b s = [s]
 | [],_ => rfl
 | x :: l,h => by
  rw [index_cons] at h
  split at h
  ·omega
  ·rename_i hx
   have := Lib.index_ge l [b]
   split at h
   ·rename_i h1
    simp only [cutS,if_neg hx,cutS_miss b l (eq_of_beq h1)]
   ·omega
theorem cutS_hit (b : UInt8) : ∀ (s : List UInt8) (i : Nat),Lib.index s [b] = i → cutS b s = s.take i :: cutS b (s.drop (i + 1))
 | [],i,h => by simp [Lib.index] at h
 | x :: l,i,h => by
  rw [index_cons] at h
  split at h
  ·rename_i hx
   have : i = 0 := by omega
   subst this
   simp only [cutS,if_pos hx];rfl
  ·rename_i hx
   split at h
   ·omega
   ·have hg := Lib.index_ge l [b]
    rename_i hn
    have hn' : Lib.index l [b] ≠ -1 := fun e => hn (by rw [e];rfl)
    obtain ⟨j,rfl⟩ : ∃ j,i = j + 1 := ⟨i - 1,by omega⟩
    have ih := cutS_hit b l j (by omega)
    simp only [cutS,if_neg hx,ih]
    rfl
theorem splitK_cut (b : UInt8) : ∀ (n : Nat) (s : List UInt8),s.length < n → Lib.splitK [b] 0 (Lib.countFrom [b] n s) s = cutS b s ∧ (cutS b s).length = Lib.countFrom [b] n s + 1
 | 0,s,h => by omega
 | n + 1,s,h => by
  have hg := Lib.index_ge s [b]
  by_cases hi : Lib.index s [b] = -1
  ·have h1 : (Lib.index s [b] == -1) = true := by rw [hi];rfl
   simp only [Lib.countFrom,h1,if_true,Lib.splitK]
   rw [cutS_miss b s hi]
   exact ⟨rfl,rfl⟩
  ·have h1 : (Lib.index s [b] == -1) = false := by rw [beq_eq_false_iff_ne];exact hi
   obtain ⟨i,e⟩ : ∃ i : Nat,Lib.index s [b] = i := ⟨(Lib.index s [b]).toNat,by omega⟩
   have hc := cutS_hit b s i e
   have hi2 : i < s.length := by
    have := Lib.index_room s [b] (by omega)
    simp at this;omega
   obtain ⟨k1,k2⟩ := splitK_cut b n (s.drop (i + 1)) (by simp;omega)
   have e2 : (Lib.index s [b]).toNat = i := by omega
   simp only [Lib.countFrom,h1,Bool.false_eq_true,if_false,e2,List.length_cons,List.length_nil,Nat.zero_add]
   rw [Nat.add_comm 1]
   simp only [Lib.splitK,h1,Bool.false_eq_true,if_false,e2,List.length_cons,List.length_nil,Nat.zero_add,Nat.add_zero]
   rw [k1,hc]
   exact ⟨rfl,by simp only [List.length_cons];omega⟩
theorem split_data (s sep : ByteArray) (b : UInt8) (hb : unB sep = [b]) : (Lib.splitB sep 0 (Lib.countB s sep) s).map unB = splitL b [] (unB s) ∧ (splitL b [] (unB s)).length = Lib.countB s sep + 1 := by
 have h1 := Lib.splitB_data sep 0 (Lib.countB s sep) s
 have hb' : sep.data.toList = [b] := hb
 have hc : Lib.countB s sep = Lib.countFrom [b] ((unB s).length + 1) (unB s) := by
  show Lib.count s.data.toList sep.data.toList = _
  rw [hb'];rfl
 rw [hc] at h1 ⊢
 rw [hb'] at h1
 obtain ⟨k1,k2⟩ := splitK_cut b ((unB s).length + 1) (unB s) (by omega)
 rw [splitL_cutS]
 exact ⟨h1.trans k1,k2⟩
theorem strs_row {G : Gh} {w : World} {b : Nat} {T : TypeId} : ∀ (l pre : List ByteArray),w.heap[b]? = some (Obj.cells ((pre ++ l).map Value.string).toArray T (0,0)) → VRC G w (l.map PV.str) b pre.length
 | [],pre,h => by simp only [List.map_nil,VRC]
 | s :: l,pre,h => by
  simp only [List.map_cons,VRC]
  refine ⟨⟨.string s,?_,by simp only [VR]⟩,?_⟩
  ·rw [cell_row h];simp
  ·have := strs_row (G := G) l (pre ++ [s]) (by simpa using h)
   simpa using this
theorem encS_map (l : List ByteArray) : (l.map unB).flatMap encS = l.map PV.str := by
 induction l with
 | nil => rfl
 | cons s l ih => rw [List.map_cons,List.flatMap_cons,ih];rfl
theorem strs_low (m : Nat) : ∀ l : List ByteArray,lowL m (l.map PV.str) = true
 | [] => rfl
 | s :: l => by simp only [List.map_cons,lowL,PV.low,strs_low m l,Bool.and_self]
theorem enter137 : Enterable Tryz.prog 137 := ⟨_,Tryz.func137,by kernel_rfl,by kernel_rfl⟩
theorem enter138 : Enterable Tryz.prog 138 := ⟨_,Tryz.func138,by kernel_rfl,by kernel_rfl⟩
theorem enter139 : Enterable Tryz.prog 139 := ⟨_,Tryz.func139,by kernel_rfl,by kernel_rfl⟩
theorem digits_itoa : ∀ i,i < 100 → Lib.decDigits i = itoaL i := by decide +kernel
section
variable {B0 : Nat} {w0 w : World} {G : Gh} {st st' : St} {args : List PV} {avs : List Value} {r : CR}
theorem callR_same (hw : WR Tryz.prog B0 w0 G st.heap w) {v : PV} {u : Value} (hv : VR G w v u) : CallR Tryz.prog B0 w0 G st w (.ret v) st (.returned u) w :=
 ⟨G,hw,Ext.refl _ _ _ _,u,rfl,hv⟩
theorem itoa_ok (h : itoaR st args = some (some (r,st'))) (hw : WR Tryz.prog B0 w0 G st.heap w) (ha : VRL G w args avs) : ∀ n,CallsIn Fence.wide n Tryz.prog 137 avs.toArray w (CallR Tryz.prog B0 w0 G st w r st') := by
 intro n
 unfold itoaR at h
 split at h
 ·rename_i k
  split at h
  ·rename_i hk
   simp only [Option.some.injEq,Prod.mk.injEq] at h
   obtain ⟨rfl,rfl⟩ := h
   obtain ⟨v,vs',rfl,h1,h2⟩ := VRL.cons_iff.1 ha
   rw [VRL.nil_iff.1 h2]
   simp only [VR] at h1
   subst h1
   obtain ⟨i,rfl⟩ : ∃ i : Nat,k = i := ⟨k.toNat,by omega⟩
   refine callsIn_wide.2 ((Tryz.strconv_Itoa_small i (by omega) w).mono ?_)
   rintro e w' ⟨rfl,rfl⟩
   refine callR_same hw ?_
   rw [digits_itoa i (by omega),Int.toNat_natCast]
   simp only [VR]
   rfl
  ·cases h
 ·cases h
theorem strs_eq : ∀ {cs : List PV} {l : List ByteArray},strs cs = some l → cs = l.map PV.str
 | [],l,h => by simp only [strs,Option.some.injEq] at h;subst h;rfl
 | c :: cs,l,h => by
  cases c with
  | str s =>
   simp only [strs,Option.map_eq_some_iff] at h
   obtain ⟨l',h1,rfl⟩ := h
   rw [strs_eq h1];rfl
  | _ => simp [strs] at h
theorem VRC_get {G : Gh} {w : World} : ∀ {cs : List PV} {b off j : Nat} {p : PV},VRC G w cs b off → cs[j]? = some p → ∃ v,w.cell? ⟨b,off + j,none⟩ = some v ∧ VR G w p v
 | [],b,off,j,p,h,hj => by simp at hj
 | c :: cs,b,off,0,p,h,hj => by
  simp only [VRC] at h
  simp only [List.getElem?_cons_zero,Option.some.injEq] at hj
  subst hj
  exact h.1
 | c :: cs,b,off,j + 1,p,h,hj => by
  simp only [VRC] at h
  simp only [List.getElem?_cons_succ] at hj
  obtain ⟨v,h1,h2⟩ := VRC_get h.2 hj
  exact ⟨v,by rw [← h1];congr 2;omega,h2⟩
theorem join_ok (h : joinR st args = some (some (r,st'))) (hw : WR Tryz.prog B0 w0 G st.heap w) (ha : VRL G w args avs) : ∀ n,CallsIn Fence.wide n Tryz.prog 138 avs.toArray w (CallR Tryz.prog B0 w0 G st w r st') := by
 intro n
 unfold joinR at h
 split at h
 ·rename_i o k cs sep
  split at h
  ·rename_i l hl
   split at h
   ·rename_i hk
    simp only [Option.some.injEq,Prod.mk.injEq] at h
    obtain ⟨rfl,rfl⟩ := h
    obtain ⟨v,vs',rfl,h1,h2⟩ := VRL.cons_iff.1 ha
    obtain ⟨v2,vs2,rfl,h3,h4⟩ := VRL.cons_iff.1 h2
    rw [VRL.nil_iff.1 h4]
    simp only [VR] at h1 h3
    subst h3
    obtain ⟨b,off,cap,rfl,hcap,hcm,_,hrow⟩ := h1
    have hcs := strs_eq hl
    have hlen : l.length = k := by rw [hk.1,hcs,List.length_map]
    by_cases h0 : l = []
    ·subst h0
     have hk0 : k = 0 := by rw [← hlen];rfl
     subst hk0
     refine callsIn_wide.2 ((Tryz.strings_Join_none _ cap sep w).mono ?_)
     rintro e w' ⟨rfl,rfl⟩
     refine callR_same hw ?_
     simp only [VR]
     simp [List.intercalate,toB]
    ·have hne : cs ≠ [] := by rw [hcs];simpa using h0
     obtain ⟨m,hm1,hm2⟩ := hcm hne
     have hb := hw.cmLt hm1
     have hj : (Lib.join (l.map (·.data.toList)) sep.data.toList).length ≤ 140737488355328 := by
      have hl2 : ∀ (xs : List ByteArray),(∀ s ∈ xs,s.size ≤ 1000) → (Lib.join (xs.map (·.data.toList)) sep.data.toList).length ≤ xs.length * 2000 := by
       intro xs hxs
       cases xs with
       | nil => simp [Lib.join,List.intercalate]
       | cons x xs =>
        rw [List.map_cons,Lib.join_cons]
        have hx : x.data.toList.length ≤ 1000 := hxs x (by simp)
        have ht : ∀ ys : List ByteArray,(∀ s ∈ ys,s.size ≤ 1000) → (Lib.joinTail sep.data.toList (ys.map (·.data.toList))).length ≤ ys.length * 2000 := by
         intro ys hys
         induction ys with
         | nil => simp [Lib.joinTail]
         | cons y ys ih =>
          have h5 := ih (fun s hs => hys s (by simp [hs]))
          have h6 : y.data.toList.length ≤ 1000 := hys y (by simp)
          have h7 : sep.data.toList.length ≤ 1000 := hk.2.2.1
          simp only [Lib.joinTail,List.map_cons,List.flatten_cons,List.length_append,List.length_cons] at h5 ⊢
          omega
        have h8 := ht xs (fun s hs => hxs s (by simp [hs]))
        simp only [List.length_append,List.length_cons]
        omega
      have h9 := hl2 l (fun s hs => by
       have := List.all_eq_true.1 hk.2.2.2 s hs
       exact of_decide_eq_true this)
      have h10 : l.length * 2000 ≤ 1000 * 2000 := Nat.mul_le_mul_right _ (by omega)
      omega
     have hv := Tryz.strings_Join b off cap l sep w (fun j x hx => by
      obtain ⟨v,h5,h6⟩ := VRC_get (j := j) (p := .str x) hrow (by rw [hcs,List.getElem?_map,hx];rfl)
      simp only [VR] at h6
      rw [h5,h6]) hb (by omega) (by omega) hj
     rw [hlen] at hv
     refine callsIn_wide.2 (hv.mono ?_)
     rintro e w' ⟨rfl,hbl⟩
     have hf : Foreign B0 G w w' (fun _ => False) := .grow hbl.size (fun b hb => hbl.block b hb) ⟨hbl.os,hbl.output⟩
     refine ⟨G,hf.wr hw,Ext.grow hw hf,_,rfl,?_⟩
     simp only [VR]
     rfl
   ·cases h
  ·cases h
 ·cases h
theorem split_ok {m : Int} (hB : 1 < B0) (hm : w0.cell? ⟨1,0,none⟩ = some (.int .i64 m)) (h : splitR st args = some (some (r,st'))) (hw : WR Tryz.prog B0 w0 G st.heap w) (ha : VRL G w args avs) : ∀ n,CallsIn Fence.wide n Tryz.prog 139 avs.toArray w (CallR Tryz.prog B0 w0 G st w r st') := by
 intro n
 unfold splitR at h
 split at h
 ·rename_i s sep
  split at h
  ·rename_i b hb
   split at h
   ·rename_i hk
    simp only [Option.some.injEq,Prod.mk.injEq] at h
    obtain ⟨rfl,rfl⟩ := h
    obtain ⟨v,vs',rfl,h1,h2⟩ := VRL.cons_iff.1 ha
    obtain ⟨v2,vs2,rfl,h3,h4⟩ := VRL.cons_iff.1 h2
    rw [VRL.nil_iff.1 h4]
    simp only [VR] at h1 h3
    subst h1 h3
    have hm' : w.cell? ⟨1,0,none⟩ = some (.int .i64 m) := by
     rw [cell_of_heap (hw.low.2 1 hB)];exact hm
    have hsep : 1 ≤ sep.size := by
     have : (unB sep).length = 1 := by rw [hb];rfl
     have h5 : sep.size = (unB sep).length := rfl
     omega
    refine callsIn_wide.2 ((Tryz.strings_Split s sep m w (by omega) hm' hsep).mono ?_)
    rintro e w' ⟨rfl,rfl⟩
    obtain ⟨d1,d2⟩ := split_data s sep b hb
    rw [d2,← d1,encS_map]
    have hlen : (Lib.splitB sep 0 (Lib.countB s sep) s).length = Lib.countB s sep + 1 := by rw [← d2,← d1,List.length_map]
    obtain ⟨G',k1,k2,k3⟩ := shared_row hw ((Lib.splitB sep 0 (Lib.countB s sep) s).map PV.str) ((Lib.splitB sep 0 (Lib.countB s sep) s).map Value.string).toArray 9 (by simp) (fun m => strs_low m _) (fun G' w' hh => strs_row _ [] (by simpa using hh)) (Lib.countB s sep + 1) (Lib.countB s sep + 1) (Nat.le_refl _)
    exact ⟨G',k1,k2 _,_,rfl,k3⟩
   ·cases h
  ·cases h
 ·cases h
end
end Go.Den.Ch
end
section
namespace Go.Proofs.ChTry
open Go.RowKit Go.Extern.Stop Go.Stop Go.Extern
section
variable {P : Program} {ops : Array Oper} {Q : Exit → Act → World → Prop} {i : Nat} {rest : List Nat} {a : Act} {w w' : World} {o : Oper}
theorem ops_value {v : Value} (ho : ops[i]? = some o) (hg : o.guard = none) (hr : (execOp a.eval o).run P w = .ok (.value v) w') (h : wpOps P ops Q rest (a.put o.dst v) w') : wpOps P ops Q (i :: rest) a w := by
 simp only [wpOps,ho,Region.wanted,hg,if_true]
 left
 simp only [Oper.wp,Oper.upon,hr]
 exact h
theorem ops_skip (ho : ops[i]? = some o) (hg : o.guard = none) (hr : (execOp a.eval o).run P w = .ok .skip w') (h : wpOps P ops Q rest (a.put o.dst Go.undef) w') : wpOps P ops Q (i :: rest) a w := by
 simp only [wpOps,ho,Region.wanted,hg,if_true]
 left
 simp only [Oper.wp,Oper.upon,hr]
 exact h
theorem ops_defer {d : Deferred} (ho : ops[i]? = some o) (hg : o.guard = none) (hr : (execOp a.eval o).run P w = .ok (.defer d) w') (h : wpOps P ops Q rest ({ a with defers := d :: a.defers }.put o.dst Go.undef) w') : wpOps P ops Q (i :: rest) a w := by
 simp only [wpOps,ho,Region.wanted,hg,if_true]
 left
 simp only [Oper.wp,Oper.upon,hr]
 exact h
theorem ops_call {g : FuncId} {args : Array Value} {R : Ending → World → Prop} (ho : ops[i]? = some o) (hg : o.guard = none) (hr : (execOp a.eval o).run P w = .ok (.enter g args) w) (hc : Calls P g args w R) (h : ∀ e w'',R e w'' → match e with
  | .returned v => wpOps P ops Q rest (a.put o.dst v) w''
  | .panicked chain => Q (.panic chain) a w''
  | .outgrown => False) : wpOps P ops Q (i :: rest) a w := by
 simp only [wpOps,ho,Region.wanted,hg,if_true]
 left
 simp only [Oper.wp,Oper.upon,hr]
 refine hc.mono fun e w'' he => ?_
 have := h e w'' he
 cases e with
 | returned v => exact this
 | panicked chain => exact this
 | outgrown => exact this.elim
theorem ops_nil (h : Q .normal a w) : wpOps P ops Q [] a w := h
theorem store_row {t T : TypeId} {x y : Operand} {g s : Nat} {arr : Array Value} (ho : o.op = .store t x y) (hx : a.eval x = .pointer (some ⟨g,0,none⟩)) (hsz : Go.Den.sizeT P t = some s) (hg : w.heap[g]? = some (Obj.cells arr T (0,0))) (hs : (a.eval y).cells.size = s) (hs2 : arr.size = s) (h1 : ∀ u ∈ (a.eval y).cells.toList,u.oneCell' = true) :
  (execOp a.eval o).run P w = .ok .skip (w.putObj g (Obj.cells (a.eval y).cells T (0,0))) := by
 refine Go.Den.OpRun.unit (by unfold execOp;rw [ho]) ?_
 unfold Instr.storeAt storeVar
 have := Go.Den.run_storeCells_th (P := P) g 0 T (0,0) (a.eval y).cells.toList 0 arr w hg (Go.Den.Thawed.zero _) (by simp;omega) h1
 have e1 : (arr.toList.take 0 ++ (a.eval y).cells.toList ++ arr.toList.drop (0 + (a.eval y).cells.toList.length)).toArray = (a.eval y).cells := by
  rw [List.drop_of_length_le (by simp;omega)];simp
 simp only [Nat.add_zero] at this
 rw [e1] at this
 simp only [hx,Sem.run_bind,Go.Den.sureAddr_run,Result.andThen_ok,Go.Den.sizeOf_run hsz,hs,ne_eq,not_true_eq_false,if_false,this,Sem.run_ite]
end
theorem catch_idle (p q : Addr) (w : World) :
  CallsD Tryz.prog 127 #[.pointer (some p),.pointer (some q)] .returning w fun e u' w' => e = .returned (.tuple #[]) ∧ u' = .returning ∧ w' = w := by
 have hnil : ∀ w : World,(binOp BinOp.eql 20 .nilIface .nilIface).run Tryz.prog w = .ok (.bool true) w := fun _ => by kernel_rfl
 refine callsD_of_wpS Tryz.func127 rfl fun c₀ cs hu => ?_
 apply wpS_seq
 apply wpS_region
 simp [wpOpsS,go_sem,recoverD,hu,Tryz.ntmps127,Exit.thenS]
 have ht : #[Value.pointer (some p),Value.pointer (some q)] ++ (Array.replicate 15 Go.undef).setIfInBounds 4 Value.nilIface = #[.pointer (some p),.pointer (some q),Go.undef,Go.undef,Go.undef,Go.undef,.nilIface,Go.undef,Go.undef,Go.undef,Go.undef,Go.undef,Go.undef,Go.undef,Go.undef,Go.undef,Go.undef] := rfl
 rw [ht]
 refine wpS_of_wp ?_
 apply wp_block
 apply wp_seq
 apply wp_region
 simp [wpOps,go_sem,hnil,Exit.then]
 (repeat apply Or.inl)
 refine wp_cond_true (by simp [Act.eval]) ?_
 apply wp_region
 simp [wpOps,go_sem,Exit.inBlock]
 (repeat apply Or.inl)
 cases c₀
 simp_all [bodyPostS,results,Tryz.results127]
theorem catch_found (n : Nat) (a b c : Int) (x y z e0 : Value) (older : List PanicEntry) (w : World) (hp : w.heap[n]? = some (.cells #[x,y,z] 31 (0,0))) (hq : w.heap[n + 1]? = some (.cells #[e0] 32 (0,0))) :
  CallsD Tryz.prog 127 #[.pointer (some ⟨n,0,none⟩),.pointer (some ⟨n + 1,0,none⟩)] (.panicking ({ v := .iface 133 (.agg #[.int .i64 a,.int .i64 b,.int .i64 c]),recovered := false } :: older)) w fun e u' w' => e = .returned (.tuple #[]) ∧ u' = .panicking ({ v := .iface 133 (.agg #[.int .i64 a,.int .i64 b,.int .i64 c]),recovered := true } :: older) ∧
   w.heap.size ≤ w'.heap.size ∧ (∀ k,k < w.heap.size → k ≠ n → k ≠ n + 1 → w'.heap[k]? = w.heap[k]?) ∧ w'.heap[n]? = some (.cells #[.int .i64 a,.int .i64 b,.int .i64 c] 31 (0,0)) ∧ w'.heap[n + 1]? = some (.cells #[.int .i64 7] 32 (0,0)) ∧ w'.os = w.os ∧ w'.output = w.output := by
 have hnil : ∀ w : World,(binOp BinOp.eql 20 (.iface 133 (.agg #[.int .i64 a,.int .i64 b,.int .i64 c])) .nilIface).run Tryz.prog w = .ok (.bool false) w := fun _ => by kernel_rfl
 have hta : ∀ w : World,(Instr.typeAssert (.iface 133 (.agg #[.int .i64 a,.int .i64 b,.int .i64 c])) 20 133 true).run Tryz.prog w = .ok (.tuple #[.agg #[.int .i64 a,.int .i64 b,.int .i64 c],.bool true]) w := fun _ => by kernel_rfl
 have ln : n < w.heap.size := Go.Den.lt_of_heap hp
 have ln1 : n + 1 < w.heap.size := Go.Den.lt_of_heap hq
 refine callsD_of_wpS Tryz.func127 rfl fun c₀ cs hu => ?_
 apply wpS_seq
 apply wpS_region
 simp [wpOpsS,go_sem,recoverD,hu,Tryz.ntmps127,Exit.thenS]
 have ht : #[Value.pointer (some ⟨n,0,none⟩),Value.pointer (some ⟨n + 1,0,none⟩)] ++ (Array.replicate 15 Go.undef).setIfInBounds 4 (.iface 133 (.agg #[.int .i64 a,.int .i64 b,.int .i64 c])) = #[.pointer (some ⟨n,0,none⟩),.pointer (some ⟨n + 1,0,none⟩),Go.undef,Go.undef,Go.undef,Go.undef,.iface 133 (.agg #[.int .i64 a,.int .i64 b,.int .i64 c]),Go.undef,Go.undef,Go.undef,Go.undef,Go.undef,Go.undef,Go.undef,Go.undef,Go.undef,Go.undef] := rfl
 rw [ht]
 refine wpS_of_wp ?_
 apply wp_block
 apply wp_seq
 apply wp_region
 simp [wpOps,go_sem,hnil,Exit.then]
 (repeat apply Or.inl)
 refine wp_cond_false (by simp [Act.eval]) ?_
 apply wp_seq
 apply wp_region
 simp [wpOps,go_sem,Exit.then,hta]
 (repeat apply Or.inl)
 refine wp_cond_true (by simp [Act.eval]) ?_
 apply wp_seq
 apply wp_region
 refine ops_value (v := .pointer (some ⟨w.heap.size,0,none⟩)) (w' := w.alloc (.cells #[.int .i64 0,.int .i64 0,.int .i64 0] 133 (0,0))) rfl rfl (by simp [go_sem]) ?_
 refine ops_skip (w' := (w.alloc (.cells #[.int .i64 0,.int .i64 0,.int .i64 0] 133 (0,0))).putObj w.heap.size (.cells #[.int .i64 a,.int .i64 b,.int .i64 c] 133 (0,0))) rfl rfl (store_row (t := 133) (x := .tmp 3) (y := .tmp 11) (arr := #[.int .i64 0,.int .i64 0,.int .i64 0]) (s := 3) rfl rfl (by kernel_rfl) (Go.Den.heap_alloc_new _ _) rfl rfl (by simp [Act.eval,Act.put,Value.cells,Value.oneCell'])) ?_
 apply ops_nil
 generalize hW : (w.alloc (.cells #[.int .i64 0,.int .i64 0,.int .i64 0] 133 (0,0))).putObj w.heap.size (.cells #[.int .i64 a,.int .i64 b,.int .i64 c] 133 (0,0)) = W
 have hWos : W.os = w.os ∧ W.output = w.output := by rw [← hW];exact ⟨rfl,rfl⟩
 have hWs : w.heap.size ≤ W.heap.size := by rw [← hW,Go.Den.size_put,Go.Den.size_alloc];omega
 have hWo : ∀ k,k < w.heap.size → W.heap[k]? = w.heap[k]? := fun k hk => by rw [← hW,Go.Den.heap_put_other (by omega),Go.Den.heap_alloc_lt _ _ hk]
 have hWn : W.heap[w.heap.size]? = some (.cells #[.int .i64 a,.int .i64 b,.int .i64 c] 133 (0,0)) := by rw [← hW,Go.Den.heap_put_same (by rw [Go.Den.size_alloc];omega)]
 have c0 : W.cell? ⟨w.heap.size,0,none⟩ = some (.int .i64 a) := by rw [Go.Den.cell_row hWn];rfl
 have c1 : W.cell? ⟨w.heap.size,1,none⟩ = some (.int .i64 b) := by rw [Go.Den.cell_row hWn];rfl
 have c2 : W.cell? ⟨w.heap.size,2,none⟩ = some (.int .i64 c) := by rw [Go.Den.cell_row hWn];rfl
 show Code.wp _ _ _ _ _
 apply wp_region
 refine ops_value (v := .pointer (some ⟨w.heap.size,0,none⟩)) (w' := W) rfl rfl (by simp [go_sem,Act.put]) ?_
 refine ops_value (v := .agg #[.int .i64 a,.int .i64 b,.int .i64 c]) (w' := W) rfl rfl (by simp [go_sem,Act.put,c0,c1,c2]) ?_
 refine ops_skip (w' := W.putObj n (.cells #[.int .i64 a,.int .i64 b,.int .i64 c] 31 (0,0))) rfl rfl (store_row (t := 31) (x := .tmp 0) (y := .tmp 13) (arr := #[x,y,z]) (s := 3) rfl rfl (by kernel_rfl) ((hWo n ln).trans hp) rfl rfl (by simp [Act.eval,Act.put,Value.cells,Value.oneCell'])) ?_
 refine ops_skip (w' := (W.putObj n (.cells #[.int .i64 a,.int .i64 b,.int .i64 c] 31 (0,0))).putObj (n + 1) (.cells #[.int .i64 7] 32 (0,0))) rfl rfl (store_row (t := 32) (x := .tmp 1) (y := .const (.int .i64 7)) (arr := #[e0]) (s := 1) rfl rfl (by kernel_rfl) (by rw [Go.Den.heap_put_other (by omega)];exact (hWo (n + 1) ln1).trans hq) rfl rfl (by simp [Act.eval,Act.put,Value.cells,Value.oneCell'])) ?_
 apply ops_nil
 refine ⟨rfl,_,rfl,.tuple #[],by simp [results,Tryz.results127],rfl,rfl,?_,fun k hk h1 h2 => ?_,?_,?_,hWos⟩
 ·rw [Go.Den.size_put,Go.Den.size_put];exact hWs
 ·rw [Go.Den.heap_put_other h2,Go.Den.heap_put_other h1,hWo k hk]
 ·rw [Go.Den.heap_put_other (by omega),Go.Den.heap_put_same (by omega)]
 ·rw [Go.Den.heap_put_same (by rw [Go.Den.size_put];omega)]
theorem catch_none (n : Nat) (t : ByteArray) (x y z e0 : Value) (older : List PanicEntry) (w : World) (hp : w.heap[n]? = some (.cells #[x,y,z] 31 (0,0))) (hq : w.heap[n + 1]? = some (.cells #[e0] 32 (0,0))) :
  CallsD Tryz.prog 127 #[.pointer (some ⟨n,0,none⟩),.pointer (some ⟨n + 1,0,none⟩)] (.panicking ({ v := (.iface 135 (.agg #[.string t])),recovered := false } :: older)) w fun e u' w' => e = .returned (.tuple #[]) ∧ u' = .panicking ({ v := (.iface 135 (.agg #[.string t])),recovered := true } :: older) ∧
   w.heap.size ≤ w'.heap.size ∧ (∀ k,k < w.heap.size → k ≠ n → k ≠ n + 1 → w'.heap[k]? = w.heap[k]?) ∧ w'.heap[n]? = some (.cells #[x,y,z] 31 (0,0)) ∧ w'.heap[n + 1]? = some (.cells #[.int .i64 4] 32 (0,0)) ∧ w'.os = w.os ∧ w'.output = w.output := by
 have hnil : ∀ w : World,(binOp BinOp.eql 20 (.iface 135 (.agg #[.string t])) .nilIface).run Tryz.prog w = .ok (.bool false) w := fun _ => by kernel_rfl
 have hta : ∀ w : World,(Instr.typeAssert (.iface 135 (.agg #[.string t])) 20 133 true).run Tryz.prog w = .ok (.tuple #[.agg #[.int .i64 0,.int .i64 0,.int .i64 0],.bool false]) w := fun _ => by kernel_rfl
 have htb : ∀ w : World,(Instr.typeAssert (.iface 135 (.agg #[.string t])) 20 135 true).run Tryz.prog w = .ok (.tuple #[.agg #[.string t],.bool true]) w := fun _ => by kernel_rfl
 have ln : n < w.heap.size := Go.Den.lt_of_heap hp
 have ln1 : n + 1 < w.heap.size := Go.Den.lt_of_heap hq
 refine callsD_of_wpS Tryz.func127 rfl fun c₀ cs hu => ?_
 apply wpS_seq
 apply wpS_region
 simp [wpOpsS,go_sem,recoverD,hu,Tryz.ntmps127,Exit.thenS]
 have ht : #[Value.pointer (some ⟨n,0,none⟩),Value.pointer (some ⟨n + 1,0,none⟩)] ++ (Array.replicate 15 Go.undef).setIfInBounds 4 (.iface 135 (.agg #[.string t])) = #[.pointer (some ⟨n,0,none⟩),.pointer (some ⟨n + 1,0,none⟩),Go.undef,Go.undef,Go.undef,Go.undef,(.iface 135 (.agg #[.string t])),Go.undef,Go.undef,Go.undef,Go.undef,Go.undef,Go.undef,Go.undef,Go.undef,Go.undef,Go.undef] := rfl
 rw [ht]
 refine wpS_of_wp ?_
 apply wp_block
 apply wp_seq
 apply wp_region
 simp [wpOps,go_sem,hnil,Exit.then]
 (repeat apply Or.inl)
 refine wp_cond_false (by simp [Act.eval]) ?_
 apply wp_seq
 apply wp_region
 simp [wpOps,go_sem,Exit.then,hta]
 (repeat apply Or.inl)
 refine wp_cond_false (by simp [Act.eval]) ?_
 apply wp_seq
 apply wp_region
 simp [wpOps,go_sem,Exit.then,htb]
 (repeat apply Or.inl)
 refine wp_cond_true (by simp [Act.eval]) ?_
 apply wp_seq
 apply wp_region
 refine ops_value (v := .pointer (some ⟨w.heap.size,0,none⟩)) (w' := w.alloc (.cells #[.string ⟨#[]⟩] 135 (0,0))) rfl rfl (by simp [go_sem]) ?_
 refine ops_skip (w' := (w.alloc (.cells #[.string ⟨#[]⟩] 135 (0,0))).putObj w.heap.size (.cells #[.string t] 135 (0,0))) rfl rfl (store_row (t := 135) (x := .tmp 4) (y := .tmp 16) (arr := #[.string ⟨#[]⟩]) (s := 1) rfl rfl (by kernel_rfl) (Go.Den.heap_alloc_new _ _) rfl rfl (by simp [Act.eval,Act.put,Value.cells,Value.oneCell'])) ?_
 apply ops_nil
 generalize hW : (w.alloc (.cells #[.string ⟨#[]⟩] 135 (0,0))).putObj w.heap.size (.cells #[.string t] 135 (0,0)) = W
 have hWos : W.os = w.os ∧ W.output = w.output := by rw [← hW];exact ⟨rfl,rfl⟩
 have hWs : w.heap.size ≤ W.heap.size := by rw [← hW,Go.Den.size_put,Go.Den.size_alloc];omega
 have hWo : ∀ k,k < w.heap.size → W.heap[k]? = w.heap[k]? := fun k hk => by rw [← hW,Go.Den.heap_put_other (by omega),Go.Den.heap_alloc_lt _ _ hk]
 show Code.wp _ _ _ _ _
 apply wp_region
 refine ops_skip (w' := W.putObj (n + 1) (.cells #[.int .i64 4] 32 (0,0))) rfl rfl (store_row (t := 32) (x := .tmp 1) (y := .const (.int .i64 4)) (arr := #[e0]) (s := 1) rfl rfl (by kernel_rfl) ((hWo (n + 1) ln1).trans hq) rfl rfl (by simp [Act.eval,Act.put,Value.cells,Value.oneCell'])) ?_
 apply ops_nil
 refine ⟨rfl,_,rfl,.tuple #[],by simp [results,Tryz.results127],rfl,rfl,?_,fun k hk h1 h2 => ?_,?_,?_,hWos⟩
 ·rw [Go.Den.size_put];exact hWs
 ·rw [Go.Den.heap_put_other h2,hWo k hk]
 ·rw [Go.Den.heap_put_other (by omega),hWo n ln];exact hp
 ·rw [Go.Den.heap_put_same (by omega)]
theorem try_leaves (n : Nat) (a b c d : Int) (R : Ending → World → Prop) (tm : Array Value) (h2 : tm[2]?.getD Go.undef = .pointer (some ⟨n,0,none⟩)) (h3 : tm[3]?.getD Go.undef = .pointer (some ⟨n + 1,0,none⟩)) (u : FrameMode) (hu : settle u = .returning) (w : World) (hp : w.heap[n]? = some (.cells #[.int .i64 a,.int .i64 b,.int .i64 c] 31 (0,0))) (hq : w.heap[n + 1]? = some (.cells #[.int .i64 d] 32 (0,0)))
  (hR : R (.returned (.tuple #[.agg #[.int .i64 a,.int .i64 b,.int .i64 c],.int .i64 d])) w) : Leaves Tryz.prog Tryz.f79 tm R [] (settle u) w := by
 have c0 : w.cell? ⟨n,0,none⟩ = some (.int .i64 a) := by rw [Go.Den.cell_row hp];rfl
 have c1 : w.cell? ⟨n,1,none⟩ = some (.int .i64 b) := by rw [Go.Den.cell_row hp];rfl
 have c2 : w.cell? ⟨n,2,none⟩ = some (.int .i64 c) := by rw [Go.Den.cell_row hp];rfl
 have c3 : w.cell? ⟨n + 1,0,none⟩ = some (.int .i64 d) := by rw [Go.Den.cell_row hq];rfl
 rw [hu]
 refine ⟨_,?_,hR⟩
 simp [results,Tryz.results79,go_sem,h2,h3,c0,c1,c2,c3]
def tryW (w : World) : World := (w.alloc (.cells #[.int .i64 0,.int .i64 0,.int .i64 0] 31 (0,0))).alloc (.cells #[.int .i64 0] 32 (0,0))
def TryR (n : Nat) (w2 w' : World) (a b c d : Int) : Prop := w2.heap.size ≤ w'.heap.size ∧ (∀ k,k < w2.heap.size → k ≠ n → k ≠ n + 1 → w'.heap[k]? = w2.heap[k]?) ∧ w'.heap[n]? = some (.cells #[.int .i64 a,.int .i64 b,.int .i64 c] 31 (0,0)) ∧ w'.heap[n + 1]? = some (.cells #[.int .i64 d] 32 (0,0)) ∧ w'.os = w2.os ∧ w'.output = w2.output
set_option maxHeartbeats 4000000 in
theorem try_walk {g : FuncId} {fi ca : Array Value} {w : World} (hE : Go.Den.Enterable Tryz.prog g) {Rd : World → Prop} (a b c d : Int)
  (hdo : Calls Tryz.prog g (fi ++ #[] ++ ca) (tryW w) fun e w2 => ((∃ v,e = .returned v ∧ a = 0 ∧ b = 0 ∧ c = 0 ∧ d = 0) ∨ (e = .panicked [{ v := .iface 133 (.agg #[.int .i64 a,.int .i64 b,.int .i64 c]),recovered := false }] ∧ d = 7) ∨ (∃ t,e = .panicked [{ v := .iface 135 (.agg #[.string t]),recovered := false }] ∧ a = 0 ∧ b = 0 ∧ c = 0 ∧ d = 4)) ∧ Rd w2 ∧ w2.heap[w.heap.size]? = some (.cells #[.int .i64 0,.int .i64 0,.int .i64 0] 31 (0,0)) ∧ w2.heap[w.heap.size + 1]? = some (.cells #[.int .i64 0] 32 (0,0))) :
  Calls Tryz.prog 79 #[.func (.func g) fi ca] w fun e w' => e = .returned (.tuple #[.agg #[.int .i64 a,.int .i64 b,.int .i64 c],.int .i64 d]) ∧ ∃ w2,Rd w2 ∧ TryR w.heap.size w2 w' a b c d := by
 have hmf : ∀ (fn : Fn) (first cap : Array Value) (w : World),(Instr.makeFunc fn first cap).run Tryz.prog w = .ok (.func fn first cap) w := fun _ _ _ _ => rfl
 have e00 : fi ++ #[] ++ ca = fi ++ ca := by simp
 rw [e00] at hdo
 refine calls_of_wp_defers Tryz.func79 rfl ?_
 have ht : (#[Value.func (.func g) fi ca] : Array Value) ++ Array.replicate (Tryz.f79.ntmps - 1) Go.undef = #[.func (.func g) fi ca,Go.undef,Go.undef,Go.undef,Go.undef,Go.undef,Go.undef,Go.undef] := rfl
 show Code.wp _ _ _ { tmps := #[Value.func (.func g) fi ca] ++ Array.replicate (Tryz.f79.ntmps - 1) Go.undef,defers := [] } _
 rw [ht]
 apply wp_seq
 apply wp_region
 refine ops_value (v := .pointer (some ⟨w.heap.size,0,none⟩)) (w' := w.alloc (.cells #[.int .i64 0,.int .i64 0,.int .i64 0] 31 (0,0))) rfl rfl (by simp [go_sem]) ?_
 refine ops_value (v := .pointer (some ⟨w.heap.size + 1,0,none⟩)) (w' := tryW w) rfl rfl (by simp [go_sem,tryW,Go.Den.size_alloc]) ?_
 apply ops_nil
 show Code.wp _ _ _ _ _
 apply wp_seq
 apply wp_region
 refine ops_value (v := .func (.func 127) #[] #[.pointer (some ⟨w.heap.size,0,none⟩),.pointer (some ⟨w.heap.size + 1,0,none⟩)]) (w' := tryW w) rfl rfl (by simp [go_sem,Act.put,hmf]) ?_
 refine ops_defer (d := { target := .fn (.func 127) #[.pointer (some ⟨w.heap.size,0,none⟩),.pointer (some ⟨w.heap.size + 1,0,none⟩)],args := #[] }) (w' := tryW w) rfl rfl (by simp [go_sem,Act.put]) ?_
 apply ops_nil
 show Code.wp _ _ _ _ _
 apply wp_seq
 apply wp_region
 refine ops_value (v := .func (.func g) fi ca) (w' := tryW w) rfl rfl (by simp [go_sem,Act.put]) ?_
 refine ops_call (g := g) (args := fi ++ ca) rfl rfl (by
  have h := Go.Den.callFunc_run hE (fi ++ ca) (tryW w)
  simp [go_sem,Act.put,invoke,h]) hdo ?_
 rintro e w2 ⟨he,hRd,hn,hn1⟩
 have hi : (invoke (.fn (.func 127) #[.pointer (some ⟨w.heap.size,0,none⟩),.pointer (some ⟨w.heap.size + 1,0,none⟩)]) #[]).run Tryz.prog w2 = .ok (.enter 127 #[.pointer (some ⟨w.heap.size,0,none⟩),.pointer (some ⟨w.heap.size + 1,0,none⟩)]) w2 := by simp [go_sem,invoke]
 rcases he with ⟨v,rfl,rfl,rfl,rfl,rfl⟩ | ⟨rfl,rfl⟩ | ⟨t,rfl,rfl,rfl,rfl,rfl⟩
 ·apply ops_nil
  show Code.wp _ _ _ _ _
  apply wp_seq
  apply wp_region
  have ln : w.heap.size < w2.heap.size := Go.Den.lt_of_heap hn
  have ln1 : w.heap.size + 1 < w2.heap.size := Go.Den.lt_of_heap hn1
  refine ops_value (v := .agg #[.int .i64 0,.int .i64 0,.int .i64 0]) (w' := w2) rfl rfl (by simp [go_sem]) ?_
  refine ops_skip (w' := w2.putObj w.heap.size (.cells #[.int .i64 0,.int .i64 0,.int .i64 0] 31 (0,0))) rfl rfl (store_row (t := 31) (x := .tmp 2) (y := .tmp 7) (arr := #[.int .i64 0,.int .i64 0,.int .i64 0]) (s := 3) rfl rfl (by kernel_rfl) hn rfl rfl (by simp [Act.eval,Act.put,Value.cells,Value.oneCell'])) ?_
  refine ops_skip (w' := (w2.putObj w.heap.size (.cells #[.int .i64 0,.int .i64 0,.int .i64 0] 31 (0,0))).putObj (w.heap.size + 1) (.cells #[.int .i64 0] 32 (0,0))) rfl rfl (store_row (t := 32) (x := .tmp 3) (y := .const (.int .i64 0)) (arr := #[.int .i64 0]) (s := 1) rfl rfl (by kernel_rfl) (by rw [Go.Den.heap_put_other (by omega)];exact hn1) rfl rfl (by simp [Act.eval,Act.put,Value.cells,Value.oneCell'])) ?_
  apply ops_nil
  show Code.wp _ _ _ _ _
  apply wp_ret
  have hi2 : ∀ W : World,(invoke (.fn (.func 127) #[.pointer (some ⟨w.heap.size,0,none⟩),.pointer (some ⟨w.heap.size + 1,0,none⟩)]) #[]).run Tryz.prog W = .ok (.enter 127 #[.pointer (some ⟨w.heap.size,0,none⟩),.pointer (some ⟨w.heap.size + 1,0,none⟩)]) W := fun W => by simp [go_sem,invoke]
  refine leaves_cons (by simp) (hi2 _) ?_
  refine (catch_idle ⟨w.heap.size,0,none⟩ ⟨w.heap.size + 1,0,none⟩ _).mono ?_
  rintro e u' w'' ⟨rfl,rfl,rfl⟩
  have g1 : ((w2.putObj w.heap.size (.cells #[.int .i64 0,.int .i64 0,.int .i64 0] 31 (0,0))).putObj (w.heap.size + 1) (.cells #[.int .i64 0] 32 (0,0))).heap[w.heap.size]? = some (.cells #[.int .i64 0,.int .i64 0,.int .i64 0] 31 (0,0)) := by
   rw [Go.Den.heap_put_other (by omega),Go.Den.heap_put_same ln]
  have g2 : ((w2.putObj w.heap.size (.cells #[.int .i64 0,.int .i64 0,.int .i64 0] 31 (0,0))).putObj (w.heap.size + 1) (.cells #[.int .i64 0] 32 (0,0))).heap[w.heap.size + 1]? = some (.cells #[.int .i64 0] 32 (0,0)) := by
   rw [Go.Den.heap_put_same (by rw [Go.Den.size_put];exact ln1)]
  refine try_leaves w.heap.size 0 0 0 0 _ _ rfl rfl .returning rfl _ g1 g2 ⟨rfl,w2,hRd,?_,fun k hk h1 h2 => ?_,g1,g2,rfl,rfl⟩
  ·rw [Go.Den.size_put,Go.Den.size_put];exact Nat.le_refl _
  ·rw [Go.Den.heap_put_other h2,Go.Den.heap_put_other h1]
 ·refine leaves_cons (by simp) hi ?_
  refine (catch_found w.heap.size a b c _ _ _ _ [] w2 hn hn1).mono ?_
  rintro e u' w'' ⟨rfl,rfl,h1,h2,h3,h4,h5⟩
  exact try_leaves w.heap.size a b c 7 _ _ rfl rfl _ rfl _ h3 h4 ⟨rfl,w2,hRd,h1,h2,h3,h4,h5⟩
 ·refine leaves_cons (by simp) hi ?_
  refine (catch_none w.heap.size t _ _ _ _ [] w2 hn hn1).mono ?_
  rintro e u' w'' ⟨rfl,rfl,h1,h2,h3,h4,h5⟩
  exact try_leaves w.heap.size 0 0 0 4 _ _ rfl rfl _ rfl _ h3 h4 ⟨rfl,w2,hRd,h1,h2,h3,h4,h5⟩
end Go.Proofs.ChTry
end
section
namespace Go.Den.Ch
open Go.Proofs Go.Proofs.ChTry
section
variable {B0 : Nat} {w0 w : World} {G : Gh} {st st' : St} {args : List PV} {avs : List Value} {r : CR} {rec : Rec}
theorem ints3 {G : Gh} {w : World} {a b c : Int} {u : Value} (h : VR G w (.agg [.int .i64 a,.int .i64 b,.int .i64 c]) u) : u = .agg #[.int .i64 a,.int .i64 b,.int .i64 c] := by
 simp only [VR] at h
 obtain ⟨vs,rfl,h⟩ := h
 obtain ⟨v1,r1,e1,h1,h⟩ := VRL.cons_iff.1 h
 obtain ⟨v2,r2,rfl,h2,h⟩ := VRL.cons_iff.1 h
 obtain ⟨v3,r3,rfl,h3,h⟩ := VRL.cons_iff.1 h
 rw [VRL.nil_iff.1 h] at e1
 simp only [VR] at h1 h2 h3
 subst h1 h2 h3
 rw [arr_of_list e1]
theorem str1 {G : Gh} {w : World} {s : ByteArray} {u : Value} (h : VR G w (.agg [.str s]) u) : u = .agg #[.string s] := by
 simp only [VR] at h
 obtain ⟨vs,rfl,h⟩ := h
 obtain ⟨v1,r1,e1,h1,h⟩ := VRL.cons_iff.1 h
 rw [VRL.nil_iff.1 h] at e1
 simp only [VR] at h1
 subst h1
 rw [arr_of_list e1]
theorem try_out (hw : WR Tryz.prog B0 w0 G st.heap w) {G' : Gh} {h' : List HObj} {w2 w' : World} {lo : Nat} (r1 : WR Tryz.prog B0 w0 G' h' w2) (x : Ext G st.heap (tryW w) G' h' w2 lo) (hn : w2.heap[w.heap.size]? = some (Obj.cells #[.int .i64 0,.int .i64 0,.int .i64 0] 31 (0,0))) (hn1 : w2.heap[w.heap.size + 1]? = some (Obj.cells #[.int .i64 0] 32 (0,0))) {a b c d : Int} (ht : TryR w.heap.size w2 w' a b c d) :
  WR Tryz.prog B0 w0 G' h' w' ∧ Ext G st.heap w G' h' w' lo := by
 have hsz : (tryW w).heap.size = w.heap.size + 2 := by unfold tryW;rw [size_alloc,size_alloc]
 have hf1 : Foreign B0 G w (tryW w) (fun _ => False) := .grow (by omega) (fun b hb => by unfold tryW;rw [heap_alloc_lt _ _ (by rw [size_alloc];omega),heap_alloc_lt _ _ hb]) ⟨rfl,rfl⟩
 have hfree : ∀ k,(k = w.heap.size ∨ k = w.heap.size + 1) → B0 ≤ k ∧ (∀ l,G'.be l ≠ some k) ∧ (∀ t e,G'.tg t ≠ some (k,e)) ∧ G'.cm k = none := by
  intro k hk
  have hlow := hw.low.1
  have gb : ∀ l,G.be l ≠ some k := fun l h => by have := (hw.obj h).2.1;omega
  have gt : ∀ t e,G.tg t ≠ some (k,e) := fun t e h => by have := (hw.tag h).2.1;omega
  have gc : G.cm k = none := by
   cases h : G.cm k with
   | none => rfl
   | some n => have := hw.cmLt h;omega
  refine ⟨by omega,fun l h => ?_,fun t e h => ?_,?_⟩
  ·cases hg : G.be l with
   | none => have := (x.nbe h hg).2;omega
   | some b' => have := x.pres.be hg;rw [h] at this;cases this;exact gb l hg
  ·cases hg : G.tg t with
   | none =>
    rcases (x.ntg h hg).2 with h1 | ⟨t',e',h1⟩
    ·omega
    ·exact gt t' e' h1
   | some y => have := x.pres.tg hg;rw [h] at this;cases this;exact gt t e hg
  ·cases h : G'.cm k with
   | none => rfl
   | some n =>
    rcases x.ncm h gc with h1 | ⟨t,e,h1⟩
    ·omega
    ·exact absurd h1 (gt t e)
 have hf2 : Foreign B0 G' w2 w' (fun k => k = w.heap.size ∨ k = w.heap.size + 1) := by
  refine ⟨ht.1,fun b hb hx => ht.2.1 b hb (fun e => hx (.inl e)) (fun e => hx (.inr e)),hfree,ht.2.2.2.2,fun b arr T fr hx hh => ?_⟩
  rcases hx with rfl | rfl
  ·rw [hn] at hh;cases hh;exact ⟨_,ht.2.2.1,rfl⟩
  ·rw [hn1] at hh;cases hh;exact ⟨_,ht.2.2.2.1,rfl⟩
 have x1 : Ext G st.heap w G st.heap (tryW w) lo := Ext.grow hw hf1
 exact ⟨hf2.wr r1,(x1.trans x).foreign r1 hf2 (fun k hk => by omega)⟩
theorem try_frame (hw : WR Tryz.prog B0 w0 G st.heap w) {G' : Gh} {h' : List HObj} {w2 : World} {lo : Nat} (x : Ext G st.heap (tryW w) G' h' w2 lo) : w2.heap[w.heap.size]? = some (Obj.cells #[.int .i64 0,.int .i64 0,.int .i64 0] 31 (0,0)) ∧ w2.heap[w.heap.size + 1]? = some (Obj.cells #[.int .i64 0] 32 (0,0)) := by
 have hsz : (tryW w).heap.size = w.heap.size + 2 := by unfold tryW;rw [size_alloc,size_alloc]
 have key : ∀ k,w.heap.size ≤ k → k < w.heap.size + 2 → w2.heap[k]? = (tryW w).heap[k]? := fun k h1 h2 => x.frame (by omega) (fun l h => by have := (hw.obj h).2.1;omega) (fun t e h => by have := (hw.tag h).2.1;omega) (by
  cases h : G.cm k with
  | none => rfl
  | some n => have := hw.cmLt h;omega)
 refine ⟨?_,?_⟩
 ·rw [key _ (Nat.le_refl _) (by omega)]
  unfold tryW
  rw [heap_alloc_lt _ _ (by rw [size_alloc];omega),heap_alloc_new]
 ·rw [key _ (by omega) (by omega)]
  unfold tryW
  have := heap_alloc_new (w.alloc (.cells #[.int .i64 0,.int .i64 0,.int .i64 0] 31 (0,0))) (.cells #[.int .i64 0] 32 (0,0))
  rwa [size_alloc] at this
theorem enter79 : Enterable Tryz.prog 79 := ⟨_,Tryz.func79,by kernel_rfl,by kernel_rfl⟩
theorem try_ok (hs : SoundCall Tryz.prog B0 w0 rec) {dg : Nat} {da dc : List PV} (h : tryR rec (.func dg da dc) st = some (some (r,st'))) (hlo : st.lo ≤ st.heap.length) (hw : WR Tryz.prog B0 w0 G st.heap w) (ha : VRL G w [.func dg da dc] avs) : ∀ n,CallsIn Fence.wide n Tryz.prog 79 avs.toArray w (CallR Tryz.prog B0 w0 G st w r st') := by
 intro n
 obtain ⟨fv,vs',rfl,hv,h2⟩ := VRL.cons_iff.1 ha
 rw [VRL.nil_iff.1 h2]
 have hsz : (tryW w).heap.size = w.heap.size + 2 := by unfold tryW;rw [size_alloc,size_alloc]
 have hf1 : Foreign B0 G w (tryW w) (fun _ => False) := .grow (by omega) (fun b hb => by unfold tryW;rw [heap_alloc_lt _ _ (by rw [size_alloc];omega),heap_alloc_lt _ _ hb]) ⟨rfl,rfl⟩
 have hw1 := hf1.wr hw
 have hv1 := VR.mono (hf1.pres hw) hv
 have hva := hv
 simp only [VR] at hva
 obtain ⟨a',c',rfl,_,_⟩ := hva
 have key : ∀ (r2 : CR) (st2 : St) (a b c d : Int),rec.call (.func dg da dc) [] st = some (r2,st2) → (∀ w2 e,CallR Tryz.prog B0 w0 G st (tryW w) r2 st2 e w2 → ((∃ v,e = .returned v ∧ a = 0 ∧ b = 0 ∧ c = 0 ∧ d = 0) ∨ (e = .panicked [{ v := .iface 133 (.agg #[.int .i64 a,.int .i64 b,.int .i64 c]),recovered := false }] ∧ d = 7) ∨ (∃ t,e = .panicked [{ v := .iface 135 (.agg #[.string t]),recovered := false }] ∧ a = 0 ∧ b = 0 ∧ c = 0 ∧ d = 4))) →
   CallsIn Fence.wide n Tryz.prog 79 #[.func (.func dg) a' c'] w (CallR Tryz.prog B0 w0 G st w (.ret (.tuple [.agg [.int .i64 a,.int .i64 b,.int .i64 c],.int .i64 d])) st2) := by
  intro r2 st2 a b c d hcall hcase
  obtain ⟨_,hsnd⟩ := hs _ _ _ _ _ hcall hlo
  obtain ⟨hE,hC⟩ := hsnd G (tryW w) _ [] hw1 hv1 (VRL.nil_iff.2 rfl) a' c' rfl
  have hC1 := callsIn_wide.1 (hC 0)
  refine callsIn_wide.2 ((try_walk hE (Rd := fun w2 => ∃ G',WR Tryz.prog B0 w0 G' st2.heap w2 ∧ Ext G st.heap (tryW w) G' st2.heap w2 st2.lo) a b c d (hC1.mono ?_)).mono ?_)
  ·intro e w2 hR
   have hR' := hR
   obtain ⟨G',k1,k2,_⟩ := hR'
   exact ⟨hcase w2 e hR,⟨G',k1,k2⟩,try_frame hw k2⟩
  ·rintro e w' ⟨rfl,w2,⟨G',k1,k2⟩,ht⟩
   obtain ⟨f1,f2⟩ := try_frame hw k2
   obtain ⟨g1,g2⟩ := try_out hw k1 k2 f1 f2 ht
   refine ⟨G',g1,g2,_,rfl,?_⟩
   simp only [VR]
   exact ⟨_,rfl,VRL.cons (by simp only [VR];exact ⟨_,rfl,VRL.cons (by simp only [VR]) (VRL.cons (by simp only [VR]) (VRL.cons (by simp only [VR]) (VRL.nil_iff.2 rfl)))⟩) (VRL.cons (by simp only [VR]) (VRL.nil_iff.2 rfl))⟩
 unfold tryR at h
 split at h
 ·rename_i v st2 hcall
  simp only [Option.some.injEq,Prod.mk.injEq] at h
  obtain ⟨rfl,rfl⟩ := h
  exact key _ _ 0 0 0 0 hcall (fun w2 e hR => by
   obtain ⟨_,_,_,u,he,_⟩ := hR
   exact .inl ⟨u,he,rfl,rfl,rfl,rfl⟩)
 ·rename_i t v st2 hcall
  split at h
  ·rename_i a b c
   simp only [Option.some.injEq,Prod.mk.injEq] at h
   obtain ⟨rfl,rfl⟩ := h
   exact key _ _ a b c 7 hcall (fun w2 e hR => by
    obtain ⟨_,_,_,u,he,hu⟩ := hR
    simp only [VR] at hu
    obtain ⟨y,rfl,vs,rfl,hvs⟩ := hu
    have := ints3 (u := .agg vs) (by simp only [VR];exact ⟨vs,rfl,hvs⟩)
    rw [this] at he
    exact .inr (.inl ⟨he,rfl⟩))
  ·rename_i s
   simp only [Option.some.injEq,Prod.mk.injEq] at h
   obtain ⟨rfl,rfl⟩ := h
   exact key _ _ 0 0 0 4 hcall (fun w2 e hR => by
    obtain ⟨_,_,_,u,he,hu⟩ := hR
    simp only [VR] at hu
    obtain ⟨y,rfl,vs,rfl,hvs⟩ := hu
    have := str1 (u := .agg vs) (by simp only [VR];exact ⟨vs,rfl,hvs⟩)
    rw [this] at he
    exact .inr (.inr ⟨s,he,rfl,rfl,rfl,rfl⟩))
  ·cases h
 ·cases h
end
theorem primOK {B0 : Nat} {w0 : World} {m : Int} (hB : 1 < B0) (hm : w0.cell? ⟨1,0,none⟩ = some (.int .i64 m)) : PrimOK Tryz.prog B0 w0 EE := by
 intro g rec args st r st' _ _ hs _ hp hlo G w avs hw ha
 have hp : primT g rec args st = some (some (r,st')) := hp
 unfold primT at hp
 split at hp
 ·split at hp
  ·exact ⟨enter79,try_ok hs hp hlo hw ha⟩
  ·cases hp
 ·exact ⟨enter137,itoa_ok hp hw ha⟩
 ·exact ⟨enter138,join_ok hp hw ha⟩
 ·exact ⟨enter139,split_ok hB hm hp hw ha⟩
 ·cases hp
theorem primGrows : PrimGrows EE := by
 intro g rec args st r st' hg _ hp hlo
 have hp : primT g rec args st = some (some (r,st')) := hp
 unfold primT at hp
 split at hp
 ·split at hp
  ·unfold tryR at hp
   split at hp
   ·rename_i hcall
    simp only [Option.some.injEq,Prod.mk.injEq] at hp
    obtain ⟨rfl,rfl⟩ := hp
    exact hg _ _ _ _ _ hcall hlo
   ·rename_i hcall
    split at hp
    ·simp only [Option.some.injEq,Prod.mk.injEq] at hp
     obtain ⟨rfl,rfl⟩ := hp
     exact hg _ _ _ _ _ hcall hlo
    ·simp only [Option.some.injEq,Prod.mk.injEq] at hp
     obtain ⟨rfl,rfl⟩ := hp
     exact hg _ _ _ _ _ hcall hlo
    ·cases hp
   ·cases hp
  ·cases hp
 ·unfold itoaR at hp
  split at hp
  ·split at hp
   ·simp only [Option.some.injEq,Prod.mk.injEq] at hp
    obtain ⟨rfl,rfl⟩ := hp
    exact .refl _
   ·cases hp
  ·cases hp
 ·unfold joinR at hp
  split at hp
  ·split at hp
   ·split at hp
    ·simp only [Option.some.injEq,Prod.mk.injEq] at hp
     obtain ⟨rfl,rfl⟩ := hp
     exact .refl _
    ·cases hp
   ·cases hp
  ·cases hp
 ·unfold splitR at hp
  split at hp
  ·split at hp
   ·split at hp
    ·simp only [Option.some.injEq,Prod.mk.injEq] at hp
     obtain ⟨rfl,rfl⟩ := hp
     exact .refl _
    ·cases hp
   ·cases hp
  ·cases hp
 ·cases hp
end Go.Den.Ch
end
section
namespace Go.Den.Ch
open Go.Proofs
def mu0 : TypeId → Bool := fun _ => false
def mu39 : TypeId → Bool := fun t => t == 49
theorem en19 : funcC Tryz.prog mu0 Tryz.f19 = some den19 := by kernel_rfl
theorem en24 : funcC Tryz.prog mu0 Tryz.f24 = some den24 := by kernel_rfl
theorem en25 : funcC Tryz.prog mu0 Tryz.f25 = some den25 := by kernel_rfl
theorem en26 : funcC Tryz.prog mu0 Tryz.f26 = some den26 := by kernel_rfl
theorem en27 : funcC Tryz.prog mu0 Tryz.f27 = some den27 := by kernel_rfl
theorem en30 : funcC Tryz.prog mu0 Tryz.f30 = some den30 := by kernel_rfl
theorem en31 : funcC Tryz.prog mu0 Tryz.f31 = some den31 := by kernel_rfl
theorem en32 : funcC Tryz.prog mu0 Tryz.f32 = some den32 := by kernel_rfl
theorem en33 : funcC Tryz.prog mu0 Tryz.f33 = some den33 := by kernel_rfl
theorem en36 : funcC Tryz.prog mu0 Tryz.f36 = some den36 := by kernel_rfl
theorem en37 : funcC Tryz.prog mu0 Tryz.f37 = some den37 := by kernel_rfl
theorem en39 : funcC Tryz.prog mu39 Tryz.f39 = some den39 := by kernel_rfl
theorem en40 : funcC Tryz.prog mu0 Tryz.f40 = some den40 := by kernel_rfl
theorem en41 : funcC Tryz.prog mu0 Tryz.f41 = some den41 := by kernel_rfl
theorem en44 : funcC Tryz.prog mu0 Tryz.f44 = some den44 := by kernel_rfl
theorem en45 : funcC Tryz.prog mu0 Tryz.f45 = some den45 := by kernel_rfl
theorem en49 : funcC Tryz.prog mu0 Tryz.f49 = some den49 := by kernel_rfl
theorem en53 : funcC Tryz.prog mu0 Tryz.f53 = some den53 := by kernel_rfl
theorem en54 : funcC Tryz.prog mu0 Tryz.f54 = some den54 := by kernel_rfl
theorem en57 : funcC Tryz.prog mu0 Tryz.f57 = some den57 := by kernel_rfl
theorem en58 : funcC Tryz.prog mu0 Tryz.f58 = some den58 := by kernel_rfl
theorem en61 : funcC Tryz.prog mu0 Tryz.f61 = some den61 := by kernel_rfl
theorem en62 : funcC Tryz.prog mu0 Tryz.f62 = some den62 := by kernel_rfl
theorem en63 : funcC Tryz.prog mu0 Tryz.f63 = some den63 := by kernel_rfl
theorem en70 : funcC Tryz.prog mu0 Tryz.f70 = some den70 := by kernel_rfl
theorem en71 : funcC Tryz.prog mu0 Tryz.f71 = some den71 := by kernel_rfl
theorem en74 : funcC Tryz.prog mu0 Tryz.f74 = some den74 := by kernel_rfl
theorem en75 : funcC Tryz.prog mu0 Tryz.f75 = some den75 := by kernel_rfl
theorem en76 : funcC Tryz.prog mu0 Tryz.f76 = some den76 := by kernel_rfl
theorem en77 : funcC Tryz.prog mu0 Tryz.f77 = some den77 := by kernel_rfl
theorem en78 : funcC Tryz.prog mu0 Tryz.f78 = some den78 := by kernel_rfl
theorem en80 : funcC Tryz.prog mu0 Tryz.f80 = some den80 := by kernel_rfl
theorem en81 : funcC Tryz.prog mu0 Tryz.f81 = some den81 := by kernel_rfl
theorem en82 : funcC Tryz.prog mu0 Tryz.f82 = some den82 := by kernel_rfl
theorem en83 : funcC Tryz.prog mu0 Tryz.f83 = some den83 := by kernel_rfl
theorem en84 : funcC Tryz.prog mu0 Tryz.f84 = some den84 := by kernel_rfl
theorem en86 : funcC Tryz.prog mu0 Tryz.f86 = some den86 := by kernel_rfl
theorem en87 : funcC Tryz.prog mu0 Tryz.f87 = some den87 := by kernel_rfl
theorem en88 : funcC Tryz.prog mu0 Tryz.f88 = some den88 := by kernel_rfl
theorem en89 : funcC Tryz.prog mu0 Tryz.f89 = some den89 := by kernel_rfl
theorem en90 : funcC Tryz.prog mu0 Tryz.f90 = some den90 := by kernel_rfl
theorem en91 : funcC Tryz.prog mu0 Tryz.f91 = some den91 := by kernel_rfl
theorem en92 : funcC Tryz.prog mu0 Tryz.f92 = some den92 := by kernel_rfl
theorem en93 : funcC Tryz.prog mu0 Tryz.f93 = some den93 := by kernel_rfl
theorem en95 : funcC Tryz.prog mu0 Tryz.f95 = some den95 := by kernel_rfl
theorem en96 : funcC Tryz.prog mu0 Tryz.f96 = some den96 := by kernel_rfl
theorem en97 : funcC Tryz.prog mu0 Tryz.f97 = some den97 := by kernel_rfl
theorem en98 : funcC Tryz.prog mu0 Tryz.f98 = some den98 := by kernel_rfl
theorem en99 : funcC Tryz.prog mu0 Tryz.f99 = some den99 := by kernel_rfl
theorem en100 : funcC Tryz.prog mu0 Tryz.f100 = some den100 := by kernel_rfl
theorem en101 : funcC Tryz.prog mu0 Tryz.f101 = some den101 := by kernel_rfl
theorem en102 : funcC Tryz.prog mu0 Tryz.f102 = some den102 := by kernel_rfl
theorem en106 : funcC Tryz.prog mu0 Tryz.f106 = some den106 := by kernel_rfl
theorem en107 : funcC Tryz.prog mu0 Tryz.f107 = some den107 := by kernel_rfl
theorem en108 : funcC Tryz.prog mu0 Tryz.f108 = some den108 := by kernel_rfl
theorem en109 : funcC Tryz.prog mu0 Tryz.f109 = some den109 := by kernel_rfl
theorem en110 : funcC Tryz.prog mu0 Tryz.f110 = some den110 := by kernel_rfl
theorem en111 : funcC Tryz.prog mu0 Tryz.f111 = some den111 := by kernel_rfl
theorem en115 : funcC Tryz.prog mu0 Tryz.f115 = some den115 := by kernel_rfl
theorem en116 : funcC Tryz.prog mu0 Tryz.f116 = some den116 := by kernel_rfl
theorem en117 : funcC Tryz.prog mu0 Tryz.f117 = some den117 := by kernel_rfl
theorem en118 : funcC Tryz.prog mu0 Tryz.f118 = some den118 := by kernel_rfl
theorem en119 : funcC Tryz.prog mu0 Tryz.f119 = some den119 := by kernel_rfl
theorem en122 : funcC Tryz.prog mu0 Tryz.f122 = some den122 := by kernel_rfl
theorem en123 : funcC Tryz.prog mu0 Tryz.f123 = some den123 := by kernel_rfl
theorem en124 : funcC Tryz.prog mu0 Tryz.f124 = some den124 := by kernel_rfl
theorem en125 : funcC Tryz.prog mu0 Tryz.f125 = some den125 := by kernel_rfl
theorem en126 : funcC Tryz.prog mu0 Tryz.f126 = some den126 := by kernel_rfl
theorem en128 : funcC Tryz.prog mu0 Tryz.f128 = some den128 := by kernel_rfl
theorem en129 : funcC Tryz.prog mu0 Tryz.f129 = some den129 := by kernel_rfl
theorem en130 : funcC Tryz.prog mu0 Tryz.f130 = some den130 := by kernel_rfl
theorem en131 : funcC Tryz.prog mu0 Tryz.f131 = some den131 := by kernel_rfl
theorem en132 : funcC Tryz.prog mu0 Tryz.f132 = some den132 := by kernel_rfl
theorem en133 : funcC Tryz.prog mu0 Tryz.f133 = some den133 := by kernel_rfl
theorem en134 : funcC Tryz.prog mu0 Tryz.f134 = some den134 := by kernel_rfl
theorem en135 : funcC Tryz.prog mu0 Tryz.f135 = some den135 := by kernel_rfl
theorem en136 : funcC Tryz.prog mu0 Tryz.f136 = some den136 := by kernel_rfl
theorem en140 : funcC Tryz.prog mu0 Tryz.f140 = some den140 := by kernel_rfl
theorem en141 : funcC Tryz.prog mu0 Tryz.f141 = some den141 := by kernel_rfl
theorem en142 : funcC Tryz.prog mu0 Tryz.f142 = some den142 := by kernel_rfl
theorem en144 : funcC Tryz.prog mu0 Tryz.f144 = some den144 := by kernel_rfl
theorem en145 : funcC Tryz.prog mu0 Tryz.f145 = some den145 := by kernel_rfl
theorem en146 : funcC Tryz.prog mu0 Tryz.f146 = some den146 := by kernel_rfl
theorem en147 : funcC Tryz.prog mu0 Tryz.f147 = some den147 := by kernel_rfl
theorem en148 : funcC Tryz.prog mu0 Tryz.f148 = some den148 := by kernel_rfl
theorem en149 : funcC Tryz.prog mu0 Tryz.f149 = some den149 := by kernel_rfl
theorem en200 : funcC Tryz.prog mu0 Tryz.f200 = some den200 := by kernel_rfl
theorem en201 : funcC Tryz.prog mu0 Tryz.f201 = some den201 := by kernel_rfl
theorem en202 : funcC Tryz.prog mu0 Tryz.f202 = some den202 := by kernel_rfl
theorem en203 : funcC Tryz.prog mu0 Tryz.f203 = some den203 := by kernel_rfl
theorem en_of {g : Nat} {df df' : DFunc} {fn : Func} {mu : TypeId → Bool} (h : some df' = some df) (h1 : Tryz.prog.funcs[g]? = some fn) (h2 : funcC Tryz.prog mu fn = some df') (h3 : (fn.name == "runtime.NumGoroutine") = false) : ∃ fn mu,Tryz.prog.funcs[g]? = some fn ∧ funcC Tryz.prog mu fn = some df ∧ (fn.name == "runtime.NumGoroutine") = false := by
 cases h
 exact ⟨fn,mu,h1,h2,h3⟩
theorem envFn : EnvFn Tryz.prog EE := ⟨fun g df h => by
 have h : fnT g = some df := h
 unfold fnT at h
 split at h
 ·exact en_of h Tryz.func19 en19 (by kernel_rfl)
 ·exact en_of h Tryz.func24 en24 (by kernel_rfl)
 ·exact en_of h Tryz.func25 en25 (by kernel_rfl)
 ·exact en_of h Tryz.func26 en26 (by kernel_rfl)
 ·exact en_of h Tryz.func27 en27 (by kernel_rfl)
 ·exact en_of h Tryz.func30 en30 (by kernel_rfl)
 ·exact en_of h Tryz.func31 en31 (by kernel_rfl)
 ·exact en_of h Tryz.func32 en32 (by kernel_rfl)
 ·exact en_of h Tryz.func33 en33 (by kernel_rfl)
 ·exact en_of h Tryz.func36 en36 (by kernel_rfl)
 ·exact en_of h Tryz.func37 en37 (by kernel_rfl)
 ·exact en_of h Tryz.func39 en39 (by kernel_rfl)
 ·exact en_of h Tryz.func40 en40 (by kernel_rfl)
 ·exact en_of h Tryz.func41 en41 (by kernel_rfl)
 ·exact en_of h Tryz.func44 en44 (by kernel_rfl)
 ·exact en_of h Tryz.func45 en45 (by kernel_rfl)
 ·exact en_of h Tryz.func49 en49 (by kernel_rfl)
 ·exact en_of h Tryz.func53 en53 (by kernel_rfl)
 ·exact en_of h Tryz.func54 en54 (by kernel_rfl)
 ·exact en_of h Tryz.func57 en57 (by kernel_rfl)
 ·exact en_of h Tryz.func58 en58 (by kernel_rfl)
 ·exact en_of h Tryz.func61 en61 (by kernel_rfl)
 ·exact en_of h Tryz.func62 en62 (by kernel_rfl)
 ·exact en_of h Tryz.func63 en63 (by kernel_rfl)
 ·exact en_of h Tryz.func70 en70 (by kernel_rfl)
 ·exact en_of h Tryz.func71 en71 (by kernel_rfl)
 ·exact en_of h Tryz.func74 en74 (by kernel_rfl)
 ·exact en_of h Tryz.func75 en75 (by kernel_rfl)
 ·exact en_of h Tryz.func76 en76 (by kernel_rfl)
 ·exact en_of h Tryz.func77 en77 (by kernel_rfl)
 ·exact en_of h Tryz.func78 en78 (by kernel_rfl)
 ·exact en_of h Tryz.func80 en80 (by kernel_rfl)
 ·exact en_of h Tryz.func81 en81 (by kernel_rfl)
 ·exact en_of h Tryz.func82 en82 (by kernel_rfl)
 ·exact en_of h Tryz.func83 en83 (by kernel_rfl)
 ·exact en_of h Tryz.func84 en84 (by kernel_rfl)
 ·exact en_of h Tryz.func86 en86 (by kernel_rfl)
 ·exact en_of h Tryz.func87 en87 (by kernel_rfl)
 ·exact en_of h Tryz.func88 en88 (by kernel_rfl)
 ·exact en_of h Tryz.func89 en89 (by kernel_rfl)
 ·exact en_of h Tryz.func90 en90 (by kernel_rfl)
 ·exact en_of h Tryz.func91 en91 (by kernel_rfl)
 ·exact en_of h Tryz.func92 en92 (by kernel_rfl)
 ·exact en_of h Tryz.func93 en93 (by kernel_rfl)
 ·exact en_of h Tryz.func95 en95 (by kernel_rfl)
 ·exact en_of h Tryz.func96 en96 (by kernel_rfl)
 ·exact en_of h Tryz.func97 en97 (by kernel_rfl)
 ·exact en_of h Tryz.func98 en98 (by kernel_rfl)
 ·exact en_of h Tryz.func99 en99 (by kernel_rfl)
 ·exact en_of h Tryz.func100 en100 (by kernel_rfl)
 ·exact en_of h Tryz.func101 en101 (by kernel_rfl)
 ·exact en_of h Tryz.func102 en102 (by kernel_rfl)
 ·exact en_of h Tryz.func106 en106 (by kernel_rfl)
 ·exact en_of h Tryz.func107 en107 (by kernel_rfl)
 ·exact en_of h Tryz.func108 en108 (by kernel_rfl)
 ·exact en_of h Tryz.func109 en109 (by kernel_rfl)
 ·exact en_of h Tryz.func110 en110 (by kernel_rfl)
 ·exact en_of h Tryz.func111 en111 (by kernel_rfl)
 ·exact en_of h Tryz.func115 en115 (by kernel_rfl)
 ·exact en_of h Tryz.func116 en116 (by kernel_rfl)
 ·exact en_of h Tryz.func117 en117 (by kernel_rfl)
 ·exact en_of h Tryz.func118 en118 (by kernel_rfl)
 ·exact en_of h Tryz.func119 en119 (by kernel_rfl)
 ·exact en_of h Tryz.func122 en122 (by kernel_rfl)
 ·exact en_of h Tryz.func123 en123 (by kernel_rfl)
 ·exact en_of h Tryz.func124 en124 (by kernel_rfl)
 ·exact en_of h Tryz.func125 en125 (by kernel_rfl)
 ·exact en_of h Tryz.func126 en126 (by kernel_rfl)
 ·exact en_of h Tryz.func128 en128 (by kernel_rfl)
 ·exact en_of h Tryz.func129 en129 (by kernel_rfl)
 ·exact en_of h Tryz.func130 en130 (by kernel_rfl)
 ·exact en_of h Tryz.func131 en131 (by kernel_rfl)
 ·exact en_of h Tryz.func132 en132 (by kernel_rfl)
 ·exact en_of h Tryz.func133 en133 (by kernel_rfl)
 ·exact en_of h Tryz.func134 en134 (by kernel_rfl)
 ·exact en_of h Tryz.func135 en135 (by kernel_rfl)
 ·exact en_of h Tryz.func136 en136 (by kernel_rfl)
 ·exact en_of h Tryz.func140 en140 (by kernel_rfl)
 ·exact en_of h Tryz.func141 en141 (by kernel_rfl)
 ·exact en_of h Tryz.func142 en142 (by kernel_rfl)
 ·exact en_of h Tryz.func144 en144 (by kernel_rfl)
 ·exact en_of h Tryz.func145 en145 (by kernel_rfl)
 ·exact en_of h Tryz.func146 en146 (by kernel_rfl)
 ·exact en_of h Tryz.func147 en147 (by kernel_rfl)
 ·exact en_of h Tryz.func148 en148 (by kernel_rfl)
 ·exact en_of h Tryz.func149 en149 (by kernel_rfl)
 ·exact en_of h Tryz.func200 en200 (by kernel_rfl)
 ·exact en_of h Tryz.func201 en201 (by kernel_rfl)
 ·exact en_of h Tryz.func202 en202 (by kernel_rfl)
 ·exact en_of h Tryz.func203 en203 (by kernel_rfl)
 ·cases h⟩
theorem meth1 (v : Value) (w : World) : (method (Tryz.prog.types.size + Made.depth) 142 v "kelir/chest.kind").run Tryz.prog w = .ok (200,v) w := by kernel_rfl
theorem meth2 (v : Value) (w : World) : (method (Tryz.prog.types.size + Made.depth) 142 v "kelir/chest.numbers").run Tryz.prog w = .ok (201,v) w := by kernel_rfl
theorem meth3 (v : Value) (w : World) : (method (Tryz.prog.types.size + Made.depth) 144 v "kelir/chest.kind").run Tryz.prog w = .ok (202,v) w := by kernel_rfl
theorem meth4 (v : Value) (w : World) : (method (Tryz.prog.types.size + Made.depth) 144 v "kelir/chest.numbers").run Tryz.prog w = .ok (203,v) w := by kernel_rfl
theorem envOK : EnvOK Tryz.prog EE := ⟨fun t m f h v w => by
 have h : methT t m = some f := h
 unfold methT at h
 split at h
 ·split at h
  ·rename_i hm;subst hm;cases h;exact meth1 v w
  ·split at h
   ·rename_i hm;subst hm;cases h;exact meth2 v w
   ·cases h
 ·split at h
  ·rename_i hm;subst hm;cases h;exact meth3 v w
  ·split at h
   ·rename_i hm;subst hm;cases h;exact meth4 v w
   ·cases h
 ·cases h⟩
theorem follows : Tryz.prog.follows .mixedOrders = true := by kernel_rfl
end Go.Den.Ch
end

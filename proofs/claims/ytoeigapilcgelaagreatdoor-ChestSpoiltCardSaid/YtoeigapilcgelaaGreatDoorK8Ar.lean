/- Part of the proofs of laws of the package chest. Texts: ChV, ChW, ChX. -/
import Derived.Test.YtoeigapilcgelaaGreatDoorK8Aq
import Derived.Lib.Strings
import Derived.Test.YtoeigapilcgelaaGreatDoorK8Aj
set_option linter.unusedSimpArgs false
set_option linter.unusedVariables false
section
namespace Go.Den.Ch
theorem unB_toB (l : List UInt8) : unB (toB l) = l := rfl
theorem size_toB (l : List UInt8) : (toB l).size = l.length := rfl
theorem toList_toB (l : List UInt8) : (toB l).toList = l := by rw [ByteArray.toList_eq];rfl
theorem toB_append (a b : List UInt8) : toB a ++ toB b = toB (a ++ b) := by
 apply ByteArray.ext
 simp [toB]
theorem toB_lit (l : List UInt8) : (ByteArray.mk l.toArray) = toB l := rfl
theorem binS_add (a b : List UInt8) : binS .add (toB a) (toB b) = if a.length + b.length ≤ 1000000 then some (.str (toB (a ++ b))) else none := by
 simp only [binS,size_toB,toB_append]
theorem binS_eql (a b : List UInt8) : binS .eql (toB a) (toB b) = some (.bool (a == b)) := by
 simp only [binS,toList_toB]
theorem binS_neq (a b : List UInt8) : binS .neq (toB a) (toB b) = some (.bool (!(a == b))) := by
 simp only [binS,toList_toB]
attribute [go_sem] toB_lit binS_add binS_eql binS_neq size_toB
def chestW : List UInt8 := [99,104,101,115,116]
def figW : List UInt8 := [102,105,103,117,114,101]
theorem c149 (st : St) : Cl EE (.func 149 [] []) [] st (.ret (.agg [.str (toB chestW),.str (toB figW)])) st := by
 refine cl_fn (pr149 · _ _) fn149 0 rfl (by decide) (fun tm hl hg => ?_);clear hg
 refine go hl fnil ?_
 refine fnq_flat (results_one ?_) (by simp only [lo_push,lo_setVar];omega) (by rfl)
 rw [rdRes_hp (l := st.heap.length) (off := 0) (by simp only [go_sem,hl])]
 simp only [go_sem,hl]
 rfl
theorem c200 (v : PV) (cs : List PV) (hv : v = .agg cs) (st : St) : Cl EE (.func 200 [] []) [v] st (.ret (iv 0)) st := by
 subst hv
 refine cl_fn (pr200 · _ _) fn200 1 rfl (by decide) (fun tm hl hg => ?_);have h0 : tg tm 0 = .agg cs := (hg 0 (by decide));clear hg
 refine go (bw hl h0) fnil ?_
 refine fnq_flat (results_one (by rw [rdRes_tmp];simp only [go_sem,hl];first | done | rfl)) (by first | exact Nat.le_refl _ | omega | (simp only [lo_push,lo_setVar];omega)) (by rfl)
theorem c202 (v : PV) (cs : List PV) (hv : v = .agg cs) (st : St) : Cl EE (.func 202 [] []) [v] st (.ret (iv 1)) st := by
 subst hv
 refine cl_fn (pr202 · _ _) fn202 1 rfl (by decide) (fun tm hl hg => ?_);have h0 : tg tm 0 = .agg cs := (hg 0 (by decide));clear hg
 refine go (bw hl h0) fnil ?_
 refine fnq_flat (results_one (by rw [rdRes_tmp];simp only [go_sem,hl];first | done | rfl)) (by first | exact Nat.le_refl _ | omega | (simp only [lo_push,lo_setVar];omega)) (by rfl)
theorem c201 (c : CL) (F : PV) (st : St) : ClR EE (.func 201 [] []) [clPV c F] st (RetS st 1 2 ([c.room,c.depth].flatMap encI)) := by
 refine clr_fn (pr201 · _ _) fn201 1 rfl (by decide) (fun tm hl hg => ?_);have h0 : tg tm 0 = clPV c F := (hg 0 (by decide));clear hg
 refine go (bw hl h0) fnil ?_
 refine fnr_ret (v := .slice (.tag (st.heap.length + 1) 1) 2 [iv c.room,iv c.depth]) (results_one (by rw [rdRes_tmp];simp only [go_sem,hl])) (OwnS.finish (n := 2) (cs := [iv c.room,iv c.depth]) ⟨rfl,.inr ⟨_,rfl,by omega,by simp only [go_sem]⟩⟩ (by simp only [lo_push];omega) (fun m c hc => by
  simp only [List.mem_cons,List.not_mem_nil,or_false] at hc
  rcases hc with rfl | rfl <;> rfl))
theorem c203 (f : Fig) (st : St) : ClR EE (.func 203 [] []) [figPV f] st (RetS st 1 3 ([f.size,f.rank,f.eve].flatMap encI)) := by
 refine clr_fn (pr203 · _ _) fn203 1 rfl (by decide) (fun tm hl hg => ?_);have h0 : tg tm 0 = figPV f := (hg 0 (by decide));clear hg
 refine go (bw hl h0) fnil ?_
 refine fnr_ret (v := .slice (.tag (st.heap.length + 1) 1) 3 [iv f.size,iv f.rank,iv f.eve]) (results_one (by rw [rdRes_tmp];simp only [go_sem,hl])) (OwnS.finish (n := 3) (cs := [iv f.size,iv f.rank,iv f.eve]) ⟨rfl,.inr ⟨_,rfl,by omega,by simp only [go_sem]⟩⟩ (by simp only [lo_push];omega) (fun m c hc => by
  simp only [List.mem_cons,List.not_mem_nil,or_false] at hc
  rcases hc with rfl | rfl | rfl <;> rfl))
theorem c137 (n : Int) (h0 : 0 ≤ n) (h1 : n < 100) (st : St) : Cl EE (.func 137 [] []) [iv n] st (.ret (.str (toB (itoaL n.toNat)))) st := by
 refine ⟨1,fun k hk => ?_⟩
 obtain ⟨m,rfl⟩ : ∃ m,k = m + 1 := ⟨k - 1,by omega⟩
 show stepCall EE (run EE m) (.func 137 [] []) [iv n] st = _
 have h2 : EE.prim 137 (run EE m) ([] ++ [iv n] ++ []) st = itoaR st [iv n] := rfl
 simp only [stepCall,enter,h2,itoaR,h0,h1,and_self,if_true]
def rowL (w : List UInt8) (ns : List Int) : List UInt8 := ns.foldl (fun s n => s ++ (32 :: itoaL n.toNat)) w
theorem rowL_take (w : List UInt8) {ns : List Int} {i : Nat} (h : i < ns.length) : rowL w (ns.take (i + 1)) = rowL w (ns.take i) ++ (32 :: itoaL ns[i].toNat) := by
 rw [List.take_succ_eq_append_getElem h,rowL,List.foldl_append];rfl
theorem itoaL_len (n : Nat) : (itoaL n).length ≤ 2 := by unfold itoaL;split <;> simp
theorem rowL_len (w : List UInt8) (ns : List Int) : (rowL w ns).length ≤ w.length + 3 * ns.length := by
 unfold rowL
 induction ns generalizing w with
 | nil => simp
 | cons n ns ih =>
  have := ih (w ++ (32 :: itoaL n.toNat))
  have h2 := itoaL_len n.toNat
  simp only [List.foldl_cons,List.length_append,List.length_cons] at this ⊢
  omega
theorem wops_invoke {E : Env} {Q : Ex → List PV → St → Prop} {tm : List PV} {st : St} {x : Opd} {m : String} {args : List Opd} {dst : Option Nat} {g : Option (Nat × Bool)} {os : List DOper} {b : Bool} {t f : Nat} {v u : PV} {st1 : St} (hw : wants tm g = b) (hb : b = true) (hx : x.ev tm = .iface t v) (hm : E.meth t m = some f) (hc : Cl E (.func f [] []) (v :: evs tm args) st (.ret u) st1) (h : WOps E os Q (put tm dst u) st1) : WOps E (⟨.invoke x m args,dst,g⟩ :: os) Q tm st := by
 obtain ⟨N,hN⟩ := hc
 refine wops_cons (hw.trans hb) N (fun n hn => ?_) h
 simp only [stepOp,hx,hm,hN n hn]
theorem wops_invokeR {E : Env} {Q : Ex → List PV → St → Prop} {tm : List PV} {st : St} {x : Opd} {m : String} {args : List Opd} {dst : Option Nat} {g : Option (Nat × Bool)} {os : List DOper} {b : Bool} {t f : Nat} {v : PV} {P : PV → St → Prop} (hw : wants tm g = b) (hb : b = true) (hx : x.ev tm = .iface t v) (hm : E.meth t m = some f) (hc : ClR E (.func f [] []) (v :: evs tm args) st P) (h : ∀ u st1,P u st1 → WOps E os Q (put tm dst u) st1) : WOps E (⟨.invoke x m args,dst,g⟩ :: os) Q tm st := by
 obtain ⟨u,st1,h1,h2⟩ := hc
 exact wops_invoke hw hb hx hm h1 (h u st1 h2)
set_option maxHeartbeats 1000000 in
theorem c136 (t fk fn k : Nat) (v : PV) (w : List UInt8) (ns : List Int) (hk : EE.meth t "kelir/chest.kind" = some fk) (hn : EE.meth t "kelir/chest.numbers" = some fn) (hck : ∀ st,Cl EE (.func fk [] []) [v] st (.ret (iv k)) st) (hcn : ∀ st,ClR EE (.func fn [] []) [v] st (RetS st 1 ns.length (ns.flatMap encI)))
  (hw : (k = 0 ∧ w = chestW) ∨ (k = 1 ∧ w = figW)) (hns : ∀ n ∈ ns,0 ≤ n ∧ n < 100) (hl3 : ns.length ≤ 3) (st : St) : Cl EE (.func 136 [] []) [.iface t v] st (.ret (.str (toB (rowL w ns)))) st := by
 refine cl_fn (pr136 · _ _) fn136 1 rfl (by decide) (fun tm hl hg => ?_);have h0 : tg tm 0 = .iface t v := (hg 0 (by decide));clear hg
 refine go (bw hl h0) (bw c149 fnil) ?_
 refine wops_invoke rfl rfl (by simp only [go_sem,hl];first | done | rfl) hk (by simp only [go_sem,hl];exact hck _) ?_
 have hix : ∀ (tm : List PV) (st : St),tg tm 6 = .agg [.str (toB chestW),.str (toB figW)] → tg tm 8 = iv k → ∀ rec,stepOp EE rec tm st (.indexArr false 2 1 (.t 6) (.t 8)) = some (.val (.str (toB w)) st) := by
  intro tm st h6 h8 rec
  rcases hw with ⟨rfl,rfl⟩ | ⟨rfl,rfl⟩
  ·simp only [go_sem,op_indexArr,h6,h8];rfl
  ·simp only [go_sem,op_indexArr,h6,h8];rfl
 refine wops_one (v := .str (toB w)) rfl (hix _ _ (by simp only [go_sem,hl]) (by simp only [go_sem,hl])) ?_
 refine go (bw hl h0) fnil ?_
 refine wops_invokeR rfl rfl (by simp only [go_sem,hl,h0];first | done | rfl) hn (by simp only [go_sem,hl,h0];exact hcn _) ?_
 intro u st1 hR
 have hU := slI hR
 have hUs := hU.slen
 have r1 := hR.lo
 have hwl : w.length ≤ 6 := by rcases hw with ⟨_,rfl⟩ | ⟨_,rfl⟩ <;> decide
 simp only at r1
 refine go (bw hl hUs) fnil ?_
 refine wp_range ns.length [3] (fun i vs st' => vs = [.str (toB (rowL w (ns.take i)))] ∧ st' = st1) (by omega) (by simp only [go_sem,hl]) (by simp only [go_sem,hl]) (by simp only [go_sem,hl]) (by decide) ⟨by simp only [go_sem,hl];rfl,rfl⟩ ?_ ?_
 ·rintro i hi tm1 st2 ⟨hv,rfl⟩ hS hia
  simp only [List.map_cons,List.map_nil,List.cons.injEq,and_true] at hv
  have hl1 : tm1.length = 24 := (by rw [hS.1];simp only [put_len,hl]);have i11 : tg tm1 11 = u := (by rw [hS.2 11 (by decide)];simp only [go_sem,hl]);clear hS
  have hr := hns _ (List.getElem_mem hi)
  have hi2 := itoaL_len ns[i].toNat
  have hrl := rowL_len w (ns.take i)
  have htl : (ns.take i).length ≤ 3 := by simp;omega
  have o1 : (1 + (itoaL ns[i].toNat).length ≤ 1000000) = True := by simp only [eq_iff_iff,iff_true];omega
  have o2 : ((rowL w (ns.take i)).length + ((itoaL ns[i].toNat).length + 1) ≤ 1000000) = True := by simp only [eq_iff_iff,iff_true];omega
  refine go (bw6 hl1 i11 hia hv o1 o2) (bw c137 fnil) ?_
  rw [rowL_take w hi]
  exact ⟨by simp only [go_sem,hl1],rfl⟩
 ·rintro tm1 st2 ⟨hv,rfl⟩ hS
  simp only [List.map_cons,List.map_nil,List.cons.injEq,and_true,List.take_length] at hv
  have hl1 : tm1.length = 24 := (by rw [hS.1];simp only [put_len,hl]);clear hS
  refine go (bw hl1 hv) fnil ?_
  exact fnq_flat (results_one (by rw [rdRes_tmp];simp only [go_sem,hl1])) (by rw [r1];exact Nat.le_refl _) (by rfl)
end Go.Den.Ch
end
section
namespace Go.Den.Ch
def figRow (f : Fig) : List UInt8 := rowL figW [f.size,f.rank,f.eve]
def rowsL (c : CL) : List (List UInt8) := rowL chestW [c.room,c.depth] :: c.figs.map figRow
def rowSum (i : Nat) (r : List UInt8) : Nat → Nat
 | 0 => 0
 | k + 1 => rowSum i r k + (r.getD k 0).toNat * (k + 1) * (i + 1)
def allSum (rows : List (List UInt8)) : Nat → Nat
 | 0 => 0
 | i + 1 => allSum rows i + rowSum i (rows.getD i []) (rows.getD i []).length
def endW : List UInt8 := [101,110,100,32]
def endRow (rows : List (List UInt8)) (m : Nat) : List UInt8 := endW ++ itoaL (allSum rows rows.length % m / 100) ++ itoaL (allSum rows rows.length % m / 10 % 10) ++ itoaL (allSum rows rows.length % m % 10)
def sealL (rows : List (List UInt8)) (m : Nat) : List UInt8 := List.intercalate [10] (rows ++ [endRow rows m]) ++ [10]
def textL (c : CL) : List UInt8 := sealL (rowsL c) 211
theorem rowSum_bound {i : Nat} {r : List UInt8} (hi : i ≤ 200) : ∀ k,k ≤ 200 → rowSum i r k ≤ k * 12000000
 | 0,_ => by simp [rowSum]
 | k + 1,hk => by
  have := rowSum_bound (i := i) (r := r) hi k (by omega)
  have hb : (r.getD k 0).toNat ≤ 255 := by have := (r.getD k 0).toNat_lt;omega
  have h1 : (r.getD k 0).toNat * (k + 1) ≤ 255 * 200 := Nat.mul_le_mul hb (by omega)
  have h2 : (r.getD k 0).toNat * (k + 1) * (i + 1) ≤ 255 * 200 * 201 := Nat.mul_le_mul h1 (by omega)
  simp only [rowSum]
  omega
theorem allSum_bound {rows : List (List UInt8)} (h : ∀ r ∈ rows,r.length ≤ 200) : ∀ i,i ≤ 200 → allSum rows i ≤ i * 2400000000
 | 0,_ => by simp [allSum]
 | i + 1,hi => by
  have h0 := allSum_bound h i (by omega)
  have hl : (rows.getD i []).length ≤ 200 := by
   rw [List.getD_eq_getElem?_getD]
   cases hr : rows[i]? with
   | none => simp
   | some r => exact h r (List.mem_of_getElem? hr)
  have h1 := rowSum_bound (i := i) (r := rows.getD i []) (by omega) _ hl
  have h2 : (rows.getD i []).length * 12000000 ≤ 200 * 12000000 := Nat.mul_le_mul_right _ hl
  simp only [allSum]
  omega
theorem getElem?_toB (l : List UInt8) (k : Nat) (hk : k < l.length) : (toB l)[k]? = some l[k] := by
 have h : k < (toB l).size := hk
 rw [getElem?_pos (toB l) k h]
 rfl
theorem op_indexStr {E : Env} {rec : Rec} {tm : List PV} {st : St} {x i : Opd} : stepOp E rec tm st (.indexStr x i) = match x.ev tm,i.ev tm with
  | .str s,.int _ i => if 0 ≤ i then (s[i.toNat]?).map (fun b => .val (.int .u8 b.toNat) st) else none
  | _,_ => none := rfl
theorem strs_enc : ∀ l : List (List UInt8),strs (l.flatMap encS) = some (l.map toB)
 | [] => rfl
 | s :: l => by rw [List.flatMap_cons];simp only [encS,List.singleton_append,strs,strs_enc l,Option.map_some,List.map_cons]
theorem c138 (v : PV) (l : List (List UInt8)) (sep : List UInt8) (hv : SlOf 1 encS v l) (hne : l ≠ []) (hl : l.length ≤ 1000) (hs : sep.length ≤ 1000) (hb : ∀ s ∈ l,s.length ≤ 1000) (st : St) : Cl EE (.func 138 [] []) [v,.str (toB sep)] st (.ret (.str (toB (List.intercalate sep l)))) st := by
 refine ⟨1,fun k hk => ?_⟩
 obtain ⟨m,rfl⟩ : ∃ m,k = m + 1 := ⟨k - 1,by omega⟩
 show stepCall EE (run EE m) (.func 138 [] []) [v,.str (toB sep)] st = _
 have h2 : EE.prim 138 (run EE m) ([] ++ [v,.str (toB sep)] ++ []) st = joinR st [v,.str (toB sep)] := rfl
 have h1 := hv.sl
 have h3 : joinR st [v,.str (toB sep)] = some (some (.ret (.str (toB (List.intercalate sep l))),st)) := by
  cases v <;> simp only [PV.sl,Option.some.injEq,Prod.mk.injEq,reduceCtorEq] at h1
  ·obtain ⟨rfl,rfl⟩ := h1
   simp only [joinR,strs_enc,size_toB,unB_toB,List.map_map]
   have e1 : l.map (unB ∘ toB) = l := by
    have : (unB ∘ toB) = id := by funext x;rfl
    rw [this,List.map_id]
   rw [if_pos,e1]
   refine ⟨?_,hl,hs,?_⟩
   ·rw [flatMap_len (sz := 1) (fun _ _ => rfl)];omega
   ·rw [List.all_eq_true]
    intro s hs
    simp only [List.mem_map] at hs
    obtain ⟨x,hx,rfl⟩ := hs
    exact decide_eq_true (hb x hx)
  ·exact absurd (List.eq_nil_of_length_eq_zero h1.1.symm) hne
 simp only [stepCall,enter,h2,h3]
theorem inter_len (b : Nat) : ∀ l : List (List UInt8),(∀ s ∈ l,s.length ≤ b) → (List.intercalate [10] l).length ≤ l.length * (b + 1)
 | [],_ => by simp [List.intercalate]
 | [x],h => by
  have := h x (by simp)
  simp [List.intercalate];omega
 | x :: y :: l,h => by
  have h1 := inter_len b (y :: l) (fun s hs => h s (by simp [hs]))
  have h2 := h x (by simp)
  have e : List.intercalate [10] (x :: y :: l) = x ++ ([10] ++ List.intercalate [10] (y :: l)) := by simp [List.intercalate]
  rw [e]
  simp only [List.length_append,List.length_cons,List.length_nil] at h1 ⊢
  have e2 : (l.length + 1 + 1) * (b + 1) = (l.length + 1) * (b + 1) + (b + 1) := Nat.succ_mul _ _
  omega
theorem wops_add {E : Env} {Q : Ex → List PV → St → Prop} {tm : List PV} {st : St} {x y : Opd} {dst : Option Nat} {g : Option (Nat × Bool)} {os : List DOper} {b : Bool} {s t : List UInt8} (hw : wants tm g = b) (hb : b = true) (hx : x.ev tm = .str (toB s)) (hy : y.ev tm = .str (toB t)) (hl : s.length + t.length ≤ 1000000) (h : WOps E os Q (put tm dst (.str (toB (s ++ t)))) st) : WOps E (⟨.binS .add x y,dst,g⟩ :: os) Q tm st :=
 wops_one (hw.trans hb) (fun rec => by simp only [op_binS,hx,hy,binS_add,hl,if_true,Option.map_some]) h
structure OkW (c : CL) : Prop where
 room : 0 ≤ c.room ∧ c.room < 100
 depth : 0 ≤ c.depth ∧ c.depth < 100
 figs : ∀ f ∈ c.figs,(0 ≤ f.size ∧ f.size < 100) ∧ (0 ≤ f.rank ∧ f.rank < 100) ∧ (0 ≤ f.eve ∧ f.eve < 100)
 len : c.figs.length ≤ 150
theorem OkW.of {c : CL} (h : listB c = true) : OkW c := by
 simp only [listB,inB,Bool.and_eq_true,decide_eq_true_eq,List.all_eq_true] at h
 refine ⟨by omega,by omega,fun f hf => ?_,by omega⟩
 have := h.2.2.2 f hf
 simp only [figB,inB,Bool.and_eq_true,decide_eq_true_eq] at this
 omega
theorem rowsL_len (c : CL) : ∀ r ∈ rowsL c,r.length ≤ 15 := by
 intro r hr
 simp only [rowsL,List.mem_cons,List.mem_map] at hr
 rcases hr with rfl | ⟨f,hf,rfl⟩
 ·have := rowL_len chestW [c.room,c.depth];simp [chestW] at this ⊢;omega
 ·have := rowL_len figW [f.size,f.rank,f.eve];simp [figW,figRow] at this ⊢;omega
theorem c136h (c : CL) (F : PV) (hr : 0 ≤ c.room ∧ c.room < 100) (hd : 0 ≤ c.depth ∧ c.depth < 100) (st : St) : Cl EE (.func 136 [] []) [.iface 142 (clPV c F)] st (.ret (.str (toB (rowL chestW [c.room,c.depth])))) st :=
 c136 142 200 201 0 (clPV c F) chestW [c.room,c.depth] rfl rfl (fun st => c200 _ _ rfl st) (fun st => c201 c F st) (.inl ⟨rfl,rfl⟩) (by simp;exact ⟨hr,hd⟩) (by simp) st
theorem c136f (f : Fig) (h : (0 ≤ f.size ∧ f.size < 100) ∧ (0 ≤ f.rank ∧ f.rank < 100) ∧ (0 ≤ f.eve ∧ f.eve < 100)) (st : St) : Cl EE (.func 136 [] []) [.iface 144 (figPV f)] st (.ret (.str (toB (figRow f)))) st :=
 c136 144 202 203 1 (figPV f) figW [f.size,f.rank,f.eve] rfl rfl (fun st => c202 _ _ rfl st) (fun st => c203 f st) (.inr ⟨rfl,rfl⟩) (by simp;exact h) (by simp) st
theorem encS_cell : ∀ l : List (List UInt8),(l.flatMap encS).all PV.isCell = true
 | [] => rfl
 | f :: l => by rw [List.flatMap_cons,List.all_append,encS_cell l];rfl
attribute [go_sem] encS
set_option maxHeartbeats 8000000 in
theorem c115 (c : CL) (F : PV) (hF : SlOf 3 encF F c.figs) (hc : OkW c) (st : St) : Cl EE (.func 115 [] []) [clPV c F] st (.ret (.str (toB (textL c)))) st := by
 have hFc := hF.cells
 have hFi := hF.isCell
 have hFs := hF.slen
 have hlen := hc.len
 refine cl_fn (pr115 · _ _) fn115 1 rfl (by decide) (fun tm hl hg => ?_);have h0 : tg tm 0 = clPV c F := (hg 0 (by decide));clear hg
 refine go (bw3 hl h0 hFs) (bw (c136h c F hc.room hc.depth) fnil) ?_
 refine wp_range c.figs.length [3] (fun i vs st' => ∃ v,vs = [v] ∧ OwnS st.heap.length st' 1 v ((rowsL c).take (i + 1)).length (((rowsL c).take (i + 1)).flatMap encS) ∧ st.heap.length ≤ st'.lo ∧ st'.lo ≤ st'.heap.length) (by omega) (by simp only [go_sem,hl]) (by simp only [go_sem,hl]) (by simp only [go_sem,hl]) (by decide) ⟨_,by simp only [go_sem,hl];rfl,⟨by simp [rowsL,encS],.inr ⟨st.heap.length + 1,by simp [rowsL,encS],by omega,by simp only [go_sem]⟩⟩,by simp [lo_push],by simp only [lo_push,len_push];omega⟩ ?_ ?_
 ·rintro i hi tm1 st1 ⟨v,hv,hO,hlo,hwf⟩ hS hia
  simp only [List.map_cons,List.map_nil,List.cons.injEq,and_true] at hv
  have hl1 : tm1.length = 77 := (by rw [hS.1];simp only [put_len,hl]);have i16 : tg tm1 16 = F := (by rw [hS.2 16 (by decide)];simp only [go_sem,hl]);clear hS
  have hf := hc.figs _ (List.getElem_mem hi)
  have hrl : (rowsL c).length = c.figs.length + 1 := by simp [rowsL]
  have hll : ((rowsL c).take (i + 1)).length = i + 1 := by simp [hrl];omega
  refine go (bw4 hl1 i16 hia hv) (bw (c136f _ hf) fnil) ?_
  refine wops_append rfl rfl (by simp only [go_sem,hl1,hv];first | done | rfl) (by simp only [go_sem,hl1,hv];first | done | rfl) ((hO.push.setVar (by simp [hp_push])).push) rfl (by first | omega | (simp only [len_push,len_setVar];omega)) (by rfl) (by rfl) (by simp only [maxList];omega) ?_
  intro v' st2 hO' hFr hk
  have f1 := hFr.lo
  have f2 := hFr.up
  have f3 := hFr.len
  simp only [lo_push,lo_setVar,len_push,len_setVar] at f1 f2 f3
  refine go hl1 fnil ?_
  refine ⟨v',by simp only [go_sem,hl1],?_,by omega,by omega⟩
  have hn1 : i + 1 < (rowsL c).length := by omega
  rw [List.take_succ_eq_append_getElem hn1]
  have hri : (rowsL c)[i + 1] = figRow c.figs[i] := by simp [rowsL]
  rw [hri]
  simpa [share_str,encS] using hO'
 ·rintro tm1 st1 ⟨v,hv,hO,hlo,hwf⟩ hS
  simp only [List.map_cons,List.map_nil,List.cons.injEq,and_true] at hv
  have hrl : (rowsL c).length = c.figs.length + 1 := by simp [rowsL]
  rw [← hrl,List.take_length] at hO
  have hl1 : tm1.length = 77 := (by rw [hS.1];simp only [put_len,hl]);clear hS
  have hV : SlOf 1 encS v (rowsL c) := SlOf.of_sl hO.sl rfl rfl (fun _ => rfl)
  have hVs := hV.slen
  have hrows := rowsL_len c
  refine go (bw3 hl1 hv hVs) fnil ?_
  have hab := allSum_bound (rows := rowsL c) (fun r hr => by have := hrows r hr;omega)
  refine wp_range (rowsL c).length [6] (fun i vs st' => vs = [iv (allSum (rowsL c) i)] ∧ st' = st1) (by omega) (by simp only [go_sem,hl1]) (by simp only [go_sem,hl1]) (by simp only [go_sem,hl1]) (by decide) ⟨by simp only [go_sem,hl1];rfl,rfl⟩ ?_ ?_
  ·rintro i hi tm2 st2 ⟨hv6,rfl⟩ hS hia
   simp only [List.map_cons,List.map_nil,List.cons.injEq,and_true] at hv6
   have hl2 : tm2.length = 77 := (by rw [hS.1];simp only [put_len,hl1]);have i30 : tg tm2 30 = v := (by rw [hS.2 30 (by decide)];simp only [go_sem,hl1,hv]);clear hS
   have hri := hrows _ (List.getElem_mem hi)
   have hgi : (rowsL c).getD i [] = (rowsL c)[i] := by rw [List.getD_eq_getElem?_getD,List.getElem?_eq_getElem hi];rfl
   have habi := hab i (by omega)
   refine go (bw3 hl2 i30 hia) fnil ?_
   refine wp_range (rowsL c)[i].length [6] (fun k vs st' => vs = [iv ((allSum (rowsL c) i + rowSum i (rowsL c)[i] k : Nat) : Int)] ∧ st' = st2) (by omega) (by simp only [go_sem,hl2]) (by simp only [go_sem,hl2]) (by simp only [go_sem,hl2]) (by decide) ⟨by simp only [go_sem,hl2,hv6];rfl,rfl⟩ ?_ ?_
   ·rintro k hk tm3 st3 ⟨hw6,rfl⟩ hS hka
    simp only [List.map_cons,List.map_nil,List.cons.injEq,and_true] at hw6
    have hl3 : tm3.length = 77 := (by rw [hS.1];simp only [put_len,hl2]);have k7 : tg tm3 7 = iv i := (by rw [hS.2 7 (by decide)];simp only [go_sem,hl2,hia]);have k8 : tg tm3 8 = .str (toB (rowsL c)[i]) := (by rw [hS.2 8 (by decide)];simp only [go_sem,hl2,hia]);clear hS
    have hgk : (rowsL c)[i].getD k 0 = (rowsL c)[i][k] := by rw [List.getD_eq_getElem?_getD,List.getElem?_eq_getElem hk];rfl
    have hix := getElem?_toB (rowsL c)[i] k hk
    have hrb := rowSum_bound (i := i) (r := (rowsL c)[i]) (by omega) (k + 1) (by omega)
    generalize hbd : (rowsL c)[i][k] = b at hix hgk
    have hb255 : b.toNat < 256 := b.toNat_lt
    have hk0 : ((0 : Int) ≤ (k : Int)) = True := by simp
    have w46 : IntKind.wrap .i64 (b.toNat : Int) = (b.toNat : Int) := wrap_nat (by omega)
    have w48 : IntKind.wrap .i64 ((k : Int) + 1) = ((k + 1 : Nat) : Int) := wrap_nat (n := k + 1) (by omega)
    have w51 : IntKind.wrap .i64 ((i : Int) + 1) = ((i + 1 : Nat) : Int) := wrap_nat (n := i + 1) (by omega)
    have b1 : b.toNat * (k + 1) ≤ 255 * 16 := Nat.mul_le_mul (by omega) (by omega)
    have b2 : b.toNat * (k + 1) * (i + 1) ≤ 255 * 16 * 151 := Nat.mul_le_mul b1 (by omega)
    have w49 : IntKind.wrap .i64 ((b.toNat : Int) * ((k + 1 : Nat) : Int)) = ((b.toNat * (k + 1) : Nat) : Int) := by rw [← Int.natCast_mul];exact wrap_nat (by omega)
    have w52 : IntKind.wrap .i64 (((b.toNat * (k + 1) : Nat) : Int) * ((i + 1 : Nat) : Int)) = ((b.toNat * (k + 1) * (i + 1) : Nat) : Int) := by rw [← Int.natCast_mul];exact wrap_nat (by omega)
    have e53 : allSum (rowsL c) i + rowSum i (rowsL c)[i] (k + 1) = allSum (rowsL c) i + rowSum i (rowsL c)[i] k + b.toNat * (k + 1) * (i + 1) := by simp only [rowSum,hgk];omega
    have w53 : IntKind.wrap .i64 (((allSum (rowsL c) i + rowSum i (rowsL c)[i] k : Nat) : Int) + ((b.toNat * (k + 1) * (i + 1) : Nat) : Int)) = ((allSum (rowsL c) i + rowSum i (rowsL c)[i] (k + 1) : Nat) : Int) := by
     rw [← Int.natCast_add,← e53];exact wrap_nat (by omega)
    refine go (bw15 hl3 k7 k8 hka hw6 @op_indexStr hk0 Int.toNat_natCast hix w46 w48 w49 w51 w52 w53) fnil ?_
    exact ⟨by simp only [go_sem,hl3],rfl⟩
   ·rintro tm3 st3 ⟨hw6,rfl⟩ hS
    simp only [List.map_cons,List.map_nil,List.cons.injEq,and_true] at hw6
    have hl3 : tm3.length = 77 := (by rw [hS.1];simp only [put_len,hl2]);clear hS
    refine go hl3 fnil ?_
    refine ⟨?_,rfl⟩
    simp only [go_sem,hl3,hw6]
    simp only [allSum,hgi]
  ·rintro tm2 st2 ⟨hv6,rfl⟩ hS
   simp only [List.map_cons,List.map_nil,List.cons.injEq,and_true] at hv6
   have hl2 : tm2.length = 77 := (by rw [hS.1];simp only [put_len,hl1]);have i3 : tg tm2 3 = v := (by rw [hS.2 3 (by decide)];simp only [go_sem,hl1,hv]);clear hS
   have habn := hab (rowsL c).length (by omega)
   have er : endRow (rowsL c) 211 = endW ++ itoaL (allSum (rowsL c) (rowsL c).length % 211 / 100) ++ itoaL (allSum (rowsL c) (rowsL c).length % 211 / 10 % 10) ++ itoaL (allSum (rowsL c) (rowsL c).length % 211 % 10) := rfl
   generalize hAd : allSum (rowsL c) (rowsL c).length = A at hv6 habn er
   have w57 : Int.tmod (A : Int) 211 = ((A % 211 : Nat) : Int) := by rw [Int.natCast_emod];exact Int.tmod_eq_emod_of_nonneg (by omega)
   have hC : A % 211 < 211 := Nat.mod_lt _ (by omega)
   generalize hCd : A % 211 = C at w57 hC er
   have w60 : IntKind.wrap .i64 (Int.tdiv (C : Int) 100) = ((C / 100 : Nat) : Int) := by rw [Int.tdiv_eq_ediv_of_nonneg (by omega)];exact wrap_nat (n := C / 100) (by omega)
   have w64 : IntKind.wrap .i64 (Int.tdiv (C : Int) 10) = ((C / 10 : Nat) : Int) := by rw [Int.tdiv_eq_ediv_of_nonneg (by omega)];exact wrap_nat (n := C / 10) (by omega)
   have w65 : Int.tmod ((C / 10 : Nat) : Int) 10 = ((C / 10 % 10 : Nat) : Int) := by rw [Int.natCast_emod];exact Int.tmod_eq_emod_of_nonneg (by omega)
   have w69 : Int.tmod (C : Int) 10 = ((C % 10 : Nat) : Int) := by rw [Int.natCast_emod];exact Int.tmod_eq_emod_of_nonneg (by omega)
   have hz : ((211 : Int) = 0) = False := by simp
   have hz2 : ((100 : Int) = 0) = False := by simp
   have hz3 : ((10 : Int) = 0) = False := by simp
   refine go (bw11 hl2 i3 hv6 w57 w60 w64 w65 w69 hz hz2 hz3) (bw c137 fnil) ?_
   have i1 := itoaL_len (C / 100)
   have i2 := itoaL_len (C / 10 % 10)
   have i4 := itoaL_len (C % 10)
   have i5 : endW.length = 4 := rfl
   refine wops_add (s := endW) rfl rfl (by simp only [go_sem,hl2];first | done | rfl) (by simp only [go_sem,hl2,Int.toNat_natCast];first | done | rfl) (by first | omega | (simp only [List.length_append,List.length_cons,List.length_nil];omega)) ?_
   refine go (bw10 hl2 hv6 w57 w60 w64 w65 w69 hz hz2 hz3) (bw c137 fnil) ?_
   refine wops_add rfl rfl (by simp only [go_sem,hl2];first | done | rfl) (by simp only [go_sem,hl2,Int.toNat_natCast];first | done | rfl) (by first | omega | (simp only [List.length_append,List.length_cons,List.length_nil];omega)) ?_
   refine go (bw10 hl2 hv6 w57 w60 w64 w65 w69 hz hz2 hz3) (bw c137 fnil) ?_
   refine wops_add rfl rfl (by simp only [go_sem,hl2];first | done | rfl) (by simp only [go_sem,hl2,Int.toNat_natCast];first | done | rfl) (by first | omega | (simp only [List.length_append,List.length_cons,List.length_nil];omega)) ?_
   refine go hl2 fnil ?_
   have erl : (endRow (rowsL c) 211).length ≤ 10 := by rw [er];simp [endW];omega
   rw [← er]
   generalize hRd : endRow (rowsL c) 211 = R at erl
   have ht : textL c = List.intercalate [10] (rowsL c ++ [R]) ++ [10] := by rw [textL,sealL,hRd]
   rw [ht]
   refine wops_append rfl rfl (by simp only [go_sem,hl2];first | done | rfl) (by simp only [go_sem,hl2];first | done | rfl) (hO.push) rfl (by first | omega | (simp only [len_push,len_setVar];omega)) (by rfl) (by rfl) (by simp only [maxList];omega) ?_
   intro v' st3 hO' hFr hk
   have f1 := hFr.lo
   have f2 := hFr.up
   have f3 := hFr.len
   simp only [lo_push,len_push] at f1 f2 f3
   have hV' : SlOf 1 encS v' (rowsL c ++ [R]) := SlOf.of_sl hO'.sl (by simp) (by simp [share_str,encS]) (fun _ => rfl)
   have hjoin := c138 v' (rowsL c ++ [R]) [10] hV' (by simp) (by simp;omega) (by simp) (fun s hs => by
    rcases List.mem_append.1 hs with h | h
    ·have := hrows s h;omega
    ·simp only [List.mem_singleton] at h;subst h;omega) st3
   refine go hl2 (bw hjoin fnil) ?_
   have hil := inter_len 15 (rowsL c ++ [R]) (fun s hs => by
    rcases List.mem_append.1 hs with h | h
    ·exact hrows s h
    ·simp only [List.mem_singleton] at h;subst h;omega)
   have hil2 : (rowsL c ++ [R]).length ≤ 152 := by simp;omega
   have hil3 : (rowsL c ++ [R]).length * 16 ≤ 152 * 16 := Nat.mul_le_mul_right _ hil2
   refine wops_add (s := List.intercalate [10] (rowsL c ++ [R])) (t := [10]) rfl rfl (by simp only [go_sem,hl2];first | done | rfl) (by simp only [go_sem,hl2];first | done | rfl) (by simp only [List.length_cons,List.length_nil];omega) ?_
   refine go hl2 fnil ?_
   refine fnq_flat (results_one (by rw [rdRes_tmp];simp only [go_sem,hl2];first | done | rfl)) (by omega) (by rfl)
end Go.Den.Ch
end
section
namespace Go.Den.Ch
def noneX (s : ByteArray) : PV := .iface 135 (.agg [.str s])
theorem c140 (b : Bool) (s : ByteArray) (st : St) (hwf : st.lo ≤ st.heap.length) : ClA EE (.func 140 [] []) [.bool b,.str s] st (fun r st' => st' = st ∧ ((b = true ∧ r = .ret (.tuple [])) ∨ (b = false ∧ r = .panic (noneX s)))) := by
 refine cla_fn (pr140 · _ _) fn140 2 rfl (by decide) (fun tm hl hg => ?_);have h0 : tg tm 0 = .bool b := (hg 0 (by decide));have h1 : tg tm 1 = .str s := (hg 1 (by decide));clear hg
 cases b
 ·refine go (bw3 hl h0 h1) fnil ?_
  refine fna_panic ⟨?_,.inr ⟨rfl,rfl⟩⟩
  simp only [Nat.min_eq_left hwf]
 ·refine go (bw3 hl h0 h1) fnil ?_
  refine fna_normal results_nil ?_
  rw [finish_tuple (Nat.le_refl _) (by rfl)]
  exact ⟨rfl,.inl ⟨rfl,rfl⟩⟩
theorem c140_ok (s : ByteArray) (st : St) : Cl EE (.func 140 [] []) [.bool true,.str s] st (.ret (.tuple [])) st := by
 refine cl_fn (pr140 · _ _) fn140 2 rfl (by decide) (fun tm hl hg => ?_);have h0 : tg tm 0 = .bool true := (hg 0 (by decide));have h1 : tg tm 1 = .str s := (hg 1 (by decide));clear hg
 refine go (bw3 hl h0 h1) fnil ?_
 exact fnq_tuple' results_nil (Nat.le_refl _) (by rfl)
theorem c139 (s : List UInt8) (b : UInt8) (hs : s.length ≤ 100000) (st : St) : Cl EE (.func 139 [] []) [.str (toB s),.str (toB [b])] st (.ret (.slice .shared (splitL b [] s).length ((splitL b [] s).flatMap encS))) st := by
 refine ⟨1,fun k hk => ?_⟩
 obtain ⟨m,rfl⟩ : ∃ m,k = m + 1 := ⟨k - 1,by omega⟩
 show stepCall EE (run EE m) (.func 139 [] []) [.str (toB s),.str (toB [b])] st = _
 have h2 : EE.prim 139 (run EE m) ([] ++ [.str (toB s),.str (toB [b])] ++ []) st = splitR st [.str (toB s),.str (toB [b])] := rfl
 have h3 : splitR st [.str (toB s),.str (toB [b])] = some (some (.ret (.slice .shared (splitL b [] s).length ((splitL b [] s).flatMap encS)),st)) := by
  simp only [splitR,unB_toB,size_toB,hs,if_true]
 simp only [stepCall,enter,h2,h3]
theorem splitSl (b : UInt8) (s : List UInt8) : SlOf 1 encS (.slice .shared (splitL b [] s).length ((splitL b [] s).flatMap encS)) (splitL b [] s) := ⟨rfl,fun _ _ => rfl⟩
def isDig (b : UInt8) : Bool := decide (48 ≤ b.toNat) && decide (b.toNat ≤ 57)
def valL (x : List UInt8) : Nat := x.foldl (fun n b => 10 * n + (b.toNat - 48)) 0
def numB (x : List UInt8) : Bool := x.all isDig && (decide (x.length ≤ 2) && (!(x == []) && itoaL (valL x) == x))
def numsL : List (List UInt8) → Option (List Int)
 | [] => some []
 | x :: xs => if numB x then (numsL xs).map ((valL x : Int) :: ·) else none
def kindW (k : Nat) : List UInt8 := if k = 0 then chestW else figW
def toldL (row : List UInt8) (k many : Nat) : Option (List Int) :=
 if (splitL 32 [] row).length = many + 1 ∧ (splitL 32 [] row).head? = some (kindW k) then numsL (splitL 32 [] row).tail else none
theorem numsL_snoc (l : List (List UInt8)) (x : List UInt8) : numsL (l ++ [x]) = (numsL l).bind fun ns => if numB x then some (ns ++ [(valL x : Int)]) else none := by
 induction l with
 | nil => simp [numsL]
 | cons y l ih =>
  simp only [List.cons_append,numsL,ih]
  cases numB y
  ·simp
  ·cases numsL l with
   | none => simp
   | some ns => cases numB x <;> simp
theorem numsL_bad (l : List (List UInt8)) {j : Nat} (hj : j < l.length) (h : numB l[j] = false) : numsL l = none := by
 induction l generalizing j with
 | nil => simp at hj
 | cons y l ih =>
  simp only [numsL]
  cases j with
  | zero => simp only [List.getElem_cons_zero] at h;simp [h]
  | succ j =>
   simp only [List.getElem_cons_succ] at h
   rw [ih (by simpa using hj) h]
   split <;> simp
theorem valL_snoc (x : List UInt8) (b : UInt8) : valL (x ++ [b]) = 10 * valL x + (b.toNat - 48) := by
 rw [valL,List.foldl_append];rfl
theorem valL_bound {x : List UInt8} (hd : x.all isDig = true) (hl : x.length ≤ 2) : valL x < 100 := by
 match x,hl with
 | [],_ => decide
 | [a],_ =>
  simp only [List.all_cons,isDig,Bool.and_eq_true,decide_eq_true_eq] at hd
  simp only [valL,List.foldl_cons,List.foldl_nil];omega
 | [a,b],_ =>
  simp only [List.all_cons,isDig,Bool.and_eq_true,decide_eq_true_eq] at hd
  simp only [valL,List.foldl_cons,List.foldl_nil];omega
def ToldP (ns : Option (List Int)) (st : St) (r : CR) (st' : St) : Prop := match r with
 | .ret v => ∃ l,ns = some l ∧ RetS st 1 l.length (l.flatMap encI) v st'
 | .panic v => ns = none ∧ (∃ s,v = noneX s) ∧ HExt st.heap st'.heap ∧ st'.lo = st.lo
theorem splitL_len (b : UInt8) : ∀ (acc s : List UInt8),(splitL b acc s).length ≤ s.length + 1
 | acc,[] => by simp [splitL]
 | acc,x :: xs => by
  simp only [splitL]
  split
  ·have := splitL_len b [] xs;simp;omega
  ·have := splitL_len b (acc ++ [x]) xs;simp;omega
theorem splitL_mem (b : UInt8) (m : Nat) : ∀ (acc s : List UInt8),acc.length + s.length ≤ m → ∀ p ∈ splitL b acc s,p.length ≤ m
 | acc,[],h,p,hp => by simp [splitL] at hp;subst hp;simpa using h
 | acc,x :: xs,h,p,hp => by
  simp only [List.length_cons] at h
  simp only [splitL] at hp
  split at hp
  ·rcases List.mem_cons.1 hp with rfl | hp
   ·omega
   ·exact splitL_mem b m [] xs (by simp;omega) p hp
  ·exact splitL_mem b m (acc ++ [x]) xs (by simp;omega) p hp
theorem getB (l : List UInt8) (p : Nat) (h : p < l.length) : (toB l).get! p = l[p] := by
 show (l.toArray)[p]! = l[p]
 rw [getElem!_pos _ _ (by simpa using h)]
 simp
theorem words_at (k : Nat) (hk : k = 0 ∨ k = 1) {x i : Opd} (tm : List PV) (st : St) (hx : x.ev tm = .agg [.str (toB chestW),.str (toB figW)]) (hi : i.ev tm = iv k) (rec : Rec) : stepOp EE rec tm st (.indexArr false 2 1 x i) = some (.val (.str (toB (kindW k))) st) := by
 rcases hk with rfl | rfl
 ·simp only [op_indexArr,hx,hi];rfl
 ·simp only [op_indexArr,hx,hi];rfl
theorem told_panic {st : St} {ns : Option (List Int)} {tm : List PV} {S : St} {s : ByteArray} (hwf : st.lo ≤ st.heap.length) (hx : HExt st.heap S.heap) (hlo : st.heap.length ≤ S.lo) (hn : ns = none) : FnA [.tmp 6] st (ToldP ns st) (.panic (noneX s)) tm S :=
 fna_panic ⟨hn,⟨s,rfl⟩,hx,by show min st.lo S.lo = st.lo;omega⟩
set_option maxHeartbeats 8000000 in
theorem c141 (row : List UInt8) (k many : Nat) (hk : k = 0 ∨ k = 1) (hm : many ≤ 3) (hrow : row.length ≤ 1000) (st : St) (hwf0 : st.lo ≤ st.heap.length) : ClA EE (.func 141 [] []) [.str (toB row),iv k,iv many] st (ToldP (toldL row k many) st) := by
 have hV := splitSl 32 row
 have hVl := splitL_len 32 [] row
 have hpm := splitL_mem 32 1000 [] row (by simpa using hrow)
 refine cla_fn (pr141 · _ _) fn141 3 rfl (by decide) (fun tm hl hg => ?_);have h0 : tg tm 0 = .str (toB row) := (hg 0 (by decide));have h1 : tg tm 1 = iv k := (hg 1 (by decide));have h2 : tg tm 2 = iv many := (hg 2 (by decide));clear hg
 have hsp := c139 row 32 (by omega)
 generalize hps : splitL 32 [] row = ps at hV hsp hVl hpm
 generalize hVd : PV.slice Own.shared ps.length (ps.flatMap encS) = V at hV hsp
 have hVs := hV.slen
 have hVc := hV.cells
 have hw19 : IntKind.wrap .i64 ((many : Int) + 1) = ((many + 1 : Nat) : Int) := wrap_nat (n := many + 1) (by omega)
 cases hlen : ((ps.length : Int) == ((many + 1 : Nat) : Int))
 ·have hn : toldL row k many = none := by
   have : ¬ (ps.length : Int) = ((many + 1 : Nat) : Int) := by rw [beq_eq_false_iff_ne] at hlen;exact hlen
   unfold toldL
   rw [hps,if_neg (fun h => this (by omega))]
  refine go (bw7 hl h0 h1 h2 hVs hw19 hlen) (bw hsp fnil) ?_
  refine wopsD_callA rfl rfl (by simp only [go_sem,hl];first | done | rfl) (by simp only [go_sem,hl,h0];exact c140 false (toB row) _ (Nat.le_refl _)) ?_ ?_
  ·rintro v st1 ⟨_,⟨h,_⟩ | ⟨_,h⟩⟩
   ·cases h
   ·cases h
  ·rintro v st1 ⟨rfl,⟨h,_⟩ | ⟨_,h⟩⟩
   ·cases h
   ·cases h
    refine ⟨footOk_quiet (by rfl),?_⟩
    refine go fnil fnil ?_
    exact told_panic hwf0 (.refl _) (by show st.heap.length ≤ min _ _;simp) hn
 ·have hlen' : ps.length = many + 1 := by have := eq_of_beq hlen;omega
  have hp0 : 0 < ps.length := by omega
  refine go (bw7 hl h0 h1 h2 hVs hw19 hlen) (bw3 hsp c149 fnil) ?_
  refine wopsD_pure (v := .str (toB (kindW k))) (Nat.le_refl _) (by simp only [go_sem,hl];first | done | rfl) (fun rec st1 he => words_at k hk _ _ (by simp only [go_sem,hl];first | done | rfl) (by simp only [go_sem,hl];first | done | rfl) rec) ?_
  cases hw0 : (ps[0] == kindW k)
  ·have hn : toldL row k many = none := by
    unfold toldL
    rw [hps,if_neg]
    rintro ⟨_,h⟩
    rw [List.head?_eq_getElem?,List.getElem?_eq_getElem hp0] at h
    have := Option.some.inj h
    rw [this] at hw0
    simp at hw0
   refine go (bw8 hl h0 h1 h2 hVs hw19 hlen hw0) (bw3 hsp c149 fnil) ?_
   refine wopsD_callA rfl rfl (by simp only [go_sem,hl];first | done | rfl) (by simp only [go_sem,hl,h0];exact c140 false (toB row) _ (Nat.le_refl _)) ?_ ?_
   ·rintro v st1 ⟨_,⟨h,_⟩ | ⟨_,h⟩⟩
    ·cases h
    ·cases h
   ·rintro v st1 ⟨rfl,⟨h,_⟩ | ⟨_,h⟩⟩
    ·cases h
    ·cases h
     refine ⟨footOk_quiet (by rfl),?_⟩
     refine go fnil fnil ?_
     exact told_panic hwf0 (.refl _) (by show st.heap.length ≤ min _ _;simp) hn
  ·have ht : toldL row k many = numsL ps.tail := by
    unfold toldL
    rw [hps,if_pos]
    refine ⟨hlen',?_⟩
    rw [List.head?_eq_getElem?,List.getElem?_eq_getElem hp0,eq_of_beq hw0]
   refine go (bw8 hl h0 h1 h2 hVs hw19 hlen hw0) (bw4 hsp c149 c140_ok fnil) ?_
   refine wops_slice rfl rfl (by simp only [go_sem,hl];first | done | rfl) hV (m := ps.length) (n := 1) (by rfl) (by rfl) (by omega) (by omega) ?_
   intro V2 hV2
   have e2 : (ps.drop 1).take (ps.length - 1) = ps.tail := by rw [List.drop_one,List.take_of_length_le (by simp)]
   rw [e2] at hV2
   have hV2s := hV2.slen
   rw [ht]
   have hpt : ∀ p ∈ ps.tail,p.length ≤ 1000 := fun p hp => hpm p (List.mem_of_mem_tail hp)
   have htl : ps.tail.length = many := by rw [List.length_tail];omega
   generalize ps.tail = T at hV2 hV2s hpt htl ⊢
   refine go (bw hl hV2s) fnil ?_
   refine wp_range T.length [8] (fun j vs st' => ∃ ns v,vs = [v] ∧ numsL (T.take j) = some ns ∧ OwnS st.heap.length st' 1 v ns.length (ns.flatMap encI) ∧ ns.length = j ∧ HExt st.heap st'.heap ∧ st.heap.length ≤ st'.lo ∧ st'.lo ≤ st'.heap.length) (by omega) (by simp only [go_sem,hl]) (by simp only [go_sem,hl]) (by simp only [go_sem,hl]) (by decide) ⟨[],.nilslice,by simp only [go_sem,hl],rfl,.nil,rfl,.refl _,by simp,by simp⟩ ?_ ?_
   ·rintro j hj tm1 st1 ⟨ns,v,hv,hns,hO,hnl,hx,hlo,hwf⟩ hS hja
    simp only [List.map_cons,List.map_nil,List.cons.injEq,and_true] at hv
    have hl1 : tm1.length = 79 := (by rw [hS.1];simp only [put_len,hl]);have i33 : tg tm1 33 = V2 := (by rw [hS.2 33 (by decide)];simp only [go_sem,hl]);clear hS
    have hxl := hpt _ (List.getElem_mem hj)
    have hln1 := hx.1
    have hmj : j < many := by omega
    refine go (bw4 hl1 i33 hja @op_rangeStr) fnil ?_
    apply wp_block
    refine wp_loopF (fun kk tm2 st2 => ∃ p,p ≤ T[j].length ∧ kk = T[j].length - p ∧ tg tm2 11 = iv (valL (T[j].take p)) ∧ hp st2 st1.heap.length = some (.iter (toB T[j]) p) ∧ (∀ l,l ≠ st1.heap.length → hp st2 l = hp (st1.push (.iter (toB T[j]) 0)) l) ∧ st2.heap.length = st1.heap.length + 1 ∧ (T[j].take p).all isDig = true ∧ (p = 0 ∨ T[j].length ≤ 2) ∧ st.heap.length ≤ st2.lo ∧ st2.lo ≤ st2.heap.length) ?_ T[j].length ⟨0,Nat.zero_le _,by omega,by simp only [go_sem,hl1];rfl,by simp only [go_sem],fun _ _ => rfl,len_push _ _,rfl,.inl rfl,hlo,by rw [lo_push,len_push];omega⟩
    rintro kk tm2 st2 ⟨p,hp1,rfl,t11,hit,hoth,hln2,hall,hpl,hlo2,hwf2⟩ hS
    have hl2 : tm2.length = 79 := (by rw [hS.1];simp only [put_len,hl1]);have t8 : tg tm2 8 = v := (by rw [hS.2 8 (by decide)];simp only [go_sem,hl1,hv]);have t10 : tg tm2 10 = .str (toB T[j]) := (by rw [hS.2 10 (by decide)];simp only [go_sem,hl1,hv]);have t40 : tg tm2 40 = .ptr st1.heap.length 0 := (by rw [hS.2 40 (by decide)];simp only [go_sem,hl1,hv]);clear hS
    have hxs : HExt st.heap st2.heap := ⟨by omega,fun l hl => by
     have h1 := hoth l (by omega)
     have h2 : hp (st1.push (.iter (toB T[j]) 0)) l = hp st1 l := by rw [hp_push,if_neg (by omega)]
     exact (h1.trans h2).trans (hx.2 l hl)⟩
    have lit := hp_lt hit
    apply wp_seq
    apply wp_region_ops
    by_cases hpx : p < T[j].length
    ·refine wops_one (v := _) (st1 := _) rfl (fun rec => step_next (by simp only [go_sem,hl2,t40];first | done | rfl) hit hpx) ?_
     have hgb : (toB T[j]).get! p = T[j][p] := by
      exact getB T[j] p hpx
     have htk : T[j].take (p + 1) = T[j].take p ++ [T[j][p]] := List.take_succ_eq_append_getElem hpx
     by_cases hdig : isDig T[j][p] = true
     ·have hdg := hdig
      simp only [isDig,Bool.and_eq_true,decide_eq_true_eq] at hdg
      have hdec : Utf8.decode (toB T[j]) p = (T[j][p].toNat,1) := by rw [decode_low _ _ (by rw [hgb];omega),hgb]
      rw [hdec]
      generalize hbd : T[j][p] = b at hgb htk hdig hdg
      have d1 : decide (((b.toNat : Nat) : Int) ≥ 48) = true := by simp;omega
      have d2 : decide (((b.toNat : Nat) : Int) ≤ 57) = true := by simp;omega
      by_cases h2 : T[j].length ≤ 2
      ·have d3 : decide ((T[j].length : Int) ≤ 2) = true := by simp;omega
       have hvb : valL (T[j].take p) < 100 := valL_bound hall (by simp;omega)
       have w58 : IntKind.wrap .i64 (10 * ((valL (T[j].take p) : Nat) : Int)) = ((10 * valL (T[j].take p) : Nat) : Int) := wrap_nat (n := 10 * valL (T[j].take p)) (by omega)
       have w60 : IntKind.wrap .i32 (((b.toNat : Nat) : Int) - 48) = ((b.toNat - 48 : Nat) : Int) := by
        simp [IntKind.wrap,IntKind.bits,IntKind.signed]
        omega
       have w61 : IntKind.wrap .i64 ((b.toNat - 48 : Nat) : Int) = ((b.toNat - 48 : Nat) : Int) := wrap_nat (by omega)
       have e62 : valL (T[j].take (p + 1)) = 10 * valL (T[j].take p) + (b.toNat - 48) := by rw [htk,valL_snoc]
       have w62 : IntKind.wrap .i64 (((10 * valL (T[j].take p) : Nat) : Int) + ((b.toNat - 48 : Nat) : Int)) = ((valL (T[j].take (p + 1)) : Nat) : Int) := by
        rw [e62,← Int.natCast_add];exact wrap_nat (by omega)
       refine go (bw10 hl2 t10 t11 d1 d2 d3 w58 w60 w61 w62) (bw c140_ok fnil) ?_
       refine ⟨T[j].length - (p + 1),by omega,p + 1,by omega,rfl,by simp only [go_sem,hl2],?_,fun l hl => ?_,by rw [len_setVar];exact hln2,?_,.inr h2,by rw [lo_setVar];omega,by rw [lo_setVar,len_setVar];omega⟩
       ·rw [hp_setVar,if_pos rfl,if_pos lit]
       ·rw [hp_setVar,if_neg hl];exact hoth l hl
       ·rw [htk,List.all_append,hall];simp [hdig]
      ·have d3 : decide ((T[j].length : Int) ≤ 2) = false := by simp;omega
       have hnb : numB T[j] = false := by simp [numB];intro _ h;omega
       refine go (bw6 hl2 t10 t11 d1 d2 d3) fnil ?_
       refine wops_callA rfl rfl (by simp only [go_sem,hl2];first | done | rfl) (by simp only [go_sem,hl2,t10];exact c140 false (toB T[j]) _ (by rw [lo_setVar,len_setVar];omega)) ?_ ?_
       ·rintro v9 st9 ⟨_,⟨h,_⟩ | ⟨_,h⟩⟩
        ·cases h
        ·cases h
       ·rintro v9 st9 ⟨rfl,⟨h,_⟩ | ⟨_,h⟩⟩
        ·cases h
        ·cases h
         refine go fnil fnil ?_
         exact told_panic hwf0 (hxs.setVar (by omega)) (by rw [lo_setVar];omega) (numsL_bad _ hj (hnb))
     ·have hnb : numB T[j] = false := by
       have : T[j].all isDig = false := by
        rw [List.all_eq_false]
        exact ⟨T[j][p],List.getElem_mem hpx,hdig⟩
       simp [numB,this]
      generalize hrd : (Utf8.decode (toB T[j]) p).1 = r
      have hrn : ¬ (48 ≤ r ∧ r ≤ 57) := by
       intro h
       by_cases hb : ((toB T[j]).get! p).toNat < 128
       ·rw [decode_low _ _ hb,hgb] at hrd
        simp only at hrd
        apply hdig
        simp only [isDig,Bool.and_eq_true,decide_eq_true_eq]
        omega
       ·have := decode_high (toB T[j]) p (by omega)
        omega
      by_cases h1 : 48 ≤ r
      ·have d1 : decide ((r : Int) ≥ 48) = true := by simp;omega
       have d2 : decide ((r : Int) ≤ 57) = false := by simp;omega
       refine go (bw5 hl2 t10 t11 d1 d2) fnil ?_
       refine wops_callA rfl rfl (by simp only [go_sem,hl2];first | done | rfl) (by simp only [go_sem,hl2,t10];exact c140 false (toB T[j]) _ (by rw [lo_setVar,len_setVar];omega)) ?_ ?_
       ·rintro v9 st9 ⟨_,⟨h,_⟩ | ⟨_,h⟩⟩
        ·cases h
        ·cases h
       ·rintro v9 st9 ⟨rfl,⟨h,_⟩ | ⟨_,h⟩⟩
        ·cases h
        ·cases h
         refine go fnil fnil ?_
         exact told_panic hwf0 (hxs.setVar (by omega)) (by rw [lo_setVar];omega) (numsL_bad _ hj (hnb))
      ·have d1 : decide ((r : Int) ≥ 48) = false := by simp;omega
       refine go (bw4 hl2 t10 t11 d1) fnil ?_
       refine wops_callA rfl rfl (by simp only [go_sem,hl2];first | done | rfl) (by simp only [go_sem,hl2,t10];exact c140 false (toB T[j]) _ (by rw [lo_setVar,len_setVar];omega)) ?_ ?_
       ·rintro v9 st9 ⟨_,⟨h,_⟩ | ⟨_,h⟩⟩
        ·cases h
        ·cases h
       ·rintro v9 st9 ⟨rfl,⟨h,_⟩ | ⟨_,h⟩⟩
        ·cases h
        ·cases h
         refine go fnil fnil ?_
         exact told_panic hwf0 (hxs.setVar (by omega)) (by rw [lo_setVar];omega) (numsL_bad _ hj (hnb))
    ·have hpe : p = T[j].length := by omega
     refine wops_one (v := _) (st1 := _) rfl (fun rec => step_end (by simp only [go_sem,hl2,t40];first | done | rfl) hit hpx) ?_
     rw [hpe,List.take_length] at hall t11
     refine go (bw3 hl2 t10 t11) fnil ?_
     cases hx0 : (T[j] == [])
     ·have hl22 : T[j].length ≤ 2 := by
       rcases hpl with h | h
       ·exfalso
        have : T[j] = [] := List.eq_nil_of_length_eq_zero (by omega)
        rw [this] at hx0;cases hx0
       ·exact h
      have hvb := valL_bound hall hl22
      cases hit2 : (itoaL (valL T[j]) == T[j])
      ·have hnb : numB T[j] = false := by unfold numB;rw [hall,hx0,hit2];simp
       refine go (bw6 hl2 t10 t11 hx0 hit2 Int.toNat_natCast) (bw c137 fnil) ?_
       refine wops_callA rfl rfl (by simp only [go_sem,hl2];first | done | rfl) (by simp only [go_sem,hl2,t10];exact c140 false (toB T[j]) _ hwf2) ?_ ?_
       ·rintro v9 st9 ⟨_,⟨h,_⟩ | ⟨_,h⟩⟩
        ·cases h
        ·cases h
       ·rintro v9 st9 ⟨rfl,⟨h,_⟩ | ⟨_,h⟩⟩
        ·cases h
        ·cases h
         refine go fnil fnil ?_
         exact told_panic hwf0 hxs hlo2 (numsL_bad _ hj hnb)
      ·have hnb : numB T[j] = true := by unfold numB;rw [hall,hx0,hit2];simp [hl22]
       refine go (bw6 hl2 t10 t11 hx0 hit2 Int.toNat_natCast) (bw3 c137 c140_ok fnil) ?_
       have hO2 : OwnS st.heap.length st2 1 v ns.length (ns.flatMap encI) := hO.keep fun t ht1 ht2 => by
        have hlt := hp_lt ht2
        rw [hoth t (by omega),hp_push,if_neg (by omega)]
        exact ht2
       refine wops_append rfl rfl (by simp only [go_sem,hl2,t8];first | done | rfl) (by simp only [go_sem,hl2,t8];first | done | rfl) (hO2.push) rfl (by first | omega | (simp only [len_push,len_setVar];omega)) (by rfl) (by rfl) (by simp only [maxList];omega) ?_
       intro v' st3 hO' hFr hk3
       have f1 := hFr.lo
       have f2 := hFr.up
       have f3 := hFr.len
       simp only [lo_push,len_push] at f1 f2 f3
       refine go hl2 fnil ?_
       refine ⟨ns ++ [((valL T[j] : Nat) : Int)],v',by simp only [go_sem,hl2],?_,?_,by simp [hnl],(hxs.trans (HExt.push st2 _)).fr hFr,by omega,by omega⟩
       ·rw [List.take_succ_eq_append_getElem hj,numsL_snoc,hns]
        simp [hnb]
       ·have e1 : (ns ++ [((valL T[j] : Nat) : Int)]).length = ns.length + 1 := by simp
        have e3 : (ns ++ [((valL T[j] : Nat) : Int)]).flatMap encI = ns.flatMap encI ++ [iv ((valL T[j] : Nat) : Int)] := by simp
        rw [e1,e3]
        simpa [share_int] using hO'
     ·have hnb : numB T[j] = false := by unfold numB;rw [hx0];simp
      refine go (bw4 hl2 t10 t11 hx0) fnil ?_
      refine wops_callA rfl rfl (by simp only [go_sem,hl2];first | done | rfl) (by simp only [go_sem,hl2,t10];exact c140 false (toB T[j]) _ hwf2) ?_ ?_
      ·rintro v9 st9 ⟨_,⟨h,_⟩ | ⟨_,h⟩⟩
       ·cases h
       ·cases h
      ·rintro v9 st9 ⟨rfl,⟨h,_⟩ | ⟨_,h⟩⟩
       ·cases h
       ·cases h
        refine go fnil fnil ?_
        exact told_panic hwf0 hxs hlo2 (numsL_bad _ hj hnb)
   ·rintro tm1 st1 ⟨ns,v,hv,hns,hO,hnl,hx,hlo,hwf⟩ hS
    simp only [List.map_cons,List.map_nil,List.cons.injEq,and_true] at hv
    have hl1 : tm1.length = 79 := (by rw [hS.1];simp only [put_len,hl]);clear hS
    rw [List.take_length] at hns
    refine go (bw hl1 hv) fnil ?_
    exact fna_ret (results_one (v := v) (by rw [rdRes_tmp];simp only [go_sem,hl1])) ⟨ns,hns,hO.finish hlo (fun m c hc => encI_low _ m c hc)⟩
end Go.Den.Ch
end

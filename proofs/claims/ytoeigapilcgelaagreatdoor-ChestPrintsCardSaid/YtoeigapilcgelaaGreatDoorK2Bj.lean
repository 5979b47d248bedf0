/- Part of the proofs of laws of the package chest: the interpreter Den, its soundness, and contracts of the program's functions over it. Texts: ChU, ChV, ChW. -/
import Derived.Test.YtoeigapilcgelaaGreatDoorK2Bi
import Derived.Lib.Strings
set_option linter.unusedSimpArgs false
set_option linter.unusedVariables false
section
namespace Go.Den.Ch
def clashR (c : CL) : List Int × Int := if listB c then (match (List.range (c.figs.length + 1)).findSome? (fun many => clashF c many [] 0) with | some l => (l, 0) | none => ([], 5)) else ([], 2)
set_option maxHeartbeats 8000000 in
theorem c62 (c : CL) (F : PV) (hF : SlOf 3 encF F c.figs) (st : St) : ClR EE (.func 62 [] []) [clPV c F] st (fun v st' => ∃ P, v = .tuple [P, iv (clashR c).2] ∧ RetW st (clashR c).1.length ((clashR c).1.flatMap encI) P st') := by
 have hFc := hF.cells
 have hFi := hF.isCell
 have hFs := hF.slen
 refine clr_fn (pr62 · _ _) fn62 1 rfl (by decide) (fun tm hl hg => ?_); have h0 : tg tm 0 = clPV c F := (hg 0 (by decide)); clear hg
 cases hA : listB c
 ·have e : clashR c = ([], 2) := by simp [clashR, hA]
  rw [e]
  refine go (bw3 hl h0 hA) (bw (c77 c F hF) fnil) ?_
  refine fnr_ret (v := .tuple [.nilslice, iv 2]) (by simp only [results, rdResL, rdRes_tmp]; simp only [go_sem, hl]) ?_
  exact finish_slT rfl (by rfl) (by simp only [lo_push]; omega) (fun m => rfl)
 ·have hc := OkL.of hA
  have hlen := hc.len
  have hw0 : IntKind.wrap .i64 ((c.figs.length : Int) + 1) = ((c.figs.length + 1 : Nat) : Int) := wrap_in (by unfold inI; omega)
  refine go (bw7 hl h0 hA hFi hFs hw0 @isCell_map) (bw (c77 c F hF) fnil) ?_
  refine wp_gen (fun tm1 s1 => tm1.length = 31 ∧ tg tm1 5 = .ptr (st.heap.length + 3) 0 ∧ tg tm1 6 = .ptr (st.heap.length + 4) 0 ∧ tg tm1 7 = .bool false ∧ tg tm1 19 = iv (c.figs.length + 1 : Nat) ∧ tg tm1 20 = iv 0 ∧ s1.heap.length = st.heap.length + 5 ∧ st.heap.length ≤ s1.lo ∧ s1.lo ≤ s1.heap.length ∧ hp s1 st.heap.length = some (.var [iv c.room, iv c.depth, F]) ∧ hp s1 (st.heap.length + 1) = some (.map []) ∧ hp s1 (st.heap.length + 2) = some (.var [iv c.room, iv c.depth, F, .map (st.heap.length + 1)]) ∧ hp s1 (st.heap.length + 3) = some (.var [.nilslice]) ∧ hp s1 (st.heap.length + 4) = some (.var [.func 107 [] [.ptr (st.heap.length + 3) 0, .ptr (st.heap.length + 2) 0, .ptr st.heap.length 0, .ptr (st.heap.length + 4) 0]]))
   ⟨by simp only [go_sem, hl], by simp only [go_sem, hl], by simp only [go_sem, hl], by simp only [go_sem, hl], by simp only [go_sem, hl], by simp only [go_sem, hl], by simp only [go_sem], by simp only [lo_push, lo_setVar]; omega, by simp only [lo_push, lo_setVar, len_push, len_setVar]; omega, by simp only [go_sem], by simp only [go_sem], by simp only [go_sem], by simp only [go_sem], by simp only [go_sem]⟩ ?_
  rintro tm1 s1 ⟨hl1, q5, q6, q7, q19, q20, hsl, hlo, hwf, z0, z1, z2, z3, z4⟩
  refine wp_range (c.figs.length + 1) [7] (fun i vs st' => vs = [.bool false] ∧ KeepV (fun l => l = st.heap.length + 3 ∨ l = st.heap.length + 1) s1.heap st'.heap ∧ (∃ P, hp st' (st.heap.length + 3) = some (.var [P]) ∧ P.isCell = true) ∧ (∃ es, hp st' (st.heap.length + 1) = some (.map es) ∧ MapOk c es) ∧ st.heap.length ≤ st'.lo ∧ st'.lo ≤ st'.heap.length ∧ ∀ j, j < i → clashF c j [] 0 = none) (by omega) q20 (by simp only [go_sem, q19]) (by omega) (by decide) ⟨by simp only [List.map_cons, List.map_nil, q7], .refl _ _, ⟨_, z3, rfl⟩, ⟨_, z1, fun e he => by cases he⟩, hlo, hwf, fun j hj => absurd hj (by omega)⟩ ?_ ?_
  ·rintro i hi tm2 st2 ⟨hv, hk, hP, hm, hlo2, hwf2, hno⟩ hS hia
   simp only [List.map_cons, List.map_nil, List.cons.injEq, and_true] at hv
   have hl2 : tm2.length = 31 := (by rw [hS.1]; simp only [put_len, hl1]); have j5 : tg tm2 5 = .ptr (st.heap.length + 3) 0 := (by rw [hS.2 5 (by decide)]; simp only [go_sem, hl1, q5, q6]); have j6 : tg tm2 6 = .ptr (st.heap.length + 4) 0 := (by rw [hS.2 6 (by decide)]; simp only [go_sem, hl1, q5, q6]); clear hS
   have y0 := hk.hp z0 (by omega)
   have y2 := hk.hp z2 (by omega)
   have y4 := hk.hp z4 (by omega)
   have n4 := hp_lt y4
   refine go (bw8 hl2 j6 hia y4 (neL n4) (neA n4) (ltL n4) (ltA n4)) fnil ?_
   have hrec := c107 (c := c) (F := F) (oc := st.heap.length + 3) (rc := st.heap.length + 2) (cc := st.heap.length) (sc := st.heap.length + 4) (mm := st.heap.length + 1) hF hc (by omega) (by omega) (by omega) i [] 0 .nilslice st2 .nil ⟨by simp, .nil⟩ (by omega) (by simp; omega) hwf2 hP y2 y0 y4 hm
   refine wops_callR rfl rfl (by simp only [go_sem, hl2]; first | done | rfl) (by simp only [go_sem, hl2]; exact hrec) ?_
   rintro u st3 ⟨rfl, hk3, ⟨P3, hP3, hP3i, hPl⟩, hm3, hlo3, hwf3, hup3⟩
   cases hfd : clashF c i [] 0 with
   | some l =>
    have e : clashR c = (l, 0) := by
     simp only [clashR, hA, if_true]
     rw [range_some hi hno hfd]
    have hL : SlOf 1 encI P3 l := hPl l hfd
    rw [e]
    have n3 := hp_lt hP3
    refine go (bw9 hl2 j5 hP3 @isS @isN (neL n3) (neA n3) (ltL n3) (ltA n3)) fnil ?_
    refine fnr_ret (v := .tuple [P3, iv 0]) (by simp only [results, rdResL, rdRes_tmp]; simp only [go_sem, hl2]) ?_
    exact finish_slT hL.sl (by rfl) (by omega) (fun m => ints_low l m)
   | none =>
    refine go (bw3 hl2 @isS @isN) fnil ?_
    refine ⟨by simp only [go_sem, hl2], hk.trans hk3, ⟨P3, hP3, hP3i⟩, hm3, by omega, hwf3, fun j hj => ?_⟩
    by_cases hji : j = i
    ·subst hji; exact hfd
    ·exact hno j (by omega)
  ·rintro tm2 st2 ⟨hv, hk, hP, hm, hlo2, hwf2, hno⟩ hS
   simp only [List.map_cons, List.map_nil, List.cons.injEq, and_true] at hv
   have hl2 : tm2.length = 31 := (by rw [hS.1]; simp only [put_len, hl1]); clear hS
   have e : clashR c = ([], 5) := by
    simp only [clashR, hA, if_true]
    rw [range_none hno]
   rw [e]
   refine go (bw hl2 hv) fnil ?_
   refine fnr_ret (v := .tuple [.nilslice, iv 5]) (by simp only [results, rdResL, rdRes_tmp]; simp only [go_sem, hl2]) ?_
   exact finish_slT rfl (by rfl) hlo2 (fun m => rfl)
end Go.Den.Ch
end
section
namespace Go.Den.Ch
theorem unB_toB (l : List UInt8) : unB (toB l) = l := rfl
theorem size_toB (l : List UInt8) : (toB l).size = l.length := rfl
theorem toList_toB (l : List UInt8) : (toB l).toList = l := by rw [ByteArray.toList_eq]; rfl
theorem toB_append (a b : List UInt8) : toB a ++ toB b = toB (a ++ b) := by
 apply ByteArray.ext
 simp [toB]
theorem toB_lit (l : List UInt8) : (ByteArray.mk l.toArray) = toB l := rfl
theorem binS_add (a b : List UInt8) : binS .add (toB a) (toB b) = if a.length + b.length ≤ 1000000 then some (.str (toB (a ++ b))) else none := by
 simp only [binS, size_toB, toB_append]
theorem binS_eql (a b : List UInt8) : binS .eql (toB a) (toB b) = some (.bool (a == b)) := by
 simp only [binS, toList_toB]
theorem binS_neq (a b : List UInt8) : binS .neq (toB a) (toB b) = some (.bool (!(a == b))) := by
 simp only [binS, toList_toB]
attribute [go_sem] toB_lit binS_add binS_eql binS_neq size_toB
def chestW : List UInt8 := [99, 104, 101, 115, 116]
def figW : List UInt8 := [102, 105, 103, 117, 114, 101]
theorem c149 (st : St) : Cl EE (.func 149 [] []) [] st (.ret (.agg [.str (toB chestW), .str (toB figW)])) st := by
 refine cl_fn (pr149 · _ _) fn149 0 rfl (by decide) (fun tm hl hg => ?_); clear hg
 refine go hl fnil ?_
 refine fnq_flat (results_one ?_) (by simp only [lo_push, lo_setVar]; omega) (by rfl)
 rw [rdRes_hp (l := st.heap.length) (off := 0) (by simp only [go_sem, hl])]
 simp only [go_sem, hl]
 rfl
theorem c200 (v : PV) (cs : List PV) (hv : v = .agg cs) (st : St) : Cl EE (.func 200 [] []) [v] st (.ret (iv 0)) st := by
 subst hv
 refine cl_fn (pr200 · _ _) fn200 1 rfl (by decide) (fun tm hl hg => ?_); have h0 : tg tm 0 = .agg cs := (hg 0 (by decide)); clear hg
 refine go (bw hl h0) fnil ?_
 refine fnq_flat (results_one (by rw [rdRes_tmp]; simp only [go_sem, hl]; first | done | rfl)) (by first | exact Nat.le_refl _ | omega | (simp only [lo_push, lo_setVar]; omega)) (by rfl)
theorem c202 (v : PV) (cs : List PV) (hv : v = .agg cs) (st : St) : Cl EE (.func 202 [] []) [v] st (.ret (iv 1)) st := by
 subst hv
 refine cl_fn (pr202 · _ _) fn202 1 rfl (by decide) (fun tm hl hg => ?_); have h0 : tg tm 0 = .agg cs := (hg 0 (by decide)); clear hg
 refine go (bw hl h0) fnil ?_
 refine fnq_flat (results_one (by rw [rdRes_tmp]; simp only [go_sem, hl]; first | done | rfl)) (by first | exact Nat.le_refl _ | omega | (simp only [lo_push, lo_setVar]; omega)) (by rfl)
theorem c201 (c : CL) (F : PV) (st : St) : ClR EE (.func 201 [] []) [clPV c F] st (RetS st 1 2 ([c.room, c.depth].flatMap encI)) := by
 refine clr_fn (pr201 · _ _) fn201 1 rfl (by decide) (fun tm hl hg => ?_); have h0 : tg tm 0 = clPV c F := (hg 0 (by decide)); clear hg
 refine go (bw hl h0) fnil ?_
 refine fnr_ret (v := .slice (.tag (st.heap.length + 1) 1) 2 [iv c.room, iv c.depth]) (results_one (by rw [rdRes_tmp]; simp only [go_sem, hl])) (OwnS.finish (n := 2) (cs := [iv c.room, iv c.depth]) ⟨rfl, .inr ⟨_, rfl, by omega, by simp only [go_sem]⟩⟩ (by simp only [lo_push]; omega) (fun m c hc => by
  simp only [List.mem_cons, List.not_mem_nil, or_false] at hc
  rcases hc with rfl | rfl <;> rfl))
theorem c203 (f : Fig) (st : St) : ClR EE (.func 203 [] []) [figPV f] st (RetS st 1 3 ([f.size, f.rank, f.eve].flatMap encI)) := by
 refine clr_fn (pr203 · _ _) fn203 1 rfl (by decide) (fun tm hl hg => ?_); have h0 : tg tm 0 = figPV f := (hg 0 (by decide)); clear hg
 refine go (bw hl h0) fnil ?_
 refine fnr_ret (v := .slice (.tag (st.heap.length + 1) 1) 3 [iv f.size, iv f.rank, iv f.eve]) (results_one (by rw [rdRes_tmp]; simp only [go_sem, hl])) (OwnS.finish (n := 3) (cs := [iv f.size, iv f.rank, iv f.eve]) ⟨rfl, .inr ⟨_, rfl, by omega, by simp only [go_sem]⟩⟩ (by simp only [lo_push]; omega) (fun m c hc => by
  simp only [List.mem_cons, List.not_mem_nil, or_false] at hc
  rcases hc with rfl | rfl | rfl <;> rfl))
theorem c137 (n : Int) (h0 : 0 ≤ n) (h1 : n < 100) (st : St) : Cl EE (.func 137 [] []) [iv n] st (.ret (.str (toB (itoaL n.toNat)))) st := by
 refine ⟨1, fun k hk => ?_⟩
 obtain ⟨m, rfl⟩ : ∃ m, k = m + 1 := ⟨k - 1, by omega⟩
 show stepCall EE (run EE m) (.func 137 [] []) [iv n] st = _
 have h2 : EE.prim 137 (run EE m) ([] ++ [iv n] ++ []) st = itoaR st [iv n] := rfl
 simp only [stepCall, enter, h2, itoaR, h0, h1, and_self, if_true]
def rowL (w : List UInt8) (ns : List Int) : List UInt8 := ns.foldl (fun s n => s ++ (32 :: itoaL n.toNat)) w
theorem rowL_take (w : List UInt8) {ns : List Int} {i : Nat} (h : i < ns.length) : rowL w (ns.take (i + 1)) = rowL w (ns.take i) ++ (32 :: itoaL ns[i].toNat) := by
 rw [List.take_succ_eq_append_getElem h, rowL, List.foldl_append]; rfl
theorem itoaL_len (n : Nat) : (itoaL n).length ≤ 2 := by unfold itoaL; split <;> simp
theorem rowL_len (w : List UInt8) (ns : List Int) : (rowL w ns).length ≤ w.length + 3 * ns.length := by
 unfold rowL
 induction ns generalizing w with
 | nil => simp
 | cons n ns ih =>
  have := ih (w ++ (32 :: itoaL n.toNat))
  have h2 := itoaL_len n.toNat
  simp only [List.foldl_cons, List.length_append, List.length_cons] at this ⊢
  omega
theorem wops_invoke {E : Env} {Q : Ex → List PV → St → Prop} {tm : List PV} {st : St} {x : Opd} {m : String} {args : List Opd} {dst : Option Nat} {g : Option (Nat × Bool)} {os : List DOper} {b : Bool} {t f : Nat} {v u : PV} {st1 : St} (hw : wants tm g = b) (hb : b = true) (hx : x.ev tm = .iface t v) (hm : E.meth t m = some f) (hc : Cl E (.func f [] []) (v :: evs tm args) st (.ret u) st1) (h : WOps E os Q (put tm dst u) st1) : WOps E (⟨.invoke x m args, dst, g⟩ :: os) Q tm st := by
 obtain ⟨N, hN⟩ := hc
 refine wops_cons (hw.trans hb) N (fun n hn => ?_) h
 simp only [stepOp, hx, hm, hN n hn]
theorem wops_invokeR {E : Env} {Q : Ex → List PV → St → Prop} {tm : List PV} {st : St} {x : Opd} {m : String} {args : List Opd} {dst : Option Nat} {g : Option (Nat × Bool)} {os : List DOper} {b : Bool} {t f : Nat} {v : PV} {P : PV → St → Prop} (hw : wants tm g = b) (hb : b = true) (hx : x.ev tm = .iface t v) (hm : E.meth t m = some f) (hc : ClR E (.func f [] []) (v :: evs tm args) st P) (h : ∀ u st1, P u st1 → WOps E os Q (put tm dst u) st1) : WOps E (⟨.invoke x m args, dst, g⟩ :: os) Q tm st := by
 obtain ⟨u, st1, h1, h2⟩ := hc
 exact wops_invoke hw hb hx hm h1 (h u st1 h2)
set_option maxHeartbeats 1000000 in
theorem c136 (t fk fn k : Nat) (v : PV) (w : List UInt8) (ns : List Int) (hk : EE.meth t "kelir/chest.kind" = some fk) (hn : EE.meth t "kelir/chest.numbers" = some fn) (hck : ∀ st, Cl EE (.func fk [] []) [v] st (.ret (iv k)) st) (hcn : ∀ st, ClR EE (.func fn [] []) [v] st (RetS st 1 ns.length (ns.flatMap encI)))
  (hw : (k = 0 ∧ w = chestW) ∨ (k = 1 ∧ w = figW)) (hns : ∀ n ∈ ns, 0 ≤ n ∧ n < 100) (hl3 : ns.length ≤ 3) (st : St) : Cl EE (.func 136 [] []) [.iface t v] st (.ret (.str (toB (rowL w ns)))) st := by
 refine cl_fn (pr136 · _ _) fn136 1 rfl (by decide) (fun tm hl hg => ?_); have h0 : tg tm 0 = .iface t v := (hg 0 (by decide)); clear hg
 refine go (bw hl h0) (bw c149 fnil) ?_
 refine wops_invoke rfl rfl (by simp only [go_sem, hl]; first | done | rfl) hk (by simp only [go_sem, hl]; exact hck _) ?_
 have hix : ∀ (tm : List PV) (st : St), tg tm 6 = .agg [.str (toB chestW), .str (toB figW)] → tg tm 8 = iv k → ∀ rec, stepOp EE rec tm st (.indexArr false 2 1 (.t 6) (.t 8)) = some (.val (.str (toB w)) st) := by
  intro tm st h6 h8 rec
  rcases hw with ⟨rfl, rfl⟩ | ⟨rfl, rfl⟩
  ·simp only [go_sem, op_indexArr, h6, h8]; rfl
  ·simp only [go_sem, op_indexArr, h6, h8]; rfl
 refine wops_one (v := .str (toB w)) rfl (hix _ _ (by simp only [go_sem, hl]) (by simp only [go_sem, hl])) ?_
 refine go (bw hl h0) fnil ?_
 refine wops_invokeR rfl rfl (by simp only [go_sem, hl, h0]; first | done | rfl) hn (by simp only [go_sem, hl, h0]; exact hcn _) ?_
 intro u st1 hR
 have hU := slI hR
 have hUs := hU.slen
 have r1 := hR.lo
 have hwl : w.length ≤ 6 := by rcases hw with ⟨_, rfl⟩ | ⟨_, rfl⟩ <;> decide
 simp only at r1
 refine go (bw hl hUs) fnil ?_
 refine wp_range ns.length [3] (fun i vs st' => vs = [.str (toB (rowL w (ns.take i)))] ∧ st' = st1) (by omega) (by simp only [go_sem, hl]) (by simp only [go_sem, hl]) (by simp only [go_sem, hl]) (by decide) ⟨by simp only [go_sem, hl]; rfl, rfl⟩ ?_ ?_
 ·rintro i hi tm1 st2 ⟨hv, rfl⟩ hS hia
  simp only [List.map_cons, List.map_nil, List.cons.injEq, and_true] at hv
  have hl1 : tm1.length = 24 := (by rw [hS.1]; simp only [put_len, hl]); have i11 : tg tm1 11 = u := (by rw [hS.2 11 (by decide)]; simp only [go_sem, hl]); clear hS
  have hr := hns _ (List.getElem_mem hi)
  have hi2 := itoaL_len ns[i].toNat
  have hrl := rowL_len w (ns.take i)
  have htl : (ns.take i).length ≤ 3 := by simp; omega
  have o1 : (1 + (itoaL ns[i].toNat).length ≤ 1000000) = True := by simp only [eq_iff_iff, iff_true]; omega
  have o2 : ((rowL w (ns.take i)).length + ((itoaL ns[i].toNat).length + 1) ≤ 1000000) = True := by simp only [eq_iff_iff, iff_true]; omega
  refine go (bw6 hl1 i11 hia hv o1 o2) (bw c137 fnil) ?_
  rw [rowL_take w hi]
  exact ⟨by simp only [go_sem, hl1], rfl⟩
 ·rintro tm1 st2 ⟨hv, rfl⟩ hS
  simp only [List.map_cons, List.map_nil, List.cons.injEq, and_true, List.take_length] at hv
  have hl1 : tm1.length = 24 := (by rw [hS.1]; simp only [put_len, hl]); clear hS
  refine go (bw hl1 hv) fnil ?_
  exact fnq_flat (results_one (by rw [rdRes_tmp]; simp only [go_sem, hl1])) (by rw [r1]; exact Nat.le_refl _) (by rfl)
end Go.Den.Ch
end
section
namespace Go.Den.Ch
def figRow (f : Fig) : List UInt8 := rowL figW [f.size, f.rank, f.eve]
def rowsL (c : CL) : List (List UInt8) := rowL chestW [c.room, c.depth] :: c.figs.map figRow
def rowSum (i : Nat) (r : List UInt8) : Nat → Nat
 | 0 => 0
 | k + 1 => rowSum i r k + (r.getD k 0).toNat * (k + 1) * (i + 1)
def allSum (rows : List (List UInt8)) : Nat → Nat
 | 0 => 0
 | i + 1 => allSum rows i + rowSum i (rows.getD i []) (rows.getD i []).length
def endW : List UInt8 := [101, 110, 100, 32]
def endRow (rows : List (List UInt8)) (m : Nat) : List UInt8 := endW ++ itoaL (allSum rows rows.length % m / 100) ++ itoaL (allSum rows rows.length % m / 10 % 10) ++ itoaL (allSum rows rows.length % m % 10)
def sealL (rows : List (List UInt8)) (m : Nat) : List UInt8 := List.intercalate [10] (rows ++ [endRow rows m]) ++ [10]
def textL (c : CL) : List UInt8 := sealL (rowsL c) 211
theorem rowSum_bound {i : Nat} {r : List UInt8} (hi : i ≤ 200) : ∀ k, k ≤ 200 → rowSum i r k ≤ k * 12000000
 | 0, _ => by simp [rowSum]
 | k + 1, hk => by
  have := rowSum_bound (i := i) (r := r) hi k (by omega)
  have hb : (r.getD k 0).toNat ≤ 255 := by have := (r.getD k 0).toNat_lt; omega
  have h1 : (r.getD k 0).toNat * (k + 1) ≤ 255 * 200 := Nat.mul_le_mul hb (by omega)
  have h2 : (r.getD k 0).toNat * (k + 1) * (i + 1) ≤ 255 * 200 * 201 := Nat.mul_le_mul h1 (by omega)
  simp only [rowSum]
  omega
theorem allSum_bound {rows : List (List UInt8)} (h : ∀ r ∈ rows, r.length ≤ 200) : ∀ i, i ≤ 200 → allSum rows i ≤ i * 2400000000
 | 0, _ => by simp [allSum]
 | i + 1, hi => by
  have h0 := allSum_bound h i (by omega)
  have hl : (rows.getD i []).length ≤ 200 := by
   rw [List.getD_eq_getElem?_getD]
   cases hr : rows[i]? with
   | none => simp
   | some r => exact h r (List.mem_of_getElem? hr)
  have h1 := rowSum_bound (i := i) (r := rows.getD i []) (by omega) _ hl
  have h2 : (rows.getD i []).length * 12000000 ≤ 200 * 12000000 := Nat.mul_le_mul_right _ hl
  simp only [allSum]
  omega
theorem getElem?_toB (l : List UInt8) (k : Nat) (hk : k < l.length) : (toB l)[k]? = some l[k] := by
 have h : k < (toB l).size := hk
 rw [getElem?_pos (toB l) k h]
 rfl
theorem op_indexStr {E : Env} {rec : Rec} {tm : List PV} {st : St} {x i : Opd} : stepOp E rec tm st (.indexStr x i) = match x.ev tm, i.ev tm with
  | .str s, .int _ i => if 0 ≤ i then (s[i.toNat]?).map (fun b => .val (.int .u8 b.toNat) st) else none
  | _, _ => none := rfl
theorem strs_enc : ∀ l : List (List UInt8), strs (l.flatMap encS) = some (l.map toB)
 | [] => rfl
 | s :: l => by rw [List.flatMap_cons]; simp only [encS, List.singleton_append, strs, strs_enc l, Option.map_some, List.map_cons]
theorem c138 (v : PV) (l : List (List UInt8)) (sep : List UInt8) (hv : SlOf 1 encS v l) (hne : l ≠ []) (hl : l.length ≤ 1000) (hs : sep.length ≤ 1000) (hb : ∀ s ∈ l, s.length ≤ 1000) (st : St) : Cl EE (.func 138 [] []) [v, .str (toB sep)] st (.ret (.str (toB (List.intercalate sep l)))) st := by
 refine ⟨1, fun k hk => ?_⟩
 obtain ⟨m, rfl⟩ : ∃ m, k = m + 1 := ⟨k - 1, by omega⟩
 show stepCall EE (run EE m) (.func 138 [] []) [v, .str (toB sep)] st = _
 have h2 : EE.prim 138 (run EE m) ([] ++ [v, .str (toB sep)] ++ []) st = joinR st [v, .str (toB sep)] := rfl
 have h1 := hv.sl
 have h3 : joinR st [v, .str (toB sep)] = some (some (.ret (.str (toB (List.intercalate sep l))), st)) := by
  cases v <;> simp only [PV.sl, Option.some.injEq, Prod.mk.injEq, reduceCtorEq] at h1
  ·obtain ⟨rfl, rfl⟩ := h1
   simp only [joinR, strs_enc, size_toB, unB_toB, List.map_map]
   have e1 : l.map (unB ∘ toB) = l := by
    have : (unB ∘ toB) = id := by funext x; rfl
    rw [this, List.map_id]
   rw [if_pos, e1]
   refine ⟨?_, hl, hs, ?_⟩
   ·rw [flatMap_len (sz := 1) (fun _ _ => rfl)]; omega
   ·rw [List.all_eq_true]
    intro s hs
    simp only [List.mem_map] at hs
    obtain ⟨x, hx, rfl⟩ := hs
    exact decide_eq_true (hb x hx)
  ·exact absurd (List.eq_nil_of_length_eq_zero h1.1.symm) hne
 simp only [stepCall, enter, h2, h3]
theorem inter_len (b : Nat) : ∀ l : List (List UInt8), (∀ s ∈ l, s.length ≤ b) → (List.intercalate [10] l).length ≤ l.length * (b + 1)
 | [], _ => by simp [List.intercalate]
 | [x], h => by
  have := h x (by simp)
  simp [List.intercalate]; omega
 | x :: y :: l, h => by
  have h1 := inter_len b (y :: l) (fun s hs => h s (by simp [hs]))
  have h2 := h x (by simp)
  have e : List.intercalate [10] (x :: y :: l) = x ++ ([10] ++ List.intercalate [10] (y :: l)) := by simp [List.intercalate]
  rw [e]
  simp only [List.length_append, List.length_cons, List.length_nil] at h1 ⊢
  have e2 : (l.length + 1 + 1) * (b + 1) = (l.length + 1) * (b + 1) + (b + 1) := Nat.succ_mul _ _
  omega
theorem wops_add {E : Env} {Q : Ex → List PV → St → Prop} {tm : List PV} {st : St} {x y : Opd} {dst : Option Nat} {g : Option (Nat × Bool)} {os : List DOper} {b : Bool} {s t : List UInt8} (hw : wants tm g = b) (hb : b = true) (hx : x.ev tm = .str (toB s)) (hy : y.ev tm = .str (toB t)) (hl : s.length + t.length ≤ 1000000) (h : WOps E os Q (put tm dst (.str (toB (s ++ t)))) st) : WOps E (⟨.binS .add x y, dst, g⟩ :: os) Q tm st :=
 wops_one (hw.trans hb) (fun rec => by simp only [op_binS, hx, hy, binS_add, hl, if_true, Option.map_some]) h
structure OkW (c : CL) : Prop where
 room : 0 ≤ c.room ∧ c.room < 100
 depth : 0 ≤ c.depth ∧ c.depth < 100
 figs : ∀ f ∈ c.figs, (0 ≤ f.size ∧ f.size < 100) ∧ (0 ≤ f.rank ∧ f.rank < 100) ∧ (0 ≤ f.eve ∧ f.eve < 100)
 len : c.figs.length ≤ 150
theorem OkW.of {c : CL} (h : listB c = true) : OkW c := by
 simp only [listB, inB, Bool.and_eq_true, decide_eq_true_eq, List.all_eq_true] at h
 refine ⟨by omega, by omega, fun f hf => ?_, by omega⟩
 have := h.2.2.2 f hf
 simp only [figB, inB, Bool.and_eq_true, decide_eq_true_eq] at this
 omega
theorem rowsL_len (c : CL) : ∀ r ∈ rowsL c, r.length ≤ 15 := by
 intro r hr
 simp only [rowsL, List.mem_cons, List.mem_map] at hr
 rcases hr with rfl | ⟨f, hf, rfl⟩
 ·have := rowL_len chestW [c.room, c.depth]; simp [chestW] at this ⊢; omega
 ·have := rowL_len figW [f.size, f.rank, f.eve]; simp [figW, figRow] at this ⊢; omega
theorem c136h (c : CL) (F : PV) (hr : 0 ≤ c.room ∧ c.room < 100) (hd : 0 ≤ c.depth ∧ c.depth < 100) (st : St) : Cl EE (.func 136 [] []) [.iface 142 (clPV c F)] st (.ret (.str (toB (rowL chestW [c.room, c.depth])))) st :=
 c136 142 200 201 0 (clPV c F) chestW [c.room, c.depth] rfl rfl (fun st => c200 _ _ rfl st) (fun st => c201 c F st) (.inl ⟨rfl, rfl⟩) (by simp; exact ⟨hr, hd⟩) (by simp) st
theorem c136f (f : Fig) (h : (0 ≤ f.size ∧ f.size < 100) ∧ (0 ≤ f.rank ∧ f.rank < 100) ∧ (0 ≤ f.eve ∧ f.eve < 100)) (st : St) : Cl EE (.func 136 [] []) [.iface 144 (figPV f)] st (.ret (.str (toB (figRow f)))) st :=
 c136 144 202 203 1 (figPV f) figW [f.size, f.rank, f.eve] rfl rfl (fun st => c202 _ _ rfl st) (fun st => c203 f st) (.inr ⟨rfl, rfl⟩) (by simp; exact h) (by simp) st
theorem encS_cell : ∀ l : List (List UInt8), (l.flatMap encS).all PV.isCell = true
 | [] => rfl
 | f :: l => by rw [List.flatMap_cons, List.all_append, encS_cell l]; rfl
attribute [go_sem] encS
set_option maxHeartbeats 8000000 in
theorem c115 (c : CL) (F : PV) (hF : SlOf 3 encF F c.figs) (hc : OkW c) (st : St) : Cl EE (.func 115 [] []) [clPV c F] st (.ret (.str (toB (textL c)))) st := by
 have hFc := hF.cells
 have hFi := hF.isCell
 have hFs := hF.slen
 have hlen := hc.len
 refine cl_fn (pr115 · _ _) fn115 1 rfl (by decide) (fun tm hl hg => ?_); have h0 : tg tm 0 = clPV c F := (hg 0 (by decide)); clear hg
 refine go (bw3 hl h0 hFs) (bw (c136h c F hc.room hc.depth) fnil) ?_
 refine wp_range c.figs.length [3] (fun i vs st' => ∃ v, vs = [v] ∧ OwnS st.heap.length st' 1 v ((rowsL c).take (i + 1)).length (((rowsL c).take (i + 1)).flatMap encS) ∧ st.heap.length ≤ st'.lo ∧ st'.lo ≤ st'.heap.length) (by omega) (by simp only [go_sem, hl]) (by simp only [go_sem, hl]) (by simp only [go_sem, hl]) (by decide) ⟨_, by simp only [go_sem, hl]; rfl, ⟨by simp [rowsL, encS], .inr ⟨st.heap.length + 1, by simp [rowsL, encS], by omega, by simp only [go_sem]⟩⟩, by simp [lo_push], by simp only [lo_push, len_push]; omega⟩ ?_ ?_
 ·rintro i hi tm1 st1 ⟨v, hv, hO, hlo, hwf⟩ hS hia
  simp only [List.map_cons, List.map_nil, List.cons.injEq, and_true] at hv
  have hl1 : tm1.length = 77 := (by rw [hS.1]; simp only [put_len, hl]); have i16 : tg tm1 16 = F := (by rw [hS.2 16 (by decide)]; simp only [go_sem, hl]); clear hS
  have hf := hc.figs _ (List.getElem_mem hi)
  have hrl : (rowsL c).length = c.figs.length + 1 := by simp [rowsL]
  have hll : ((rowsL c).take (i + 1)).length = i + 1 := by simp [hrl]; omega
  refine go (bw4 hl1 i16 hia hv) (bw (c136f _ hf) fnil) ?_
  refine wops_append rfl rfl (by simp only [go_sem, hl1, hv]; first | done | rfl) (by simp only [go_sem, hl1, hv]; first | done | rfl) ((hO.push.setVar (by simp [hp_push])).push) rfl (by first | omega | (simp only [len_push, len_setVar]; omega)) (by rfl) (by rfl) (by simp only [maxList]; omega) ?_
  intro v' st2 hO' hFr hk
  have f1 := hFr.lo
  have f2 := hFr.up
  have f3 := hFr.len
  simp only [lo_push, lo_setVar, len_push, len_setVar] at f1 f2 f3
  refine go hl1 fnil ?_
  refine ⟨v', by simp only [go_sem, hl1], ?_, by omega, by omega⟩
  have hn1 : i + 1 < (rowsL c).length := by omega
  rw [List.take_succ_eq_append_getElem hn1]
  have hri : (rowsL c)[i + 1] = figRow c.figs[i] := by simp [rowsL]
  rw [hri]
  simpa [share_str, encS] using hO'
 ·rintro tm1 st1 ⟨v, hv, hO, hlo, hwf⟩ hS
  simp only [List.map_cons, List.map_nil, List.cons.injEq, and_true] at hv
  have hrl : (rowsL c).length = c.figs.length + 1 := by simp [rowsL]
  rw [← hrl, List.take_length] at hO
  have hl1 : tm1.length = 77 := (by rw [hS.1]; simp only [put_len, hl]); clear hS
  have hV : SlOf 1 encS v (rowsL c) := SlOf.of_sl hO.sl rfl rfl (fun _ => rfl)
  have hVs := hV.slen
  have hrows := rowsL_len c
  refine go (bw3 hl1 hv hVs) fnil ?_
  have hab := allSum_bound (rows := rowsL c) (fun r hr => by have := hrows r hr; omega)
  refine wp_range (rowsL c).length [6] (fun i vs st' => vs = [iv (allSum (rowsL c) i)] ∧ st' = st1) (by omega) (by simp only [go_sem, hl1]) (by simp only [go_sem, hl1]) (by simp only [go_sem, hl1]) (by decide) ⟨by simp only [go_sem, hl1]; rfl, rfl⟩ ?_ ?_
  ·rintro i hi tm2 st2 ⟨hv6, rfl⟩ hS hia
   simp only [List.map_cons, List.map_nil, List.cons.injEq, and_true] at hv6
   have hl2 : tm2.length = 77 := (by rw [hS.1]; simp only [put_len, hl1]); have i30 : tg tm2 30 = v := (by rw [hS.2 30 (by decide)]; simp only [go_sem, hl1, hv]); clear hS
   have hri := hrows _ (List.getElem_mem hi)
   have hgi : (rowsL c).getD i [] = (rowsL c)[i] := by rw [List.getD_eq_getElem?_getD, List.getElem?_eq_getElem hi]; rfl
   have habi := hab i (by omega)
   refine go (bw3 hl2 i30 hia) fnil ?_
   refine wp_range (rowsL c)[i].length [6] (fun k vs st' => vs = [iv ((allSum (rowsL c) i + rowSum i (rowsL c)[i] k : Nat) : Int)] ∧ st' = st2) (by omega) (by simp only [go_sem, hl2]) (by simp only [go_sem, hl2]) (by simp only [go_sem, hl2]) (by decide) ⟨by simp only [go_sem, hl2, hv6]; rfl, rfl⟩ ?_ ?_
   ·rintro k hk tm3 st3 ⟨hw6, rfl⟩ hS hka
    simp only [List.map_cons, List.map_nil, List.cons.injEq, and_true] at hw6
    have hl3 : tm3.length = 77 := (by rw [hS.1]; simp only [put_len, hl2]); have k7 : tg tm3 7 = iv i := (by rw [hS.2 7 (by decide)]; simp only [go_sem, hl2, hia]); have k8 : tg tm3 8 = .str (toB (rowsL c)[i]) := (by rw [hS.2 8 (by decide)]; simp only [go_sem, hl2, hia]); clear hS
    have hgk : (rowsL c)[i].getD k 0 = (rowsL c)[i][k] := by rw [List.getD_eq_getElem?_getD, List.getElem?_eq_getElem hk]; rfl
    have hix := getElem?_toB (rowsL c)[i] k hk
    have hrb := rowSum_bound (i := i) (r := (rowsL c)[i]) (by omega) (k + 1) (by omega)
    generalize hbd : (rowsL c)[i][k] = b at hix hgk
    have hb255 : b.toNat < 256 := b.toNat_lt
    have hk0 : ((0 : Int) ≤ (k : Int)) = True := by simp
    have w46 : IntKind.wrap .i64 (b.toNat : Int) = (b.toNat : Int) := wrap_nat (by omega)
    have w48 : IntKind.wrap .i64 ((k : Int) + 1) = ((k + 1 : Nat) : Int) := wrap_nat (n := k + 1) (by omega)
    have w51 : IntKind.wrap .i64 ((i : Int) + 1) = ((i + 1 : Nat) : Int) := wrap_nat (n := i + 1) (by omega)
    have b1 : b.toNat * (k + 1) ≤ 255 * 16 := Nat.mul_le_mul (by omega) (by omega)
    have b2 : b.toNat * (k + 1) * (i + 1) ≤ 255 * 16 * 151 := Nat.mul_le_mul b1 (by omega)
    have w49 : IntKind.wrap .i64 ((b.toNat : Int) * ((k + 1 : Nat) : Int)) = ((b.toNat * (k + 1) : Nat) : Int) := by rw [← Int.natCast_mul]; exact wrap_nat (by omega)
    have w52 : IntKind.wrap .i64 (((b.toNat * (k + 1) : Nat) : Int) * ((i + 1 : Nat) : Int)) = ((b.toNat * (k + 1) * (i + 1) : Nat) : Int) := by rw [← Int.natCast_mul]; exact wrap_nat (by omega)
    have e53 : allSum (rowsL c) i + rowSum i (rowsL c)[i] (k + 1) = allSum (rowsL c) i + rowSum i (rowsL c)[i] k + b.toNat * (k + 1) * (i + 1) := by simp only [rowSum, hgk]; omega
    have w53 : IntKind.wrap .i64 (((allSum (rowsL c) i + rowSum i (rowsL c)[i] k : Nat) : Int) + ((b.toNat * (k + 1) * (i + 1) : Nat) : Int)) = ((allSum (rowsL c) i + rowSum i (rowsL c)[i] (k + 1) : Nat) : Int) := by
     rw [← Int.natCast_add, ← e53]; exact wrap_nat (by omega)
    refine go (bw15 hl3 k7 k8 hka hw6 @op_indexStr hk0 Int.toNat_natCast hix w46 w48 w49 w51 w52 w53) fnil ?_
    exact ⟨by simp only [go_sem, hl3], rfl⟩
   ·rintro tm3 st3 ⟨hw6, rfl⟩ hS
    simp only [List.map_cons, List.map_nil, List.cons.injEq, and_true] at hw6
    have hl3 : tm3.length = 77 := (by rw [hS.1]; simp only [put_len, hl2]); clear hS
    refine go hl3 fnil ?_
    refine ⟨?_, rfl⟩
    simp only [go_sem, hl3, hw6]
    simp only [allSum, hgi]
  ·rintro tm2 st2 ⟨hv6, rfl⟩ hS
   simp only [List.map_cons, List.map_nil, List.cons.injEq, and_true] at hv6
   have hl2 : tm2.length = 77 := (by rw [hS.1]; simp only [put_len, hl1]); have i3 : tg tm2 3 = v := (by rw [hS.2 3 (by decide)]; simp only [go_sem, hl1, hv]); clear hS
   have habn := hab (rowsL c).length (by omega)
   have er : endRow (rowsL c) 211 = endW ++ itoaL (allSum (rowsL c) (rowsL c).length % 211 / 100) ++ itoaL (allSum (rowsL c) (rowsL c).length % 211 / 10 % 10) ++ itoaL (allSum (rowsL c) (rowsL c).length % 211 % 10) := rfl
   generalize hAd : allSum (rowsL c) (rowsL c).length = A at hv6 habn er
   have w57 : Int.tmod (A : Int) 211 = ((A % 211 : Nat) : Int) := by rw [Int.natCast_emod]; exact Int.tmod_eq_emod_of_nonneg (by omega)
   have hC : A % 211 < 211 := Nat.mod_lt _ (by omega)
   generalize hCd : A % 211 = C at w57 hC er
   have w60 : IntKind.wrap .i64 (Int.tdiv (C : Int) 100) = ((C / 100 : Nat) : Int) := by rw [Int.tdiv_eq_ediv_of_nonneg (by omega)]; exact wrap_nat (n := C / 100) (by omega)
   have w64 : IntKind.wrap .i64 (Int.tdiv (C : Int) 10) = ((C / 10 : Nat) : Int) := by rw [Int.tdiv_eq_ediv_of_nonneg (by omega)]; exact wrap_nat (n := C / 10) (by omega)
   have w65 : Int.tmod ((C / 10 : Nat) : Int) 10 = ((C / 10 % 10 : Nat) : Int) := by rw [Int.natCast_emod]; exact Int.tmod_eq_emod_of_nonneg (by omega)
   have w69 : Int.tmod (C : Int) 10 = ((C % 10 : Nat) : Int) := by rw [Int.natCast_emod]; exact Int.tmod_eq_emod_of_nonneg (by omega)
   have hz : ((211 : Int) = 0) = False := by simp
   have hz2 : ((100 : Int) = 0) = False := by simp
   have hz3 : ((10 : Int) = 0) = False := by simp
   refine go (bw11 hl2 i3 hv6 w57 w60 w64 w65 w69 hz hz2 hz3) (bw c137 fnil) ?_
   have i1 := itoaL_len (C / 100)
   have i2 := itoaL_len (C / 10 % 10)
   have i4 := itoaL_len (C % 10)
   have i5 : endW.length = 4 := rfl
   refine wops_add (s := endW) rfl rfl (by simp only [go_sem, hl2]; first | done | rfl) (by simp only [go_sem, hl2, Int.toNat_natCast]; first | done | rfl) (by first | omega | (simp only [List.length_append, List.length_cons, List.length_nil]; omega)) ?_
   refine go (bw10 hl2 hv6 w57 w60 w64 w65 w69 hz hz2 hz3) (bw c137 fnil) ?_
   refine wops_add rfl rfl (by simp only [go_sem, hl2]; first | done | rfl) (by simp only [go_sem, hl2, Int.toNat_natCast]; first | done | rfl) (by first | omega | (simp only [List.length_append, List.length_cons, List.length_nil]; omega)) ?_
   refine go (bw10 hl2 hv6 w57 w60 w64 w65 w69 hz hz2 hz3) (bw c137 fnil) ?_
   refine wops_add rfl rfl (by simp only [go_sem, hl2]; first | done | rfl) (by simp only [go_sem, hl2, Int.toNat_natCast]; first | done | rfl) (by first | omega | (simp only [List.length_append, List.length_cons, List.length_nil]; omega)) ?_
   refine go hl2 fnil ?_
   have erl : (endRow (rowsL c) 211).length ≤ 10 := by rw [er]; simp [endW]; omega
   rw [← er]
   generalize hRd : endRow (rowsL c) 211 = R at erl
   have ht : textL c = List.intercalate [10] (rowsL c ++ [R]) ++ [10] := by rw [textL, sealL, hRd]
   rw [ht]
   refine wops_append rfl rfl (by simp only [go_sem, hl2]; first | done | rfl) (by simp only [go_sem, hl2]; first | done | rfl) (hO.push) rfl (by first | omega | (simp only [len_push, len_setVar]; omega)) (by rfl) (by rfl) (by simp only [maxList]; omega) ?_
   intro v' st3 hO' hFr hk
   have f1 := hFr.lo
   have f2 := hFr.up
   have f3 := hFr.len
   simp only [lo_push, len_push] at f1 f2 f3
   have hV' : SlOf 1 encS v' (rowsL c ++ [R]) := SlOf.of_sl hO'.sl (by simp) (by simp [share_str, encS]) (fun _ => rfl)
   have hjoin := c138 v' (rowsL c ++ [R]) [10] hV' (by simp) (by simp; omega) (by simp) (fun s hs => by
    rcases List.mem_append.1 hs with h | h
    ·have := hrows s h; omega
    ·simp only [List.mem_singleton] at h; subst h; omega) st3
   refine go hl2 (bw hjoin fnil) ?_
   have hil := inter_len 15 (rowsL c ++ [R]) (fun s hs => by
    rcases List.mem_append.1 hs with h | h
    ·exact hrows s h
    ·simp only [List.mem_singleton] at h; subst h; omega)
   have hil2 : (rowsL c ++ [R]).length ≤ 152 := by simp; omega
   have hil3 : (rowsL c ++ [R]).length * 16 ≤ 152 * 16 := Nat.mul_le_mul_right _ hil2
   refine wops_add (s := List.intercalate [10] (rowsL c ++ [R])) (t := [10]) rfl rfl (by simp only [go_sem, hl2]; first | done | rfl) (by simp only [go_sem, hl2]; first | done | rfl) (by simp only [List.length_cons, List.length_nil]; omega) ?_
   refine go hl2 fnil ?_
   refine fnq_flat (results_one (by rw [rdRes_tmp]; simp only [go_sem, hl2]; first | done | rfl)) (by omega) (by rfl)
end Go.Den.Ch
end

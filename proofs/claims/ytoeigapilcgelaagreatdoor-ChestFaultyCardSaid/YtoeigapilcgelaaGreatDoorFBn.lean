/- Part of the proof that for every input the function ChestFaulty returns true and each argument reads as it did. Texts: ChW. -/
import Derived.Test.YtoeigapilcgelaaGreatDoorFBm
set_option linter.unusedSimpArgs false
set_option linter.unusedVariables false
section
namespace Go.Den.Ch
def figRow (f : Fig) : List UInt8 := rowL figW [f.size, f.rank, f.eve]
def rowsL (c : CL) : List (List UInt8) := rowL chestW [c.room, c.depth] :: c.figs.map figRow
def rowSum (i : Nat) (r : List UInt8) : Nat → Nat
  | 0 => 0
  | k + 1 => rowSum i r k + (r.getD k 0).toNat * (k + 1) * (i + 1)
def allSum (rows : List (List UInt8)) : Nat → Nat
  | 0 => 0
  | i + 1 => allSum rows i + rowSum i (rows.getD i []) (rows.getD i []).length
def endW : List UInt8 := [101, 110, 100, 32]
def endRow (rows : List (List UInt8)) (m : Nat) : List UInt8 := endW ++ itoaL (allSum rows rows.length % m / 100) ++ itoaL (allSum rows rows.length % m / 10 % 10) ++ itoaL (allSum rows rows.length % m % 10)
def sealL (rows : List (List UInt8)) (m : Nat) : List UInt8 := List.intercalate [10] (rows ++ [endRow rows m]) ++ [10]
def textL (c : CL) : List UInt8 := sealL (rowsL c) 211
theorem rowSum_bound {i : Nat} {r : List UInt8} (hi : i ≤ 200) : ∀ k, k ≤ 200 → rowSum i r k ≤ k * 12000000
  | 0, _ => by simp [rowSum]
  | k + 1, hk => by
    have := rowSum_bound (i := i) (r := r) hi k (by omega)
    have hb : (r.getD k 0).toNat ≤ 255 := by have := (r.getD k 0).toNat_lt; omega
    have h1 : (r.getD k 0).toNat * (k + 1) ≤ 255 * 200 := Nat.mul_le_mul hb (by omega)
    have h2 : (r.getD k 0).toNat * (k + 1) * (i + 1) ≤ 255 * 200 * 201 := Nat.mul_le_mul h1 (by omega)
    simp only [rowSum]
    omega
theorem allSum_bound {rows : List (List UInt8)} (h : ∀ r ∈ rows, r.length ≤ 200) : ∀ i, i ≤ 200 → allSum rows i ≤ i * 2400000000
  | 0, _ => by simp [allSum]
  | i + 1, hi => by
    have h0 := allSum_bound h i (by omega)
    have hl : (rows.getD i []).length ≤ 200 := by
      rw [List.getD_eq_getElem?_getD]
      cases hr : rows[i]? with
      | none => simp
      | some r => exact h r (List.mem_of_getElem? hr)
    have h1 := rowSum_bound (i := i) (r := rows.getD i []) (by omega) _ hl
    have h2 : (rows.getD i []).length * 12000000 ≤ 200 * 12000000 := Nat.mul_le_mul_right _ hl
    simp only [allSum]
    omega
theorem getElem?_toB (l : List UInt8) (k : Nat) (hk : k < l.length) : (toB l)[k]? = some l[k] := by
  have h : k < (toB l).size := hk
  rw [getElem?_pos (toB l) k h]
  rfl
theorem op_indexStr {E : Env} {rec : Rec} {tm : List PV} {st : St} {x i : Opd} : stepOp E rec tm st (.indexStr x i) = match x.ev tm, i.ev tm with
    | .str s, .int _ i => if 0 ≤ i then (s[i.toNat]?).map (fun b => .val (.int .u8 b.toNat) st) else none
    | _, _ => none := rfl
theorem strs_enc : ∀ l : List (List UInt8), strs (l.flatMap encS) = some (l.map toB)
  | [] => rfl
  | s :: l => by rw [List.flatMap_cons]; simp only [encS, List.singleton_append, strs, strs_enc l, Option.map_some, List.map_cons]
theorem c138 (v : PV) (l : List (List UInt8)) (sep : List UInt8) (hv : SlOf 1 encS v l) (hne : l ≠ []) (hl : l.length ≤ 1000) (hs : sep.length ≤ 1000) (hb : ∀ s ∈ l, s.length ≤ 1000) (st : St) : Cl EE (.func 138 [] []) [v, .str (toB sep)] st (.ret (.str (toB (List.intercalate sep l)))) st := by
  refine ⟨1, fun k hk => ?_⟩
  obtain ⟨m, rfl⟩ : ∃ m, k = m + 1 := ⟨k - 1, by omega⟩
  show stepCall EE (run EE m) (.func 138 [] []) [v, .str (toB sep)] st = _
  have h2 : EE.prim 138 (run EE m) ([] ++ [v, .str (toB sep)] ++ []) st = joinR st [v, .str (toB sep)] := rfl
  have h1 := hv.sl
  have h3 : joinR st [v, .str (toB sep)] = some (some (.ret (.str (toB (List.intercalate sep l))), st)) := by
    cases v <;> simp only [PV.sl, Option.some.injEq, Prod.mk.injEq, reduceCtorEq] at h1
    · obtain ⟨rfl, rfl⟩ := h1
      simp only [joinR, strs_enc, size_toB, unB_toB, List.map_map]
      have e1 : l.map (unB ∘ toB) = l := by
        have : (unB ∘ toB) = id := by funext x; rfl
        rw [this, List.map_id]
      rw [if_pos, e1]
      refine ⟨?_, hl, hs, ?_⟩
      · rw [flatMap_len (sz := 1) (fun _ _ => rfl)]; omega
      · rw [List.all_eq_true]
        intro s hs
        simp only [List.mem_map] at hs
        obtain ⟨x, hx, rfl⟩ := hs
        exact decide_eq_true (hb x hx)
    · exact absurd (List.eq_nil_of_length_eq_zero h1.1.symm) hne
  simp only [stepCall, enter, h2, h3]
theorem inter_len (b : Nat) : ∀ l : List (List UInt8), (∀ s ∈ l, s.length ≤ b) → (List.intercalate [10] l).length ≤ l.length * (b + 1)
  | [], _ => by simp [List.intercalate]
  | [x], h => by
    have := h x (by simp)
    simp [List.intercalate]; omega
  | x :: y :: l, h => by
    have h1 := inter_len b (y :: l) (fun s hs => h s (by simp [hs]))
    have h2 := h x (by simp)
    have e : List.intercalate [10] (x :: y :: l) = x ++ ([10] ++ List.intercalate [10] (y :: l)) := by simp [List.intercalate]
    rw [e]
    simp only [List.length_append, List.length_cons, List.length_nil] at h1 ⊢
    have e2 : (l.length + 1 + 1) * (b + 1) = (l.length + 1) * (b + 1) + (b + 1) := Nat.succ_mul _ _
    omega
theorem wops_add {E : Env} {Q : Ex → List PV → St → Prop} {tm : List PV} {st : St} {x y : Opd} {dst : Option Nat} {g : Option (Nat × Bool)} {os : List DOper} {b : Bool} {s t : List UInt8} (hw : wants tm g = b) (hb : b = true) (hx : x.ev tm = .str (toB s)) (hy : y.ev tm = .str (toB t)) (hl : s.length + t.length ≤ 1000000) (h : WOps E os Q (put tm dst (.str (toB (s ++ t)))) st) : WOps E (⟨.binS .add x y, dst, g⟩ :: os) Q tm st :=
  wops_one (hw.trans hb) (fun rec => by simp only [op_binS, hx, hy, binS_add, hl, if_true, Option.map_some]) h
structure OkW (c : CL) : Prop where
  room : 0 ≤ c.room ∧ c.room < 100
  depth : 0 ≤ c.depth ∧ c.depth < 100
  figs : ∀ f ∈ c.figs, (0 ≤ f.size ∧ f.size < 100) ∧ (0 ≤ f.rank ∧ f.rank < 100) ∧ (0 ≤ f.eve ∧ f.eve < 100)
  len : c.figs.length ≤ 150
theorem OkW.of {c : CL} (h : listB c = true) : OkW c := by
  simp only [listB, inB, Bool.and_eq_true, decide_eq_true_eq, List.all_eq_true] at h
  refine ⟨by omega, by omega, fun f hf => ?_, by omega⟩
  have := h.2.2.2 f hf
  simp only [figB, inB, Bool.and_eq_true, decide_eq_true_eq] at this
  omega
theorem rowsL_len (c : CL) : ∀ r ∈ rowsL c, r.length ≤ 15 := by
  intro r hr
  simp only [rowsL, List.mem_cons, List.mem_map] at hr
  rcases hr with rfl | ⟨f, hf, rfl⟩
  · have := rowL_len chestW [c.room, c.depth]; simp [chestW] at this ⊢; omega
  · have := rowL_len figW [f.size, f.rank, f.eve]; simp [figW, figRow] at this ⊢; omega
theorem c136h (c : CL) (F : PV) (hr : 0 ≤ c.room ∧ c.room < 100) (hd : 0 ≤ c.depth ∧ c.depth < 100) (st : St) : Cl EE (.func 136 [] []) [.iface 142 (clPV c F)] st (.ret (.str (toB (rowL chestW [c.room, c.depth])))) st :=
  c136 142 200 201 0 (clPV c F) chestW [c.room, c.depth] rfl rfl (fun st => c200 _ _ rfl st) (fun st => c201 c F st) (.inl ⟨rfl, rfl⟩) (by simp; exact ⟨hr, hd⟩) (by simp) st
theorem c136f (f : Fig) (h : (0 ≤ f.size ∧ f.size < 100) ∧ (0 ≤ f.rank ∧ f.rank < 100) ∧ (0 ≤ f.eve ∧ f.eve < 100)) (st : St) : Cl EE (.func 136 [] []) [.iface 144 (figPV f)] st (.ret (.str (toB (figRow f)))) st :=
  c136 144 202 203 1 (figPV f) figW [f.size, f.rank, f.eve] rfl rfl (fun st => c202 _ _ rfl st) (fun st => c203 f st) (.inr ⟨rfl, rfl⟩) (by simp; exact h) (by simp) st
theorem encS_cell : ∀ l : List (List UInt8), (l.flatMap encS).all PV.isCell = true
  | [] => rfl
  | f :: l => by rw [List.flatMap_cons, List.all_append, encS_cell l]; rfl
attribute [go_sem] encS
set_option maxHeartbeats 8000000 in
theorem c115 (c : CL) (F : PV) (hF : SlOf 3 encF F c.figs) (hc : OkW c) (st : St) : Cl EE (.func 115 [] []) [clPV c F] st (.ret (.str (toB (textL c)))) st := by
  have hFc := hF.cells
  have hFi := hF.isCell
  have hFs := hF.slen
  have hlen := hc.len
  refine cl_fn (pr115 · _ _) fn115 1 rfl (by decide) (fun tm hl hg => ?_); have h0 : tg tm 0 = clPV c F := (hg 0 (by decide)); clear hg
  refine go (bw3 hl h0 hFs) (bw (c136h c F hc.room hc.depth) fnil) ?_
  refine wp_range c.figs.length [3] (fun i vs st' => ∃ v, vs = [v] ∧ OwnS st.heap.length st' 1 v ((rowsL c).take (i + 1)).length (((rowsL c).take (i + 1)).flatMap encS) ∧ st.heap.length ≤ st'.lo ∧ st'.lo ≤ st'.heap.length) (by omega) (by simp only [go_sem, hl]) (by simp only [go_sem, hl]) (by simp only [go_sem, hl]) (by decide) ⟨_, by simp only [go_sem, hl]; rfl, ⟨by simp [rowsL, encS], .inr ⟨st.heap.length + 1, by simp [rowsL, encS], by omega, by simp only [go_sem]⟩⟩, by simp [lo_push], by simp only [lo_push, len_push]; omega⟩ ?_ ?_
  · rintro i hi tm1 st1 ⟨v, hv, hO, hlo, hwf⟩ hS hia
    simp only [List.map_cons, List.map_nil, List.cons.injEq, and_true] at hv
    have hl1 : tm1.length = 77 := (by rw [hS.1]; simp only [put_len, hl]); have i16 : tg tm1 16 = F := (by rw [hS.2 16 (by decide)]; simp only [go_sem, hl]); clear hS
    have hf := hc.figs _ (List.getElem_mem hi)
    have hrl : (rowsL c).length = c.figs.length + 1 := by simp [rowsL]
    have hll : ((rowsL c).take (i + 1)).length = i + 1 := by simp [hrl]; omega
    refine go (bw4 hl1 i16 hia hv) (bw (c136f _ hf) fnil) ?_
    refine wops_append rfl rfl (by simp only [go_sem, hl1, hv]; first | done | rfl) (by simp only [go_sem, hl1, hv]; first | done | rfl) ((hO.push.setVar (by simp [hp_push])).push) rfl (by first | omega | (simp only [len_push, len_setVar]; omega)) (by rfl) (by rfl) (by simp only [maxList]; omega) ?_
    intro v' st2 hO' hFr hk
    have f1 := hFr.lo
    have f2 := hFr.up
    have f3 := hFr.len
    simp only [lo_push, lo_setVar, len_push, len_setVar] at f1 f2 f3
    refine go hl1 fnil ?_
    refine ⟨v', by simp only [go_sem, hl1], ?_, by omega, by omega⟩
    have hn1 : i + 1 < (rowsL c).length := by omega
    rw [List.take_succ_eq_append_getElem hn1]
    have hri : (rowsL c)[i + 1] = figRow c.figs[i] := by simp [rowsL]
    rw [hri]
    simpa [share_str, encS] using hO'
  · rintro tm1 st1 ⟨v, hv, hO, hlo, hwf⟩ hS
    simp only [List.map_cons, List.map_nil, List.cons.injEq, and_true] at hv
    have hrl : (rowsL c).length = c.figs.length + 1 := by simp [rowsL]
    rw [← hrl, List.take_length] at hO
    have hl1 : tm1.length = 77 := (by rw [hS.1]; simp only [put_len, hl]); clear hS
    have hV : SlOf 1 encS v (rowsL c) := SlOf.of_sl hO.sl rfl rfl (fun _ => rfl)
    have hVs := hV.slen
    have hrows := rowsL_len c
    refine go (bw3 hl1 hv hVs) fnil ?_
    have hab := allSum_bound (rows := rowsL c) (fun r hr => by have := hrows r hr; omega)
    refine wp_range (rowsL c).length [6] (fun i vs st' => vs = [iv (allSum (rowsL c) i)] ∧ st' = st1) (by omega) (by simp only [go_sem, hl1]) (by simp only [go_sem, hl1]) (by simp only [go_sem, hl1]) (by decide) ⟨by simp only [go_sem, hl1]; rfl, rfl⟩ ?_ ?_
    · rintro i hi tm2 st2 ⟨hv6, rfl⟩ hS hia
      simp only [List.map_cons, List.map_nil, List.cons.injEq, and_true] at hv6
      have hl2 : tm2.length = 77 := (by rw [hS.1]; simp only [put_len, hl1]); have i30 : tg tm2 30 = v := (by rw [hS.2 30 (by decide)]; simp only [go_sem, hl1, hv]); clear hS
      have hri := hrows _ (List.getElem_mem hi)
      have hgi : (rowsL c).getD i [] = (rowsL c)[i] := by rw [List.getD_eq_getElem?_getD, List.getElem?_eq_getElem hi]; rfl
      have habi := hab i (by omega)
      refine go (bw3 hl2 i30 hia) fnil ?_
      refine wp_range (rowsL c)[i].length [6] (fun k vs st' => vs = [iv ((allSum (rowsL c) i + rowSum i (rowsL c)[i] k : Nat) : Int)] ∧ st' = st2) (by omega) (by simp only [go_sem, hl2]) (by simp only [go_sem, hl2]) (by simp only [go_sem, hl2]) (by decide) ⟨by simp only [go_sem, hl2, hv6]; rfl, rfl⟩ ?_ ?_
      · rintro k hk tm3 st3 ⟨hw6, rfl⟩ hS hka
        simp only [List.map_cons, List.map_nil, List.cons.injEq, and_true] at hw6
        have hl3 : tm3.length = 77 := (by rw [hS.1]; simp only [put_len, hl2]); have k7 : tg tm3 7 = iv i := (by rw [hS.2 7 (by decide)]; simp only [go_sem, hl2, hia]); have k8 : tg tm3 8 = .str (toB (rowsL c)[i]) := (by rw [hS.2 8 (by decide)]; simp only [go_sem, hl2, hia]); clear hS
        have hgk : (rowsL c)[i].getD k 0 = (rowsL c)[i][k] := by rw [List.getD_eq_getElem?_getD, List.getElem?_eq_getElem hk]; rfl
        have hix := getElem?_toB (rowsL c)[i] k hk
        have hrb := rowSum_bound (i := i) (r := (rowsL c)[i]) (by omega) (k + 1) (by omega)
        generalize hbd : (rowsL c)[i][k] = b at hix hgk
        have hb255 : b.toNat < 256 := b.toNat_lt
        have hk0 : ((0 : Int) ≤ (k : Int)) = True := by simp
        have w46 : IntKind.wrap .i64 (b.toNat : Int) = (b.toNat : Int) := wrap_nat (by omega)
        have w48 : IntKind.wrap .i64 ((k : Int) + 1) = ((k + 1 : Nat) : Int) := wrap_nat (n := k + 1) (by omega)
        have w51 : IntKind.wrap .i64 ((i : Int) + 1) = ((i + 1 : Nat) : Int) := wrap_nat (n := i + 1) (by omega)
        have b1 : b.toNat * (k + 1) ≤ 255 * 16 := Nat.mul_le_mul (by omega) (by omega)
        have b2 : b.toNat * (k + 1) * (i + 1) ≤ 255 * 16 * 151 := Nat.mul_le_mul b1 (by omega)
        have w49 : IntKind.wrap .i64 ((b.toNat : Int) * ((k + 1 : Nat) : Int)) = ((b.toNat * (k + 1) : Nat) : Int) := by rw [← Int.natCast_mul]; exact wrap_nat (by omega)
        have w52 : IntKind.wrap .i64 (((b.toNat * (k + 1) : Nat) : Int) * ((i + 1 : Nat) : Int)) = ((b.toNat * (k + 1) * (i + 1) : Nat) : Int) := by rw [← Int.natCast_mul]; exact wrap_nat (by omega)
        have e53 : allSum (rowsL c) i + rowSum i (rowsL c)[i] (k + 1) = allSum (rowsL c) i + rowSum i (rowsL c)[i] k + b.toNat * (k + 1) * (i + 1) := by simp only [rowSum, hgk]; omega
        have w53 : IntKind.wrap .i64 (((allSum (rowsL c) i + rowSum i (rowsL c)[i] k : Nat) : Int) + ((b.toNat * (k + 1) * (i + 1) : Nat) : Int)) = ((allSum (rowsL c) i + rowSum i (rowsL c)[i] (k + 1) : Nat) : Int) := by
          rw [← Int.natCast_add, ← e53]; exact wrap_nat (by omega)
        refine go (bw15 hl3 k7 k8 hka hw6 @op_indexStr hk0 Int.toNat_natCast hix w46 w48 w49 w51 w52 w53) fnil ?_
        exact ⟨by simp only [go_sem, hl3], rfl⟩
      · rintro tm3 st3 ⟨hw6, rfl⟩ hS
        simp only [List.map_cons, List.map_nil, List.cons.injEq, and_true] at hw6
        have hl3 : tm3.length = 77 := (by rw [hS.1]; simp only [put_len, hl2]); clear hS
        refine go hl3 fnil ?_
        refine ⟨?_, rfl⟩
        simp only [go_sem, hl3, hw6]
        simp only [allSum, hgi]
    · rintro tm2 st2 ⟨hv6, rfl⟩ hS
      simp only [List.map_cons, List.map_nil, List.cons.injEq, and_true] at hv6
      have hl2 : tm2.length = 77 := (by rw [hS.1]; simp only [put_len, hl1]); have i3 : tg tm2 3 = v := (by rw [hS.2 3 (by decide)]; simp only [go_sem, hl1, hv]); clear hS
      have habn := hab (rowsL c).length (by omega)
      have er : endRow (rowsL c) 211 = endW ++ itoaL (allSum (rowsL c) (rowsL c).length % 211 / 100) ++ itoaL (allSum (rowsL c) (rowsL c).length % 211 / 10 % 10) ++ itoaL (allSum (rowsL c) (rowsL c).length % 211 % 10) := rfl
      generalize hAd : allSum (rowsL c) (rowsL c).length = A at hv6 habn er
      have w57 : Int.tmod (A : Int) 211 = ((A % 211 : Nat) : Int) := by rw [Int.natCast_emod]; exact Int.tmod_eq_emod_of_nonneg (by omega)
      have hC : A % 211 < 211 := Nat.mod_lt _ (by omega)
      generalize hCd : A % 211 = C at w57 hC er
      have w60 : IntKind.wrap .i64 (Int.tdiv (C : Int) 100) = ((C / 100 : Nat) : Int) := by rw [Int.tdiv_eq_ediv_of_nonneg (by omega)]; exact wrap_nat (n := C / 100) (by omega)
      have w64 : IntKind.wrap .i64 (Int.tdiv (C : Int) 10) = ((C / 10 : Nat) : Int) := by rw [Int.tdiv_eq_ediv_of_nonneg (by omega)]; exact wrap_nat (n := C / 10) (by omega)
      have w65 : Int.tmod ((C / 10 : Nat) : Int) 10 = ((C / 10 % 10 : Nat) : Int) := by rw [Int.natCast_emod]; exact Int.tmod_eq_emod_of_nonneg (by omega)
      have w69 : Int.tmod (C : Int) 10 = ((C % 10 : Nat) : Int) := by rw [Int.natCast_emod]; exact Int.tmod_eq_emod_of_nonneg (by omega)
      have hz : ((211 : Int) = 0) = False := by simp
      have hz2 : ((100 : Int) = 0) = False := by simp
      have hz3 : ((10 : Int) = 0) = False := by simp
      refine go (bw11 hl2 i3 hv6 w57 w60 w64 w65 w69 hz hz2 hz3) (bw c137 fnil) ?_
      have i1 := itoaL_len (C / 100)
      have i2 := itoaL_len (C / 10 % 10)
      have i4 := itoaL_len (C % 10)
      have i5 : endW.length = 4 := rfl
      refine wops_add (s := endW) rfl rfl (by simp only [go_sem, hl2]; first | done | rfl) (by simp only [go_sem, hl2, Int.toNat_natCast]; first | done | rfl) (by first | omega | (simp only [List.length_append, List.length_cons, List.length_nil]; omega)) ?_
      refine go (bw10 hl2 hv6 w57 w60 w64 w65 w69 hz hz2 hz3) (bw c137 fnil) ?_
      refine wops_add rfl rfl (by simp only [go_sem, hl2]; first | done | rfl) (by simp only [go_sem, hl2, Int.toNat_natCast]; first | done | rfl) (by first | omega | (simp only [List.length_append, List.length_cons, List.length_nil]; omega)) ?_
      refine go (bw10 hl2 hv6 w57 w60 w64 w65 w69 hz hz2 hz3) (bw c137 fnil) ?_
      refine wops_add rfl rfl (by simp only [go_sem, hl2]; first | done | rfl) (by simp only [go_sem, hl2, Int.toNat_natCast]; first | done | rfl) (by first | omega | (simp only [List.length_append, List.length_cons, List.length_nil]; omega)) ?_
      refine go hl2 fnil ?_
      have erl : (endRow (rowsL c) 211).length ≤ 10 := by rw [er]; simp [endW]; omega
      rw [← er]
      generalize hRd : endRow (rowsL c) 211 = R at erl
      have ht : textL c = List.intercalate [10] (rowsL c ++ [R]) ++ [10] := by rw [textL, sealL, hRd]
      rw [ht]
      refine wops_append rfl rfl (by simp only [go_sem, hl2]; first | done | rfl) (by simp only [go_sem, hl2]; first | done | rfl) (hO.push) rfl (by first | omega | (simp only [len_push, len_setVar]; omega)) (by rfl) (by rfl) (by simp only [maxList]; omega) ?_
      intro v' st3 hO' hFr hk
      have f1 := hFr.lo
      have f2 := hFr.up
      have f3 := hFr.len
      simp only [lo_push, len_push] at f1 f2 f3
      have hV' : SlOf 1 encS v' (rowsL c ++ [R]) := SlOf.of_sl hO'.sl (by simp) (by simp [share_str, encS]) (fun _ => rfl)
      have hjoin := c138 v' (rowsL c ++ [R]) [10] hV' (by simp) (by simp; omega) (by simp) (fun s hs => by
        rcases List.mem_append.1 hs with h | h
        · have := hrows s h; omega
        · simp only [List.mem_singleton] at h; subst h; omega) st3
      refine go hl2 (bw hjoin fnil) ?_
      have hil := inter_len 15 (rowsL c ++ [R]) (fun s hs => by
        rcases List.mem_append.1 hs with h | h
        · exact hrows s h
        · simp only [List.mem_singleton] at h; subst h; omega)
      have hil2 : (rowsL c ++ [R]).length ≤ 152 := by simp; omega
      have hil3 : (rowsL c ++ [R]).length * 16 ≤ 152 * 16 := Nat.mul_le_mul_right _ hil2
      refine wops_add (s := List.intercalate [10] (rowsL c ++ [R])) (t := [10]) rfl rfl (by simp only [go_sem, hl2]; first | done | rfl) (by simp only [go_sem, hl2]; first | done | rfl) (by simp only [List.length_cons, List.length_nil]; omega) ?_
      refine go hl2 fnil ?_
      refine fnq_flat (results_one (by rw [rdRes_tmp]; simp only [go_sem, hl2]; first | done | rfl)) (by omega) (by rfl)
end Go.Den.Ch
end

/- Part of the proofs of laws of the package chest: the interpreter Den, its soundness, and contracts of the program's functions over it. Texts: ChX. -/
import Derived.Test.YtoeigapilcgelaaGreatDoorK2Bj
import Derived.Test.YtoeigapilcgelaaGreatDoorK2Au
set_option linter.unusedSimpArgs false
set_option linter.unusedVariables false
section
namespace Go.Den.Ch
def noneX (s : ByteArray) : PV := .iface 135 (.agg [.str s])
theorem c140 (b : Bool) (s : ByteArray) (st : St) (hwf : st.lo ≤ st.heap.length) : ClA EE (.func 140 [] []) [.bool b, .str s] st (fun r st' => st' = st ∧ ((b = true ∧ r = .ret (.tuple [])) ∨ (b = false ∧ r = .panic (noneX s)))) := by
 refine cla_fn (pr140 · _ _) fn140 2 rfl (by decide) (fun tm hl hg => ?_); have h0 : tg tm 0 = .bool b := (hg 0 (by decide)); have h1 : tg tm 1 = .str s := (hg 1 (by decide)); clear hg
 cases b
 ·refine go (bw3 hl h0 h1) fnil ?_
  refine fna_panic ⟨?_, .inr ⟨rfl, rfl⟩⟩
  simp only [Nat.min_eq_left hwf]
 ·refine go (bw3 hl h0 h1) fnil ?_
  refine fna_normal results_nil ?_
  rw [finish_tuple (Nat.le_refl _) (by rfl)]
  exact ⟨rfl, .inl ⟨rfl, rfl⟩⟩
theorem c140_ok (s : ByteArray) (st : St) : Cl EE (.func 140 [] []) [.bool true, .str s] st (.ret (.tuple [])) st := by
 refine cl_fn (pr140 · _ _) fn140 2 rfl (by decide) (fun tm hl hg => ?_); have h0 : tg tm 0 = .bool true := (hg 0 (by decide)); have h1 : tg tm 1 = .str s := (hg 1 (by decide)); clear hg
 refine go (bw3 hl h0 h1) fnil ?_
 exact fnq_tuple' results_nil (Nat.le_refl _) (by rfl)
theorem c139 (s : List UInt8) (b : UInt8) (hs : s.length ≤ 100000) (st : St) : Cl EE (.func 139 [] []) [.str (toB s), .str (toB [b])] st (.ret (.slice .shared (splitL b [] s).length ((splitL b [] s).flatMap encS))) st := by
 refine ⟨1, fun k hk => ?_⟩
 obtain ⟨m, rfl⟩ : ∃ m, k = m + 1 := ⟨k - 1, by omega⟩
 show stepCall EE (run EE m) (.func 139 [] []) [.str (toB s), .str (toB [b])] st = _
 have h2 : EE.prim 139 (run EE m) ([] ++ [.str (toB s), .str (toB [b])] ++ []) st = splitR st [.str (toB s), .str (toB [b])] := rfl
 have h3 : splitR st [.str (toB s), .str (toB [b])] = some (some (.ret (.slice .shared (splitL b [] s).length ((splitL b [] s).flatMap encS)), st)) := by
  simp only [splitR, unB_toB, size_toB, hs, if_true]
 simp only [stepCall, enter, h2, h3]
theorem splitSl (b : UInt8) (s : List UInt8) : SlOf 1 encS (.slice .shared (splitL b [] s).length ((splitL b [] s).flatMap encS)) (splitL b [] s) := ⟨rfl, fun _ _ => rfl⟩
def isDig (b : UInt8) : Bool := decide (48 ≤ b.toNat) && decide (b.toNat ≤ 57)
def valL (x : List UInt8) : Nat := x.foldl (fun n b => 10 * n + (b.toNat - 48)) 0
def numB (x : List UInt8) : Bool := x.all isDig && (decide (x.length ≤ 2) && (!(x == []) && itoaL (valL x) == x))
def numsL : List (List UInt8) → Option (List Int)
 | [] => some []
 | x :: xs => if numB x then (numsL xs).map ((valL x : Int) :: ·) else none
def kindW (k : Nat) : List UInt8 := if k = 0 then chestW else figW
def toldL (row : List UInt8) (k many : Nat) : Option (List Int) :=
 if (splitL 32 [] row).length = many + 1 ∧ (splitL 32 [] row).head? = some (kindW k) then numsL (splitL 32 [] row).tail else none
theorem numsL_snoc (l : List (List UInt8)) (x : List UInt8) : numsL (l ++ [x]) = (numsL l).bind fun ns => if numB x then some (ns ++ [(valL x : Int)]) else none := by
 induction l with
 | nil => simp [numsL]
 | cons y l ih =>
  simp only [List.cons_append, numsL, ih]
  cases numB y
  ·simp
  ·cases numsL l with
   | none => simp
   | some ns => cases numB x <;> simp
theorem numsL_bad (l : List (List UInt8)) {j : Nat} (hj : j < l.length) (h : numB l[j] = false) : numsL l = none := by
 induction l generalizing j with
 | nil => simp at hj
 | cons y l ih =>
  simp only [numsL]
  cases j with
  | zero => simp only [List.getElem_cons_zero] at h; simp [h]
  | succ j =>
   simp only [List.getElem_cons_succ] at h
   rw [ih (by simpa using hj) h]
   split <;> simp
theorem valL_snoc (x : List UInt8) (b : UInt8) : valL (x ++ [b]) = 10 * valL x + (b.toNat - 48) := by
 rw [valL, List.foldl_append]; rfl
theorem valL_bound {x : List UInt8} (hd : x.all isDig = true) (hl : x.length ≤ 2) : valL x < 100 := by
 match x, hl with
 | [], _ => decide
 | [a], _ =>
  simp only [List.all_cons, isDig, Bool.and_eq_true, decide_eq_true_eq] at hd
  simp only [valL, List.foldl_cons, List.foldl_nil]; omega
 | [a, b], _ =>
  simp only [List.all_cons, isDig, Bool.and_eq_true, decide_eq_true_eq] at hd
  simp only [valL, List.foldl_cons, List.foldl_nil]; omega
def ToldP (ns : Option (List Int)) (st : St) (r : CR) (st' : St) : Prop := match r with
 | .ret v => ∃ l, ns = some l ∧ RetS st 1 l.length (l.flatMap encI) v st'
 | .panic v => ns = none ∧ (∃ s, v = noneX s) ∧ HExt st.heap st'.heap ∧ st'.lo = st.lo
theorem splitL_len (b : UInt8) : ∀ (acc s : List UInt8), (splitL b acc s).length ≤ s.length + 1
 | acc, [] => by simp [splitL]
 | acc, x :: xs => by
  simp only [splitL]
  split
  ·have := splitL_len b [] xs; simp; omega
  ·have := splitL_len b (acc ++ [x]) xs; simp; omega
theorem splitL_mem (b : UInt8) (m : Nat) : ∀ (acc s : List UInt8), acc.length + s.length ≤ m → ∀ p ∈ splitL b acc s, p.length ≤ m
 | acc, [], h, p, hp => by simp [splitL] at hp; subst hp; simpa using h
 | acc, x :: xs, h, p, hp => by
  simp only [List.length_cons] at h
  simp only [splitL] at hp
  split at hp
  ·rcases List.mem_cons.1 hp with rfl | hp
   ·omega
   ·exact splitL_mem b m [] xs (by simp; omega) p hp
  ·exact splitL_mem b m (acc ++ [x]) xs (by simp; omega) p hp
theorem getB (l : List UInt8) (p : Nat) (h : p < l.length) : (toB l).get! p = l[p] := by
 show (l.toArray)[p]! = l[p]
 rw [getElem!_pos _ _ (by simpa using h)]
 simp
theorem words_at (k : Nat) (hk : k = 0 ∨ k = 1) {x i : Opd} (tm : List PV) (st : St) (hx : x.ev tm = .agg [.str (toB chestW), .str (toB figW)]) (hi : i.ev tm = iv k) (rec : Rec) : stepOp EE rec tm st (.indexArr false 2 1 x i) = some (.val (.str (toB (kindW k))) st) := by
 rcases hk with rfl | rfl
 ·simp only [op_indexArr, hx, hi]; rfl
 ·simp only [op_indexArr, hx, hi]; rfl
theorem told_panic {st : St} {ns : Option (List Int)} {tm : List PV} {S : St} {s : ByteArray} (hwf : st.lo ≤ st.heap.length) (hx : HExt st.heap S.heap) (hlo : st.heap.length ≤ S.lo) (hn : ns = none) : FnA [.tmp 6] st (ToldP ns st) (.panic (noneX s)) tm S :=
 fna_panic ⟨hn, ⟨s, rfl⟩, hx, by show min st.lo S.lo = st.lo; omega⟩
set_option maxHeartbeats 8000000 in
theorem c141 (row : List UInt8) (k many : Nat) (hk : k = 0 ∨ k = 1) (hm : many ≤ 3) (hrow : row.length ≤ 1000) (st : St) (hwf0 : st.lo ≤ st.heap.length) : ClA EE (.func 141 [] []) [.str (toB row), iv k, iv many] st (ToldP (toldL row k many) st) := by
 have hV := splitSl 32 row
 have hVl := splitL_len 32 [] row
 have hpm := splitL_mem 32 1000 [] row (by simpa using hrow)
 refine cla_fn (pr141 · _ _) fn141 3 rfl (by decide) (fun tm hl hg => ?_); have h0 : tg tm 0 = .str (toB row) := (hg 0 (by decide)); have h1 : tg tm 1 = iv k := (hg 1 (by decide)); have h2 : tg tm 2 = iv many := (hg 2 (by decide)); clear hg
 have hsp := c139 row 32 (by omega)
 generalize hps : splitL 32 [] row = ps at hV hsp hVl hpm
 generalize hVd : PV.slice Own.shared ps.length (ps.flatMap encS) = V at hV hsp
 have hVs := hV.slen
 have hVc := hV.cells
 have hw19 : IntKind.wrap .i64 ((many : Int) + 1) = ((many + 1 : Nat) : Int) := wrap_nat (n := many + 1) (by omega)
 cases hlen : ((ps.length : Int) == ((many + 1 : Nat) : Int))
 ·have hn : toldL row k many = none := by
   have : ¬ (ps.length : Int) = ((many + 1 : Nat) : Int) := by rw [beq_eq_false_iff_ne] at hlen; exact hlen
   unfold toldL
   rw [hps, if_neg (fun h => this (by omega))]
  refine go (bw7 hl h0 h1 h2 hVs hw19 hlen) (bw hsp fnil) ?_
  refine wopsD_callA rfl rfl (by simp only [go_sem, hl]; first | done | rfl) (by simp only [go_sem, hl, h0]; exact c140 false (toB row) _ (Nat.le_refl _)) ?_ ?_
  ·rintro v st1 ⟨_, ⟨h, _⟩ | ⟨_, h⟩⟩
   ·cases h
   ·cases h
  ·rintro v st1 ⟨rfl, ⟨h, _⟩ | ⟨_, h⟩⟩
   ·cases h
   ·cases h
    refine ⟨footOk_quiet (by rfl), ?_⟩
    refine go fnil fnil ?_
    exact told_panic hwf0 (.refl _) (by show st.heap.length ≤ min _ _; simp) hn
 ·have hlen' : ps.length = many + 1 := by have := eq_of_beq hlen; omega
  have hp0 : 0 < ps.length := by omega
  refine go (bw7 hl h0 h1 h2 hVs hw19 hlen) (bw3 hsp c149 fnil) ?_
  refine wopsD_pure (v := .str (toB (kindW k))) (Nat.le_refl _) (by simp only [go_sem, hl]; first | done | rfl) (fun rec st1 he => words_at k hk _ _ (by simp only [go_sem, hl]; first | done | rfl) (by simp only [go_sem, hl]; first | done | rfl) rec) ?_
  cases hw0 : (ps[0] == kindW k)
  ·have hn : toldL row k many = none := by
    unfold toldL
    rw [hps, if_neg]
    rintro ⟨_, h⟩
    rw [List.head?_eq_getElem?, List.getElem?_eq_getElem hp0] at h
    have := Option.some.inj h
    rw [this] at hw0
    simp at hw0
   refine go (bw8 hl h0 h1 h2 hVs hw19 hlen hw0) (bw3 hsp c149 fnil) ?_
   refine wopsD_callA rfl rfl (by simp only [go_sem, hl]; first | done | rfl) (by simp only [go_sem, hl, h0]; exact c140 false (toB row) _ (Nat.le_refl _)) ?_ ?_
   ·rintro v st1 ⟨_, ⟨h, _⟩ | ⟨_, h⟩⟩
    ·cases h
    ·cases h
   ·rintro v st1 ⟨rfl, ⟨h, _⟩ | ⟨_, h⟩⟩
    ·cases h
    ·cases h
     refine ⟨footOk_quiet (by rfl), ?_⟩
     refine go fnil fnil ?_
     exact told_panic hwf0 (.refl _) (by show st.heap.length ≤ min _ _; simp) hn
  ·have ht : toldL row k many = numsL ps.tail := by
    unfold toldL
    rw [hps, if_pos]
    refine ⟨hlen', ?_⟩
    rw [List.head?_eq_getElem?, List.getElem?_eq_getElem hp0, eq_of_beq hw0]
   refine go (bw8 hl h0 h1 h2 hVs hw19 hlen hw0) (bw4 hsp c149 c140_ok fnil) ?_
   refine wops_slice rfl rfl (by simp only [go_sem, hl]; first | done | rfl) hV (m := ps.length) (n := 1) (by rfl) (by rfl) (by omega) (by omega) ?_
   intro V2 hV2
   have e2 : (ps.drop 1).take (ps.length - 1) = ps.tail := by rw [List.drop_one, List.take_of_length_le (by simp)]
   rw [e2] at hV2
   have hV2s := hV2.slen
   rw [ht]
   have hpt : ∀ p ∈ ps.tail, p.length ≤ 1000 := fun p hp => hpm p (List.mem_of_mem_tail hp)
   have htl : ps.tail.length = many := by rw [List.length_tail]; omega
   generalize ps.tail = T at hV2 hV2s hpt htl ⊢
   refine go (bw hl hV2s) fnil ?_
   refine wp_range T.length [8] (fun j vs st' => ∃ ns v, vs = [v] ∧ numsL (T.take j) = some ns ∧ OwnS st.heap.length st' 1 v ns.length (ns.flatMap encI) ∧ ns.length = j ∧ HExt st.heap st'.heap ∧ st.heap.length ≤ st'.lo ∧ st'.lo ≤ st'.heap.length) (by omega) (by simp only [go_sem, hl]) (by simp only [go_sem, hl]) (by simp only [go_sem, hl]) (by decide) ⟨[], .nilslice, by simp only [go_sem, hl], rfl, .nil, rfl, .refl _, by simp, by simp⟩ ?_ ?_
   ·rintro j hj tm1 st1 ⟨ns, v, hv, hns, hO, hnl, hx, hlo, hwf⟩ hS hja
    simp only [List.map_cons, List.map_nil, List.cons.injEq, and_true] at hv
    have hl1 : tm1.length = 79 := (by rw [hS.1]; simp only [put_len, hl]); have i33 : tg tm1 33 = V2 := (by rw [hS.2 33 (by decide)]; simp only [go_sem, hl]); clear hS
    have hxl := hpt _ (List.getElem_mem hj)
    have hln1 := hx.1
    have hmj : j < many := by omega
    refine go (bw4 hl1 i33 hja @op_rangeStr) fnil ?_
    apply wp_block
    refine wp_loopF (fun kk tm2 st2 => ∃ p, p ≤ T[j].length ∧ kk = T[j].length - p ∧ tg tm2 11 = iv (valL (T[j].take p)) ∧ hp st2 st1.heap.length = some (.iter (toB T[j]) p) ∧ (∀ l, l ≠ st1.heap.length → hp st2 l = hp (st1.push (.iter (toB T[j]) 0)) l) ∧ st2.heap.length = st1.heap.length + 1 ∧ (T[j].take p).all isDig = true ∧ (p = 0 ∨ T[j].length ≤ 2) ∧ st.heap.length ≤ st2.lo ∧ st2.lo ≤ st2.heap.length) ?_ T[j].length ⟨0, Nat.zero_le _, by omega, by simp only [go_sem, hl1]; rfl, by simp only [go_sem], fun _ _ => rfl, len_push _ _, rfl, .inl rfl, hlo, by rw [lo_push, len_push]; omega⟩
    rintro kk tm2 st2 ⟨p, hp1, rfl, t11, hit, hoth, hln2, hall, hpl, hlo2, hwf2⟩ hS
    have hl2 : tm2.length = 79 := (by rw [hS.1]; simp only [put_len, hl1]); have t8 : tg tm2 8 = v := (by rw [hS.2 8 (by decide)]; simp only [go_sem, hl1, hv]); have t10 : tg tm2 10 = .str (toB T[j]) := (by rw [hS.2 10 (by decide)]; simp only [go_sem, hl1, hv]); have t40 : tg tm2 40 = .ptr st1.heap.length 0 := (by rw [hS.2 40 (by decide)]; simp only [go_sem, hl1, hv]); clear hS
    have hxs : HExt st.heap st2.heap := ⟨by omega, fun l hl => by
     have h1 := hoth l (by omega)
     have h2 : hp (st1.push (.iter (toB T[j]) 0)) l = hp st1 l := by rw [hp_push, if_neg (by omega)]
     exact (h1.trans h2).trans (hx.2 l hl)⟩
    have lit := hp_lt hit
    apply wp_seq
    apply wp_region_ops
    by_cases hpx : p < T[j].length
    ·refine wops_one (v := _) (st1 := _) rfl (fun rec => step_next (by simp only [go_sem, hl2, t40]; first | done | rfl) hit hpx) ?_
     have hgb : (toB T[j]).get! p = T[j][p] := by
      exact getB T[j] p hpx
     have htk : T[j].take (p + 1) = T[j].take p ++ [T[j][p]] := List.take_succ_eq_append_getElem hpx
     by_cases hdig : isDig T[j][p] = true
     ·have hdg := hdig
      simp only [isDig, Bool.and_eq_true, decide_eq_true_eq] at hdg
      have hdec : Utf8.decode (toB T[j]) p = (T[j][p].toNat, 1) := by rw [decode_low _ _ (by rw [hgb]; omega), hgb]
      rw [hdec]
      generalize hbd : T[j][p] = b at hgb htk hdig hdg
      have d1 : decide (((b.toNat : Nat) : Int) ≥ 48) = true := by simp; omega
      have d2 : decide (((b.toNat : Nat) : Int) ≤ 57) = true := by simp; omega
      by_cases h2 : T[j].length ≤ 2
      ·have d3 : decide ((T[j].length : Int) ≤ 2) = true := by simp; omega
       have hvb : valL (T[j].take p) < 100 := valL_bound hall (by simp; omega)
       have w58 : IntKind.wrap .i64 (10 * ((valL (T[j].take p) : Nat) : Int)) = ((10 * valL (T[j].take p) : Nat) : Int) := wrap_nat (n := 10 * valL (T[j].take p)) (by omega)
       have w60 : IntKind.wrap .i32 (((b.toNat : Nat) : Int) - 48) = ((b.toNat - 48 : Nat) : Int) := by
        simp [IntKind.wrap, IntKind.bits, IntKind.signed]
        omega
       have w61 : IntKind.wrap .i64 ((b.toNat - 48 : Nat) : Int) = ((b.toNat - 48 : Nat) : Int) := wrap_nat (by omega)
       have e62 : valL (T[j].take (p + 1)) = 10 * valL (T[j].take p) + (b.toNat - 48) := by rw [htk, valL_snoc]
       have w62 : IntKind.wrap .i64 (((10 * valL (T[j].take p) : Nat) : Int) + ((b.toNat - 48 : Nat) : Int)) = ((valL (T[j].take (p + 1)) : Nat) : Int) := by
        rw [e62, ← Int.natCast_add]; exact wrap_nat (by omega)
       refine go (bw10 hl2 t10 t11 d1 d2 d3 w58 w60 w61 w62) (bw c140_ok fnil) ?_
       refine ⟨T[j].length - (p + 1), by omega, p + 1, by omega, rfl, by simp only [go_sem, hl2], ?_, fun l hl => ?_, by rw [len_setVar]; exact hln2, ?_, .inr h2, by rw [lo_setVar]; omega, by rw [lo_setVar, len_setVar]; omega⟩
       ·rw [hp_setVar, if_pos rfl, if_pos lit]
       ·rw [hp_setVar, if_neg hl]; exact hoth l hl
       ·rw [htk, List.all_append, hall]; simp [hdig]
      ·have d3 : decide ((T[j].length : Int) ≤ 2) = false := by simp; omega
       have hnb : numB T[j] = false := by simp [numB]; intro _ h; omega
       refine go (bw6 hl2 t10 t11 d1 d2 d3) fnil ?_
       refine wops_callA rfl rfl (by simp only [go_sem, hl2]; first | done | rfl) (by simp only [go_sem, hl2, t10]; exact c140 false (toB T[j]) _ (by rw [lo_setVar, len_setVar]; omega)) ?_ ?_
       ·rintro v9 st9 ⟨_, ⟨h, _⟩ | ⟨_, h⟩⟩
        ·cases h
        ·cases h
       ·rintro v9 st9 ⟨rfl, ⟨h, _⟩ | ⟨_, h⟩⟩
        ·cases h
        ·cases h
         refine go fnil fnil ?_
         exact told_panic hwf0 (hxs.setVar (by omega)) (by rw [lo_setVar]; omega) (numsL_bad _ hj (hnb))
     ·have hnb : numB T[j] = false := by
       have : T[j].all isDig = false := by
        rw [List.all_eq_false]
        exact ⟨T[j][p], List.getElem_mem hpx, hdig⟩
       simp [numB, this]
      generalize hrd : (Utf8.decode (toB T[j]) p).1 = r
      have hrn : ¬ (48 ≤ r ∧ r ≤ 57) := by
       intro h
       by_cases hb : ((toB T[j]).get! p).toNat < 128
       ·rw [decode_low _ _ hb, hgb] at hrd
        simp only at hrd
        apply hdig
        simp only [isDig, Bool.and_eq_true, decide_eq_true_eq]
        omega
       ·have := decode_high (toB T[j]) p (by omega)
        omega
      by_cases h1 : 48 ≤ r
      ·have d1 : decide ((r : Int) ≥ 48) = true := by simp; omega
       have d2 : decide ((r : Int) ≤ 57) = false := by simp; omega
       refine go (bw5 hl2 t10 t11 d1 d2) fnil ?_
       refine wops_callA rfl rfl (by simp only [go_sem, hl2]; first | done | rfl) (by simp only [go_sem, hl2, t10]; exact c140 false (toB T[j]) _ (by rw [lo_setVar, len_setVar]; omega)) ?_ ?_
       ·rintro v9 st9 ⟨_, ⟨h, _⟩ | ⟨_, h⟩⟩
        ·cases h
        ·cases h
       ·rintro v9 st9 ⟨rfl, ⟨h, _⟩ | ⟨_, h⟩⟩
        ·cases h
        ·cases h
         refine go fnil fnil ?_
         exact told_panic hwf0 (hxs.setVar (by omega)) (by rw [lo_setVar]; omega) (numsL_bad _ hj (hnb))
      ·have d1 : decide ((r : Int) ≥ 48) = false := by simp; omega
       refine go (bw4 hl2 t10 t11 d1) fnil ?_
       refine wops_callA rfl rfl (by simp only [go_sem, hl2]; first | done | rfl) (by simp only [go_sem, hl2, t10]; exact c140 false (toB T[j]) _ (by rw [lo_setVar, len_setVar]; omega)) ?_ ?_
       ·rintro v9 st9 ⟨_, ⟨h, _⟩ | ⟨_, h⟩⟩
        ·cases h
        ·cases h
       ·rintro v9 st9 ⟨rfl, ⟨h, _⟩ | ⟨_, h⟩⟩
        ·cases h
        ·cases h
         refine go fnil fnil ?_
         exact told_panic hwf0 (hxs.setVar (by omega)) (by rw [lo_setVar]; omega) (numsL_bad _ hj (hnb))
    ·have hpe : p = T[j].length := by omega
     refine wops_one (v := _) (st1 := _) rfl (fun rec => step_end (by simp only [go_sem, hl2, t40]; first | done | rfl) hit hpx) ?_
     rw [hpe, List.take_length] at hall t11
     refine go (bw3 hl2 t10 t11) fnil ?_
     cases hx0 : (T[j] == [])
     ·have hl22 : T[j].length ≤ 2 := by
       rcases hpl with h | h
       ·exfalso
        have : T[j] = [] := List.eq_nil_of_length_eq_zero (by omega)
        rw [this] at hx0; cases hx0
       ·exact h
      have hvb := valL_bound hall hl22
      cases hit2 : (itoaL (valL T[j]) == T[j])
      ·have hnb : numB T[j] = false := by unfold numB; rw [hall, hx0, hit2]; simp
       refine go (bw6 hl2 t10 t11 hx0 hit2 Int.toNat_natCast) (bw c137 fnil) ?_
       refine wops_callA rfl rfl (by simp only [go_sem, hl2]; first | done | rfl) (by simp only [go_sem, hl2, t10]; exact c140 false (toB T[j]) _ hwf2) ?_ ?_
       ·rintro v9 st9 ⟨_, ⟨h, _⟩ | ⟨_, h⟩⟩
        ·cases h
        ·cases h
       ·rintro v9 st9 ⟨rfl, ⟨h, _⟩ | ⟨_, h⟩⟩
        ·cases h
        ·cases h
         refine go fnil fnil ?_
         exact told_panic hwf0 hxs hlo2 (numsL_bad _ hj hnb)
      ·have hnb : numB T[j] = true := by unfold numB; rw [hall, hx0, hit2]; simp [hl22]
       refine go (bw6 hl2 t10 t11 hx0 hit2 Int.toNat_natCast) (bw3 c137 c140_ok fnil) ?_
       have hO2 : OwnS st.heap.length st2 1 v ns.length (ns.flatMap encI) := hO.keep fun t ht1 ht2 => by
        have hlt := hp_lt ht2
        rw [hoth t (by omega), hp_push, if_neg (by omega)]
        exact ht2
       refine wops_append rfl rfl (by simp only [go_sem, hl2, t8]; first | done | rfl) (by simp only [go_sem, hl2, t8]; first | done | rfl) (hO2.push) rfl (by first | omega | (simp only [len_push, len_setVar]; omega)) (by rfl) (by rfl) (by simp only [maxList]; omega) ?_
       intro v' st3 hO' hFr hk3
       have f1 := hFr.lo
       have f2 := hFr.up
       have f3 := hFr.len
       simp only [lo_push, len_push] at f1 f2 f3
       refine go hl2 fnil ?_
       refine ⟨ns ++ [((valL T[j] : Nat) : Int)], v', by simp only [go_sem, hl2], ?_, ?_, by simp [hnl], (hxs.trans (HExt.push st2 _)).fr hFr, by omega, by omega⟩
       ·rw [List.take_succ_eq_append_getElem hj, numsL_snoc, hns]
        simp [hnb]
       ·have e1 : (ns ++ [((valL T[j] : Nat) : Int)]).length = ns.length + 1 := by simp
        have e3 : (ns ++ [((valL T[j] : Nat) : Int)]).flatMap encI = ns.flatMap encI ++ [iv ((valL T[j] : Nat) : Int)] := by simp
        rw [e1, e3]
        simpa [share_int] using hO'
     ·have hnb : numB T[j] = false := by unfold numB; rw [hx0]; simp
      refine go (bw4 hl2 t10 t11 hx0) fnil ?_
      refine wops_callA rfl rfl (by simp only [go_sem, hl2]; first | done | rfl) (by simp only [go_sem, hl2, t10]; exact c140 false (toB T[j]) _ hwf2) ?_ ?_
      ·rintro v9 st9 ⟨_, ⟨h, _⟩ | ⟨_, h⟩⟩
       ·cases h
       ·cases h
      ·rintro v9 st9 ⟨rfl, ⟨h, _⟩ | ⟨_, h⟩⟩
       ·cases h
       ·cases h
        refine go fnil fnil ?_
        exact told_panic hwf0 hxs hlo2 (numsL_bad _ hj hnb)
   ·rintro tm1 st1 ⟨ns, v, hv, hns, hO, hnl, hx, hlo, hwf⟩ hS
    simp only [List.map_cons, List.map_nil, List.cons.injEq, and_true] at hv
    have hl1 : tm1.length = 79 := (by rw [hS.1]; simp only [put_len, hl]); clear hS
    rw [List.take_length] at hns
    refine go (bw hl1 hv) fnil ?_
    exact fna_ret (results_one (v := v) (by rw [rdRes_tmp]; simp only [go_sem, hl1])) ⟨ns, hns, hO.finish hlo (fun m c hc => encI_low _ m c hc)⟩
end Go.Den.Ch
end

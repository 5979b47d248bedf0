/- Part of the proof that for every input the function ChestPrints returns true and each argument reads as it did. Texts: ChPr. -/
import Derived.Test.YtoeigapilcgelaaGreatDoorK2Bq
set_option linter.unusedSimpArgs false
set_option linter.unusedVariables false
section
namespace Go.Den.Ch
theorem splitL_app (b : UInt8) : ∀ (x acc y : List UInt8), splitL b acc (x ++ b :: y) = splitL b acc x ++ splitL b [] y
 | [], acc, y => by simp [splitL]
 | z :: x, acc, y => by
  simp only [List.cons_append, splitL]
  split
  ·rw [splitL_app b x [] y]; rfl
  ·exact splitL_app b x _ y
theorem splitL_none (b : UInt8) : ∀ (x acc : List UInt8), b ∉ x → splitL b acc x = [acc ++ x]
 | [], acc, _ => by simp [splitL]
 | z :: x, acc, h => by
  simp only [List.mem_cons, not_or] at h
  rw [splitL, if_neg (Ne.symm h.1), splitL_none b x _ h.2]
  simp
theorem snoc_ind {α : Type} {P : List α → Prop} (h0 : P []) (h1 : ∀ l a, P l → P (l ++ [a])) (l : List α) : P l := by
 have : ∀ m : List α, P m.reverse := by
  intro m
  induction m with
  | nil => exact h0
  | cons a m ih => rw [List.reverse_cons]; exact h1 _ _ ih
 rw [← List.reverse_reverse l]
 exact this _
theorem rowL_snoc (w : List UInt8) (ns : List Int) (n : Int) : rowL w (ns ++ [n]) = rowL w ns ++ 32 :: itoaL n.toNat := by
 rw [rowL, List.foldl_append]; rfl
theorem itoaL_mem {n : Nat} (h : n < 100) : ∀ b ∈ itoaL n, 48 ≤ b.toNat ∧ b.toNat ≤ 57 := by
 have : ∀ n : Fin 100, (itoaL n.val).all (fun b => decide (48 ≤ b.toNat) && decide (b.toNat ≤ 57)) = true := by decide +kernel
 have h1 := this ⟨n, h⟩
 intro b hb
 have := List.all_eq_true.1 h1 b hb
 simpa using this
theorem itoaL_num {n : Nat} (h : n < 100) : numB (itoaL n) = true ∧ valL (itoaL n) = n := by
 have : ∀ n : Fin 100, (numB (itoaL n.val) && decide (valL (itoaL n.val) = n.val)) = true := by decide +kernel
 have h1 := this ⟨n, h⟩
 simpa using h1
theorem rowL_split {w : List UInt8} (hw : (32 : UInt8) ∉ w) : ∀ (ns : List Int), (∀ n ∈ ns, 0 ≤ n ∧ n < 100) → splitL 32 [] (rowL w ns) = w :: ns.map fun n => itoaL n.toNat := by
 refine snoc_ind (P := fun ns => (∀ n ∈ ns, 0 ≤ n ∧ n < 100) → splitL 32 [] (rowL w ns) = w :: ns.map fun n => itoaL n.toNat) ?_ ?_
 ·intro _; exact splitL_none 32 w [] hw
 ·intro ns n ih h
  have hn := h n (by simp)
  rw [rowL_snoc, splitL_app, ih (fun x hx => h x (by simp [hx])), splitL_none 32 _ _ (fun hb => by
   have := itoaL_mem (show n.toNat < 100 by omega) _ hb
   revert this; decide)]
  simp
theorem numsL_map : ∀ (ns : List Int), (∀ n ∈ ns, 0 ≤ n ∧ n < 100) → numsL (ns.map fun n => itoaL n.toNat) = some ns
 | [], _ => rfl
 | n :: ns, h => by
  have hn := h n (by simp)
  obtain ⟨h1, h2⟩ := itoaL_num (show n.toNat < 100 by omega)
  rw [List.map_cons, numsL, h1, if_pos rfl, numsL_map ns (fun x hx => h x (by simp [hx])), h2, Int.toNat_of_nonneg hn.1]; rfl
theorem told_row {k : Nat} {w : List UInt8} (hk : kindW k = w) (hw : (32 : UInt8) ∉ w) (ns : List Int) (h : ∀ n ∈ ns, 0 ≤ n ∧ n < 100) : toldL (rowL w ns) k ns.length = some ns := by
 unfold toldL
 rw [rowL_split hw ns h, if_pos ⟨by simp, by simp [hk]⟩]
 exact numsL_map ns h
theorem rowL_no {w : List UInt8} (hw : (10 : UInt8) ∉ w) : ∀ (ns : List Int), (∀ n ∈ ns, 0 ≤ n ∧ n < 100) → (10 : UInt8) ∉ rowL w ns := by
 refine snoc_ind (P := fun ns => (∀ n ∈ ns, 0 ≤ n ∧ n < 100) → (10 : UInt8) ∉ rowL w ns) ?_ ?_
 ·intro _; exact hw
 ·intro ns n ih h
  have hn := h n (by simp)
  rw [rowL_snoc]
  simp only [List.mem_append, List.mem_cons, not_or]
  refine ⟨ih (fun x hx => h x (by simp [hx])), by decide, fun hb => ?_⟩
  have := itoaL_mem (show n.toNat < 100 by omega) _ hb
  revert this; decide
theorem splitL_join : ∀ rows : List (List UInt8), (∀ r ∈ rows, (10 : UInt8) ∉ r) → splitL 10 [] (joinL rows) = rows ++ [[]]
 | [], _ => rfl
 | r :: rows, h => by
  have e : joinL (r :: rows) = r ++ 10 :: joinL rows := by simp [joinL]
  rw [e, splitL_app, splitL_none 10 r [] (h r (by simp)), splitL_join rows (fun x hx => h x (by simp [hx]))]
  simp
theorem seal_join (rows : List (List UInt8)) (m : Nat) : sealL rows m = joinL (rows ++ [endRow rows m]) := by
 rw [sealL, inter_out]; simp [joinL]
theorem end_no (rows : List (List UInt8)) : (10 : UInt8) ∉ endRow rows 211 ∧ (endRow rows 211).length ≤ 10 := by
 unfold endRow
 have h : allSum rows rows.length % 211 < 211 := Nat.mod_lt _ (by decide)
 generalize allSum rows rows.length % 211 = s at h
 have hd : ∀ n, n < 100 → (10 : UInt8) ∉ itoaL n := fun n hn hb => by
  have := itoaL_mem hn _ hb
  revert this; decide
 constructor
 ·simp only [List.mem_append, not_or]
  exact ⟨⟨⟨by decide, hd _ (by omega)⟩, hd _ (by omega)⟩, hd _ (by omega)⟩
 ·have h1 := itoaL_len (s / 100)
  have h2 := itoaL_len (s / 10 % 10)
  have h3 := itoaL_len (s % 10)
  simp only [List.length_append, endW, List.length_cons, List.length_nil]
  omega
theorem figsL_map : ∀ (fs : List Fig), (∀ f ∈ fs, (0 ≤ f.size ∧ f.size < 100) ∧ (0 ≤ f.rank ∧ f.rank < 100) ∧ (0 ≤ f.eve ∧ f.eve < 100)) → figsL (fs.map figRow) = some fs
 | [], _ => rfl
 | f :: fs, h => by
  have hf := h f (by simp)
  have e : toldL (figRow f) 1 3 = some [f.size, f.rank, f.eve] := told_row (k := 1) (w := figW) rfl (by decide) [f.size, f.rank, f.eve] (by simp only [List.mem_cons, List.not_mem_nil, or_false]; rintro n (rfl | rfl | rfl) <;> omega)
  rw [List.map_cons, figsL, e]
  simp only
  rw [figsL_map fs (fun g hg => h g (by simp [hg]))]
  rfl
theorem rows_no {c : CL} (hc : OkW c) : ∀ r ∈ rowsL c, (10 : UInt8) ∉ r := fun r hr => by
 simp only [rowsL, List.mem_cons, List.mem_map] at hr
 rcases hr with rfl | ⟨f, hf, rfl⟩
 ·exact rowL_no (by decide) _ (by simp only [List.mem_cons, List.not_mem_nil, or_false]; rintro n (rfl | rfl) <;> first | exact hc.room | exact hc.depth)
 ·have := hc.figs f hf
  exact rowL_no (w := figW) (by decide) [f.size, f.rank, f.eve] (by simp only [List.mem_cons, List.not_mem_nil, or_false]; rintro n (rfl | rfl | rfl) <;> omega)
theorem text_rows {c : CL} (hc : OkW c) : splitL 10 [] (textL c) = rowsL c ++ [endRow (rowsL c) 211] ++ [[]] := by
 rw [textL, seal_join]
 refine splitL_join _ fun r hr => ?_
 rcases List.mem_append.1 hr with h | h
 ·exact rows_no hc r h
 ·rw [List.mem_singleton.1 h]; exact (end_no _).1
theorem parsed_text {c : CL} (hc : OkW c) : parsedL (textL c) = some c := by
 have e1 : rowsP (splitL 10 [] (textL c)) = some c := by
  rw [text_rows hc]
  unfold rowsP
  have hl : (rowsL c ++ [endRow (rowsL c) 211] ++ [[]]).length = c.figs.length + 3 := by simp [rowsL]
  rw [hl, if_pos (by omega)]
  have e2 : (rowsL c ++ [endRow (rowsL c) 211] ++ [[]]).headD [] = rowL chestW [c.room, c.depth] := rfl
  have e3 : toldL (rowL chestW [c.room, c.depth]) 0 2 = some [c.room, c.depth] := told_row (k := 0) (w := chestW) rfl (by decide) [c.room, c.depth] (by simp only [List.mem_cons, List.not_mem_nil, or_false]; rintro n (rfl | rfl) <;> first | exact hc.room | exact hc.depth)
  have e4 : ((rowsL c ++ [endRow (rowsL c) 211] ++ [[]]).drop 1).take (c.figs.length + 3 - 2 - 1) = c.figs.map figRow := by
   have : (rowsL c ++ [endRow (rowsL c) 211] ++ [[]]).drop 1 = c.figs.map figRow ++ ([endRow (rowsL c) 211] ++ [[]]) := by simp [rowsL]
   rw [this, show c.figs.length + 3 - 2 - 1 = (c.figs.map figRow).length by simp, List.take_left']
   rfl
  rw [e2, e3, e4]
  simp only
  rw [figsL_map c.figs hc.figs]
  rfl
 unfold parsedL
 rw [e1]
 simp
theorem text_len {c : CL} (hA : listB c = true) : (textL c).length ≤ 150 := by
 rw [textL, seal_join]
 have h1 := joinL_len (rows := rowsL c ++ [endRow (rowsL c) 211]) (fun r hr => by
  rcases List.mem_append.1 hr with h | h
  ·exact rowsL_len c r h
  ·rw [List.mem_singleton.1 h]; have := (end_no (rowsL c)).2; omega) (rowsL c ++ [endRow (rowsL c) 211]).length
 rw [List.take_length] at h1
 have h2 : (rowsL c ++ [endRow (rowsL c) 211]).length = c.figs.length + 2 := by simp [rowsL]
 have h3 := (OkL.of hA).len
 rw [h2] at h1
 omega
theorem read_text {c : CL} (hA : listB c = true) : readR (textL c) = (c, 0) := by
 have := text_len hA
 rw [readR, if_neg (by omega), parsed_text (OkW.of hA)]
 simp only
 rw [if_pos hA]
theorem c69 (c : CL) (F : PV) (hF : SlOf 3 encF F c.figs) (st : St) : Cl EE (.func 69 [] []) [clPV c F] st (.ret (.tuple (if listB c then [.str (toB (textL c)), iv 0] else [.str (toB []), iv 2]))) st := by
 have hFc := hF.cells
 have hFi := hF.isCell
 refine cl_fn (pr69 · _ _) fn69 1 rfl (by decide) (fun tm hl hg => ?_); have h0 : tg tm 0 = clPV c F := (hg 0 (by decide)); clear hg
 have k77 := c77 c F hF
 cases hA : listB c
 ·refine go (bw3 hl h0 hA) (bw k77 fnil) ?_
  refine fnq_tuple (results_two (v := .str (toB [])) (u := iv 2) ?_ ?_) (by first | omega | (simp only [lo_push, lo_setVar]; omega)) (by rfl)
  ·rw [rdRes_tmp]; simp only [↓reduceIte, go_sem, hl]
  ·rw [rdRes_tmp]; simp only [↓reduceIte, go_sem, hl]
 ·have k115 := c115 c F hF (OkW.of hA)
  refine go (bw3 hl h0 hA) (bw3 k77 k115 fnil) ?_
  refine fnq_tuple (results_two (v := .str (toB (textL c))) (u := iv 0) ?_ ?_) (by first | omega | (simp only [lo_push, lo_setVar]; omega)) (by rfl)
  ·rw [rdRes_tmp]; simp only [↓reduceIte, go_sem, hl]
  ·rw [rdRes_tmp]; simp only [↓reduceIte, go_sem, hl]
set_option maxHeartbeats 4000000 in
theorem c72 (c : CL) (F G : PV) (hF : SlOf 3 encF F c.figs) (hG : SlOf 3 encF G c.figs) (hN : c.figs.length < 1000) (st : St) : Cl EE (.func 72 [] []) [clPV c F, clPV c G] st (.ret (.bool true)) st := by
 have hFc := hF.cells
 have hFi := hF.isCell
 have hFs := hF.slen
 have hGc := hG.cells
 have hGi := hG.isCell
 have hGs := hG.slen
 refine cl_fn (pr72 · _ _) fn72 2 rfl (by decide) (fun tm hl hg => ?_); have h0 : tg tm 0 = clPV c F := (hg 0 (by decide)); have h1 : tg tm 1 = clPV c G := (hg 1 (by decide)); clear hg
 refine go (bw6 hl h0 h1 hFs hGs nne) fnil ?_
 refine wp_for [5] (fun i vs s => vs = [iv i] ∧ i ≤ c.figs.length ∧ s = (({ heap := st.heap, lo := st.heap.length } : St).push (.var [iv c.room, iv c.depth, F])).push (.var [iv c.room, iv c.depth, G])) (fun i => c.figs.length - i) ⟨by simp only [↓reduceIte, go_sem, hl]; first | done | rfl, Nat.zero_le _, by first | done | rfl⟩ ?_
 rintro i tm1 s1 ⟨hv, hi, rfl⟩ hS
 simp only [List.map_cons, List.map_nil, List.cons.injEq, and_true] at hv
 have hl1 : tm1.length = 45 := (by rw [hS.1]; simp only [put_len, hl]); have i2 : tg tm1 2 = .ptr st.heap.length 0 := (by rw [hS.2 2 (by decide)]; simp only [↓reduceIte, go_sem, hl, h1]); have i3 : tg tm1 3 = .ptr (st.heap.length + 1) 0 := (by rw [hS.2 3 (by decide)]; simp only [↓reduceIte, go_sem, hl, h1]); clear hS
 refine go (bw4 hl1 hv i2 hFs) fnil ?_
 refine ⟨decide ((i : Int) < c.figs.length), by simp only [↓reduceIte, go_sem, hl1], fun hb => ?_, fun hb1 => ?_⟩
 ·refine go hl1 fnil ?_
  refine fnq_flat (results_one (by rw [rdRes_tmp]; simp only [↓reduceIte, go_sem, hl1]; first | done | rfl)) (by first | exact Nat.le_refl _ | omega | (simp only [lo_push, lo_setVar]; omega)) (by rfl)
 ·have hlt : i < c.figs.length := by have := of_decide_eq_true hb1; omega
  have hw1 : IntKind.wrap .i64 ((i : Int) + 1) = ((i + 1 : Nat) : Int) := wrap_nat (n := i + 1) (by omega)
  have hx : ([c.figs[i].size, c.figs[i].rank, c.figs[i].eve] == [c.figs[i].size, c.figs[i].rank, c.figs[i].eve]) = true := by simp
  refine ⟨by omega, ?_⟩
  refine go (bw6 hl1 hv i2 i3 hx hw1) fnil ?_
  exact ⟨by simp only [↓reduceIte, go_sem, hl1], by omega, rfl⟩
set_option maxHeartbeats 8000000 in
theorem c21 (c : CL) (F : PV) (hF : SlOf 3 encF F c.figs) (st : St) : Cl EE (.func 21 [] []) [clPV c F] st (.ret (.bool true)) st := by
 have hFc := hF.cells
 have hFi := hF.isCell
 have hFs := hF.slen
 refine cl_fn (pr21 · _ _) fn21 1 rfl (by decide) (fun tm hl hg => ?_); have h0 : tg tm 0 = clPV c F := (hg 0 (by decide)); clear hg
 have k30 := c30 c F hF
 cases d0 : decide (c.figs.length ≤ 8)
 ·refine go (bw3 hl h0 d0) (bw3 k30 c26 fnil) ?_
  refine fnq_flat (results_one (by rw [rdRes_tmp]; simp only [↓reduceIte, go_sem, hl]; first | done | rfl)) (by first | exact Nat.le_refl _ | omega | (simp only [lo_push, lo_setVar]; omega)) (by rfl)
 have hn8 := of_decide_eq_true d0
 have k33 := c33 c F hF (by omega)
 have k69 := c69 c F hF
 cases hA : listB c
 ·have sb : (([] : List UInt8) == []) = true := rfl
  have e2 : ((2 : Int) == 2) = true := rfl
  rw [hA] at k69
  simp only [Bool.false_eq_true, if_false] at k69
  refine go (bw6 hl h0 d0 hA sb e2) (bw5 k30 k33 k69 c26 fnil) ?_
  refine fnq_flat (results_one (by rw [rdRes_tmp]; simp only [↓reduceIte, go_sem, hl]; first | done | rfl)) (by first | exact Nat.le_refl _ | omega | (simp only [lo_push, lo_setVar]; omega)) (by rfl)
 ·rw [hA] at k69
  simp only [if_true] at k69
  have k71 := c71 c F hF (OkW.of hA)
  refine go (bw4 hl h0 d0 hA) (bw4 k30 k33 k69 fnil) ?_
  refine wops_callR rfl rfl (by simp only [↓reduceIte, go_sem, hl]; first | done | rfl) (by simp only [↓reduceIte, go_sem, hl]; exact c70 (textL c) _) ?_
  rintro v S1 ⟨G, rfl, hG, hx, hlo⟩
  rw [read_text hA] at hG ⊢
  have q1 := hx.1
  try simp only [lo_push, len_push] at q1 hlo
  have b1 := hx.hp (l := st.heap.length) (o := .var [iv c.room, iv c.depth, F]) (by simp only [↓reduceIte, go_sem])
  have m1 := hp_lt b1
  have hGc := hG.cells
  have hGi := hG.isCell
  have k72 := c72 c G F hG hF (by omega)
  have sb : (textL c == textL c) = true := by simp
  refine go (bw11 hl b1 (neL m1) (neA m1) (ltL m1) (ltA m1) m1 hGc hGi zs sb) (bw4 k71 k72 c26 fnil) ?_
  refine fnq_flat (results_one (by rw [rdRes_tmp]; simp only [↓reduceIte, go_sem, hl]; first | done | rfl)) (by first | exact Nat.le_refl _ | omega | (simp only [lo_push, lo_setVar]; omega)) (by rfl)
end Go.Den.Ch
end

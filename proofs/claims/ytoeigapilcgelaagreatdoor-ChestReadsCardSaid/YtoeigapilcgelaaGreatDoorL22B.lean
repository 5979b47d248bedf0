/- Part of the proof that for every input the function ChestReads returns true and each argument reads as it did. Texts: ChPr, ChRa, ChRb, ChRc, ChRd, ChRe. -/
import Derived.Test.YtoeigapilcgelaaGreatDoorK7Aw
set_option linter.unusedSimpArgs false
set_option linter.unusedVariables false
section
namespace Go.Den.Ch
theorem splitL_app (b : UInt8) : ∀ (x acc y : List UInt8),splitL b acc (x ++ b :: y) = splitL b acc x ++ splitL b [] y
 | [],acc,y => by simp [splitL]
 | z :: x,acc,y => by
  simp only [List.cons_append,splitL]
  split
  ·rw [splitL_app b x [] y];rfl
  ·exact splitL_app b x _ y
theorem splitL_none (b : UInt8) : ∀ (x acc : List UInt8),b ∉ x → splitL b acc x = [acc ++ x]
 | [],acc,_ => by simp [splitL]
 | z :: x,acc,h => by
  simp only [List.mem_cons,not_or] at h
  rw [splitL,if_neg (Ne.symm h.1),splitL_none b x _ h.2]
  simp
theorem snoc_ind {α : Type} {P : List α → Prop} (h0 : P []) (h1 : ∀ l a,P l → P (l ++ [a])) (l : List α) : P l := by
 have : ∀ m : List α,P m.reverse := by
  intro m
  induction m with
  | nil => exact h0
  | cons a m ih => rw [List.reverse_cons];exact h1 _ _ ih
 rw [← List.reverse_reverse l]
 exact this _
theorem rowL_snoc (w : List UInt8) (ns : List Int) (n : Int) : rowL w (ns ++ [n]) = rowL w ns ++ 32 :: itoaL n.toNat := by
 rw [rowL,List.foldl_append];rfl
theorem itoaL_mem {n : Nat} (h : n < 100) : ∀ b ∈ itoaL n,48 ≤ b.toNat ∧ b.toNat ≤ 57 := by
 have : ∀ n : Fin 100,(itoaL n.val).all (fun b => decide (48 ≤ b.toNat) && decide (b.toNat ≤ 57)) = true := by decide +kernel
 have h1 := this ⟨n,h⟩
 intro b hb
 have := List.all_eq_true.1 h1 b hb
 simpa using this
theorem itoaL_num {n : Nat} (h : n < 100) : numB (itoaL n) = true ∧ valL (itoaL n) = n := by
 have : ∀ n : Fin 100,(numB (itoaL n.val) && decide (valL (itoaL n.val) = n.val)) = true := by decide +kernel
 have h1 := this ⟨n,h⟩
 simpa using h1
theorem rowL_split {w : List UInt8} (hw : (32 : UInt8) ∉ w) : ∀ (ns : List Int),(∀ n ∈ ns,0 ≤ n ∧ n < 100) → splitL 32 [] (rowL w ns) = w :: ns.map fun n => itoaL n.toNat := by
 refine snoc_ind (P := fun ns => (∀ n ∈ ns,0 ≤ n ∧ n < 100) → splitL 32 [] (rowL w ns) = w :: ns.map fun n => itoaL n.toNat) ?_ ?_
 ·intro _;exact splitL_none 32 w [] hw
 ·intro ns n ih h
  have hn := h n (by simp)
  rw [rowL_snoc,splitL_app,ih (fun x hx => h x (by simp [hx])),splitL_none 32 _ _ (fun hb => by
   have := itoaL_mem (show n.toNat < 100 by omega) _ hb
   revert this;decide)]
  simp
theorem numsL_map : ∀ (ns : List Int),(∀ n ∈ ns,0 ≤ n ∧ n < 100) → numsL (ns.map fun n => itoaL n.toNat) = some ns
 | [],_ => rfl
 | n :: ns,h => by
  have hn := h n (by simp)
  obtain ⟨h1,h2⟩ := itoaL_num (show n.toNat < 100 by omega)
  rw [List.map_cons,numsL,h1,if_pos rfl,numsL_map ns (fun x hx => h x (by simp [hx])),h2,Int.toNat_of_nonneg hn.1];rfl
theorem told_row {k : Nat} {w : List UInt8} (hk : kindW k = w) (hw : (32 : UInt8) ∉ w) (ns : List Int) (h : ∀ n ∈ ns,0 ≤ n ∧ n < 100) : toldL (rowL w ns) k ns.length = some ns := by
 unfold toldL
 rw [rowL_split hw ns h,if_pos ⟨by simp,by simp [hk]⟩]
 exact numsL_map ns h
theorem rowL_no {w : List UInt8} (hw : (10 : UInt8) ∉ w) : ∀ (ns : List Int),(∀ n ∈ ns,0 ≤ n ∧ n < 100) → (10 : UInt8) ∉ rowL w ns := by
 refine snoc_ind (P := fun ns => (∀ n ∈ ns,0 ≤ n ∧ n < 100) → (10 : UInt8) ∉ rowL w ns) ?_ ?_
 ·intro _;exact hw
 ·intro ns n ih h
  have hn := h n (by simp)
  rw [rowL_snoc]
  simp only [List.mem_append,List.mem_cons,not_or]
  refine ⟨ih (fun x hx => h x (by simp [hx])),by decide,fun hb => ?_⟩
  have := itoaL_mem (show n.toNat < 100 by omega) _ hb
  revert this;decide
theorem splitL_join : ∀ rows : List (List UInt8),(∀ r ∈ rows,(10 : UInt8) ∉ r) → splitL 10 [] (joinL rows) = rows ++ [[]]
 | [],_ => rfl
 | r :: rows,h => by
  have e : joinL (r :: rows) = r ++ 10 :: joinL rows := by simp [joinL]
  rw [e,splitL_app,splitL_none 10 r [] (h r (by simp)),splitL_join rows (fun x hx => h x (by simp [hx]))]
  simp
theorem seal_join (rows : List (List UInt8)) (m : Nat) : sealL rows m = joinL (rows ++ [endRow rows m]) := by
 rw [sealL,inter_out];simp [joinL]
theorem end_no (rows : List (List UInt8)) : (10 : UInt8) ∉ endRow rows 211 ∧ (endRow rows 211).length ≤ 10 := by
 unfold endRow
 have h : allSum rows rows.length % 211 < 211 := Nat.mod_lt _ (by decide)
 generalize allSum rows rows.length % 211 = s at h
 have hd : ∀ n,n < 100 → (10 : UInt8) ∉ itoaL n := fun n hn hb => by
  have := itoaL_mem hn _ hb
  revert this;decide
 constructor
 ·simp only [List.mem_append,not_or]
  exact ⟨⟨⟨by decide,hd _ (by omega)⟩,hd _ (by omega)⟩,hd _ (by omega)⟩
 ·have h1 := itoaL_len (s / 100)
  have h2 := itoaL_len (s / 10 % 10)
  have h3 := itoaL_len (s % 10)
  simp only [List.length_append,endW,List.length_cons,List.length_nil]
  omega
theorem figsL_map : ∀ (fs : List Fig),(∀ f ∈ fs,(0 ≤ f.size ∧ f.size < 100) ∧ (0 ≤ f.rank ∧ f.rank < 100) ∧ (0 ≤ f.eve ∧ f.eve < 100)) → figsL (fs.map figRow) = some fs
 | [],_ => rfl
 | f :: fs,h => by
  have hf := h f (by simp)
  have e : toldL (figRow f) 1 3 = some [f.size,f.rank,f.eve] := told_row (k := 1) (w := figW) rfl (by decide) [f.size,f.rank,f.eve] (by simp only [List.mem_cons,List.not_mem_nil,or_false];rintro n (rfl | rfl | rfl) <;> omega)
  rw [List.map_cons,figsL,e]
  simp only
  rw [figsL_map fs (fun g hg => h g (by simp [hg]))]
  rfl
theorem rows_no {c : CL} (hc : OkW c) : ∀ r ∈ rowsL c,(10 : UInt8) ∉ r := fun r hr => by
 simp only [rowsL,List.mem_cons,List.mem_map] at hr
 rcases hr with rfl | ⟨f,hf,rfl⟩
 ·exact rowL_no (by decide) _ (by simp only [List.mem_cons,List.not_mem_nil,or_false];rintro n (rfl | rfl) <;> first | exact hc.room | exact hc.depth)
 ·have := hc.figs f hf
  exact rowL_no (w := figW) (by decide) [f.size,f.rank,f.eve] (by simp only [List.mem_cons,List.not_mem_nil,or_false];rintro n (rfl | rfl | rfl) <;> omega)
theorem text_rows {c : CL} (hc : OkW c) : splitL 10 [] (textL c) = rowsL c ++ [endRow (rowsL c) 211] ++ [[]] := by
 rw [textL,seal_join]
 refine splitL_join _ fun r hr => ?_
 rcases List.mem_append.1 hr with h | h
 ·exact rows_no hc r h
 ·rw [List.mem_singleton.1 h];exact (end_no _).1
theorem parsed_text {c : CL} (hc : OkW c) : parsedL (textL c) = some c := by
 have e1 : rowsP (splitL 10 [] (textL c)) = some c := by
  rw [text_rows hc]
  unfold rowsP
  have hl : (rowsL c ++ [endRow (rowsL c) 211] ++ [[]]).length = c.figs.length + 3 := by simp [rowsL]
  rw [hl,if_pos (by omega)]
  have e2 : (rowsL c ++ [endRow (rowsL c) 211] ++ [[]]).headD [] = rowL chestW [c.room,c.depth] := rfl
  have e3 : toldL (rowL chestW [c.room,c.depth]) 0 2 = some [c.room,c.depth] := told_row (k := 0) (w := chestW) rfl (by decide) [c.room,c.depth] (by simp only [List.mem_cons,List.not_mem_nil,or_false];rintro n (rfl | rfl) <;> first | exact hc.room | exact hc.depth)
  have e4 : ((rowsL c ++ [endRow (rowsL c) 211] ++ [[]]).drop 1).take (c.figs.length + 3 - 2 - 1) = c.figs.map figRow := by
   have : (rowsL c ++ [endRow (rowsL c) 211] ++ [[]]).drop 1 = c.figs.map figRow ++ ([endRow (rowsL c) 211] ++ [[]]) := by simp [rowsL]
   rw [this,show c.figs.length + 3 - 2 - 1 = (c.figs.map figRow).length by simp,List.take_left']
   rfl
  rw [e2,e3,e4]
  simp only
  rw [figsL_map c.figs hc.figs]
  rfl
 unfold parsedL
 rw [e1]
 simp
theorem text_len {c : CL} (hA : listB c = true) : (textL c).length ≤ 150 := by
 rw [textL,seal_join]
 have h1 := joinL_len (rows := rowsL c ++ [endRow (rowsL c) 211]) (fun r hr => by
  rcases List.mem_append.1 hr with h | h
  ·exact rowsL_len c r h
  ·rw [List.mem_singleton.1 h];have := (end_no (rowsL c)).2;omega) (rowsL c ++ [endRow (rowsL c) 211]).length
 rw [List.take_length] at h1
 have h2 : (rowsL c ++ [endRow (rowsL c) 211]).length = c.figs.length + 2 := by simp [rowsL]
 have h3 := (OkL.of hA).len
 rw [h2] at h1
 omega
theorem read_text {c : CL} (hA : listB c = true) : readR (textL c) = (c,0) := by
 have := text_len hA
 rw [readR,if_neg (by omega),parsed_text (OkW.of hA)]
 simp only
 rw [if_pos hA]
theorem c69 (c : CL) (F : PV) (hF : SlOf 3 encF F c.figs) (st : St) : Cl EE (.func 69 [] []) [clPV c F] st (.ret (.tuple (if listB c then [.str (toB (textL c)),iv 0] else [.str (toB []),iv 2]))) st := by
 have hFc := hF.cells
 have hFi := hF.isCell
 refine cl_fn (pr69 · _ _) fn69 1 rfl (by decide) (fun tm hl hg => ?_);have h0 : tg tm 0 = clPV c F := (hg 0 (by decide));clear hg
 have k77 := c77 c F hF
 cases hA : listB c
 ·refine go (bw3 hl h0 hA) (bw k77 fnil) ?_
  refine fnq_tuple (results_two (v := .str (toB [])) (u := iv 2) ?_ ?_) (by first | omega | (simp only [lo_push,lo_setVar];omega)) (by rfl)
  ·rw [rdRes_tmp];simp only [↓reduceIte,go_sem,hl]
  ·rw [rdRes_tmp];simp only [↓reduceIte,go_sem,hl]
 ·have k115 := c115 c F hF (OkW.of hA)
  refine go (bw3 hl h0 hA) (bw3 k77 k115 fnil) ?_
  refine fnq_tuple (results_two (v := .str (toB (textL c))) (u := iv 0) ?_ ?_) (by first | omega | (simp only [lo_push,lo_setVar];omega)) (by rfl)
  ·rw [rdRes_tmp];simp only [↓reduceIte,go_sem,hl]
  ·rw [rdRes_tmp];simp only [↓reduceIte,go_sem,hl]
set_option maxHeartbeats 4000000 in
theorem c72 (c : CL) (F G : PV) (hF : SlOf 3 encF F c.figs) (hG : SlOf 3 encF G c.figs) (hN : c.figs.length < 1000) (st : St) : Cl EE (.func 72 [] []) [clPV c F,clPV c G] st (.ret (.bool true)) st := by
 have hFc := hF.cells
 have hFi := hF.isCell
 have hFs := hF.slen
 have hGc := hG.cells
 have hGi := hG.isCell
 have hGs := hG.slen
 refine cl_fn (pr72 · _ _) fn72 2 rfl (by decide) (fun tm hl hg => ?_);have h0 : tg tm 0 = clPV c F := (hg 0 (by decide));have h1 : tg tm 1 = clPV c G := (hg 1 (by decide));clear hg
 refine go (bw6 hl h0 h1 hFs hGs nne) fnil ?_
 refine wp_for [5] (fun i vs s => vs = [iv i] ∧ i ≤ c.figs.length ∧ s = (({ heap := st.heap,lo := st.heap.length } : St).push (.var [iv c.room,iv c.depth,F])).push (.var [iv c.room,iv c.depth,G])) (fun i => c.figs.length - i) ⟨by simp only [↓reduceIte,go_sem,hl];first | done | rfl,Nat.zero_le _,by first | done | rfl⟩ ?_
 rintro i tm1 s1 ⟨hv,hi,rfl⟩ hS
 simp only [List.map_cons,List.map_nil,List.cons.injEq,and_true] at hv
 have hl1 : tm1.length = 45 := (by rw [hS.1];simp only [put_len,hl]);have i2 : tg tm1 2 = .ptr st.heap.length 0 := (by rw [hS.2 2 (by decide)];simp only [↓reduceIte,go_sem,hl,h1]);have i3 : tg tm1 3 = .ptr (st.heap.length + 1) 0 := (by rw [hS.2 3 (by decide)];simp only [↓reduceIte,go_sem,hl,h1]);clear hS
 refine go (bw4 hl1 hv i2 hFs) fnil ?_
 refine ⟨decide ((i : Int) < c.figs.length),by simp only [↓reduceIte,go_sem,hl1],fun hb => ?_,fun hb1 => ?_⟩
 ·refine go hl1 fnil ?_
  refine fnq_flat (results_one (by rw [rdRes_tmp];simp only [↓reduceIte,go_sem,hl1];first | done | rfl)) (by first | exact Nat.le_refl _ | omega | (simp only [lo_push,lo_setVar];omega)) (by rfl)
 ·have hlt : i < c.figs.length := by have := of_decide_eq_true hb1;omega
  have hw1 : IntKind.wrap .i64 ((i : Int) + 1) = ((i + 1 : Nat) : Int) := wrap_nat (n := i + 1) (by omega)
  have hx : ([c.figs[i].size,c.figs[i].rank,c.figs[i].eve] == [c.figs[i].size,c.figs[i].rank,c.figs[i].eve]) = true := by simp
  refine ⟨by omega,?_⟩
  refine go (bw6 hl1 hv i2 i3 hx hw1) fnil ?_
  exact ⟨by simp only [↓reduceIte,go_sem,hl1],by omega,rfl⟩
end Go.Den.Ch
end
section
namespace Go.Den
theorem wp_seqK {E : Env} {A B : DCode} {Q : Ex → List PV → St → Prop} {tm : List PV} {st : St} (J : List PV → St → Prop) (h : Wp E A (andThen J Q) tm st) (k : ∀ tm st,J tm st → Wp E B Q tm st) : Wp E (.seq A B) Q tm st := wp_seq (h.mono (andThen_mono k (fun _ _ _ _ h => h)))
end Go.Den
namespace Go.Den.Ch
theorem toB_extract (l : List UInt8) (a b : Nat) : (toB l).extract a b = toB ((l.drop a).take (b - a)) := by
 apply ByteArray.ext
 rw [ByteArray.data_extract]
 simp only [toB,List.extract_toArray,List.extract_eq_take_drop]
theorem step_subs {E : Env} {rec : Rec} {tm : List PV} {st : St} {x : Opd} {lo hi : Option Opd} {s : List UInt8} {a b : Nat} (hx : x.ev tm = .str (toB s)) (hb : bound tm hi s.length = some b) (ha : bound tm lo 0 = some a) (hab : a ≤ b) (hbl : b ≤ s.length) : stepOp E rec tm st (.sliceStr x lo hi) = some (.val (.str (toB ((s.drop a).take (b - a)))) st) := by
 have h1 : (toB s).size = s.length := rfl
 simp only [stepOp,hx,h1,hb,ha,if_pos (And.intro hab hbl),toB_extract]
theorem c142m (n : Nat) (h0 : 1 ≤ n) (h : n < 10) : ∃ d : List UInt8,d.length ≤ 3 ∧ ∀ st,Cl EE (.func 142 [] []) [iv (-(n : Int))] st (.ret (.str (toB d))) st := by
 have d1 : decide (-(n : Int) > -10) = true := by simp;omega
 have d2 : decide (-(n : Int) < 0) = true := by simp;omega
 have w1 : IntKind.wrap .i64 (48 - (-(n : Int))) = ((48 + n : Nat) : Int) := by rw [show 48 - (-(n : Int)) = ((48 + n : Nat) : Int) by omega];exact wrap_nat (by omega)
 have w2 : IntKind.wrap .u8 ((48 + n : Nat) : Int) = ((48 + n : Nat) : Int) := wrap8 (by omega)
 refine ⟨[45] ++ [UInt8.ofNat (48 + n)],by simp,fun st => ?_⟩
 refine cl_fn (pr142 · _ _) fn142 1 rfl (by decide) (fun tm hl hg => ?_);have h0 : tg tm 0 = iv (-(n : Int)) := (hg 0 (by decide));clear hg
 refine go (bw6 hl h0 d1 d2 w1 w2) fnil ?_
 refine wops_one (v := .str (toB [UInt8.ofNat (48 + n)])) rfl (fun rec => step_b2s (by simp only [↓reduceIte,go_sem,hl];first | done | rfl) (by omega)) ?_
 refine wops_add (s := [45]) (t := [UInt8.ofNat (48 + n)]) rfl rfl (by simp only [↓reduceIte,go_sem,hl];first | done | rfl) (by simp only [↓reduceIte,go_sem,hl];first | done | rfl) (by simp) ?_
 refine go hl fnil ?_
 exact fnq_flat (results_one (by rw [rdRes_tmp];simp only [↓reduceIte,go_sem,hl];first | done | rfl)) (by first | exact Nat.le_refl _ | (simp only [lo_push];omega)) (by rfl)
theorem c142n (n : Nat) (h0 : 1 ≤ n) (h1 : n < 100) : ∃ d : List UInt8,∀ st,Cl EE (.func 142 [] []) [iv (-(n : Int))] st (.ret (.str (toB d))) st := by
 by_cases h : n < 10
 ·obtain ⟨d,_,h⟩ := c142m n h0 h
  exact ⟨d,h⟩
 ·obtain ⟨d,hdl,hd⟩ := c142m (n / 10) (by omega) (by omega)
  have d1 : decide (-(n : Int) > -10) = false := by simp;omega
  have d2 : decide (-(n : Int) < 0) = true := by simp;omega
  have hz : ((10 : Int) = 0) = False := by simp
  have w0 : IntKind.wrap .i64 (Int.tdiv (-(n : Int)) 10) = -((n / 10 : Nat) : Int) := by
   rw [Int.neg_tdiv,Int.tdiv_eq_ediv_of_nonneg (by omega),wrap_in (by unfold inI;omega)];rfl
  have w3 : Int.tmod (-(n : Int)) 10 = -((n % 10 : Nat) : Int) := by
   rw [Int.neg_tmod,Int.tmod_eq_emod_of_nonneg (by omega)];rfl
  have w1 : IntKind.wrap .i64 (48 - (-((n % 10 : Nat) : Int))) = ((48 + n % 10 : Nat) : Int) := by rw [show 48 - (-((n % 10 : Nat) : Int)) = ((48 + n % 10 : Nat) : Int) by omega];exact wrap_nat (by omega)
  have w2 : IntKind.wrap .u8 ((48 + n % 10 : Nat) : Int) = ((48 + n % 10 : Nat) : Int) := wrap8 (by omega)
  have o1 : (d.length + 1 ≤ 1000000) = True := by simp only [eq_iff_iff,iff_true];omega
  refine ⟨d ++ [UInt8.ofNat (48 + n % 10)],fun st => ?_⟩
  refine cl_fn (pr142 · _ _) fn142 1 rfl (by decide) (fun tm hl hg => ?_);have h0 : tg tm 0 = iv (-(n : Int)) := (hg 0 (by decide));clear hg
  refine go (bw9 hl h0 d1 d2 w0 w1 w2 w3 hz) (bw hd fnil) ?_
  refine wopsD_pure (v := .str (toB [UInt8.ofNat (48 + n % 10)])) (by first | omega | exact Nat.le_refl _) (by simp only [↓reduceIte,go_sem,hl];first | done | rfl) (fun rec st1 he => step_b2s (by simp only [↓reduceIte,go_sem,hl];first | done | rfl) (by omega)) ?_
  refine go (bw hl o1) fnil ?_
  exact fnq_flat (results_one (by rw [rdRes_tmp];simp only [↓reduceIte,go_sem,hl];first | done | rfl)) (by first | exact Nat.le_refl _ | (simp only [lo_push];omega)) (by rfl)
theorem valL_take {s : List UInt8} {i : Nat} (h : i < s.length) : valL (s.take (i + 1)) = 10 * valL (s.take i) + (s[i].toNat - 48) := by
 rw [List.take_succ_eq_append_getElem h,valL,List.foldl_append];rfl
theorem numB_dig {w : List UInt8} (h : ∃ b ∈ w,isDig b = false) : numB w = false := by
 obtain ⟨b,hb,h⟩ := h
 unfold numB
 rw [List.all_eq_false.2 ⟨b,hb,by rw [h];simp⟩,Bool.false_and]
def NumP (w : List UInt8) (v : Int) (b : Bool) : Prop := (numB w = true → b = true ∧ v = valL w) ∧ (b = true → numB w = false → v < 0)
theorem numP_no {w : List UInt8} (h : numB w = false) : NumP w 0 false := ⟨(fun h2 => by rw [h] at h2;cases h2),(fun h2 => by cases h2)⟩
set_option maxHeartbeats 16000000 in
theorem c143 (w : List UInt8) (hwl : w.length ≤ 1000) : ∃ v b,NumP w v b ∧ ∀ st,Cl EE (.func 143 [] []) [.str (toB w),iv 2] st (.ret (.tuple [iv v,.bool b])) st := by
 obtain ⟨s,sg,hs⟩ : ∃ (s : List UInt8) (sg : Int),((sg = 1 ∧ s = w ∧ ∀ t,w ≠ 45 :: t) ∨ (sg = -1 ∧ w = 45 :: s)) := by
  cases w with
  | nil => exact ⟨[],1,.inl ⟨rfl,rfl,fun t h => by cases h⟩⟩
  | cons b t =>
   by_cases hb : b = 45
   ·subst hb;exact ⟨t,-1,.inr ⟨rfl,rfl⟩⟩
   ·exact ⟨b :: t,1,.inl ⟨rfl,rfl,fun u h => by cases h;exact hb rfl⟩⟩
 have hneg : sg = -1 → numB w = false := fun h => by
  rcases hs with ⟨h2,_⟩ | ⟨_,h2⟩
  ·omega
  ·exact numB_dig ⟨45,by rw [h2];simp,rfl⟩
 have hsw : sg = 1 → s = w := fun h => by
  rcases hs with ⟨_,h2,_⟩ | ⟨h2,_⟩
  ·exact h2
  ·omega
 have hsg : sg = 1 ∨ sg = -1 := by rcases hs with ⟨h,_⟩ | ⟨h,_⟩ <;> simp [h]
 have hsl : s.length ≤ 1000 := by
  rcases hs with ⟨_,h,_⟩ | ⟨_,h⟩
  ·rw [h];exact hwl
  ·rw [h] at hwl;simp at hwl;omega
 have hdec : (∀ b ∈ s,isDig b = true) → s.length ≤ 2 → ∃ d : List UInt8,(sg = 1 → d = itoaL (valL s)) ∧ (sg = -1 → valL s = 0 → d = [48]) ∧ ∀ st,Cl EE (.func 142 [] []) [iv (sg * (valL s : Int))] st (.ret (.str (toB d))) st := fun h1 h2 => by
  have hv := valL_bound (List.all_eq_true.2 h1) h2
  rcases hsg with rfl | rfl
  ·refine ⟨itoaL (valL s),fun _ => rfl,fun h => by omega,fun st => ?_⟩
   have := c142 (valL s : Int) (by omega) (by omega) st
   rw [Int.toNat_natCast] at this
   rw [Int.one_mul];exact this
  ·by_cases h0 : valL s = 0
   ·refine ⟨[48],fun h => by omega,fun _ _ => rfl,fun st => ?_⟩
    rw [h0]
    exact c142 0 (by omega) (by omega) st
   ·obtain ⟨d,hd⟩ := c142n (valL s) (by omega) hv
    exact ⟨d,fun h => by omega,fun _ h => absurd h h0,fun st => by rw [show (-1 : Int) * (valL s : Int) = -((valL s : Nat) : Int) by omega];exact hd st⟩
 obtain ⟨v,b,hN,hcase⟩ : ∃ v b,NumP w v b ∧ (((s.length < 1 ∨ 2 < s.length) ∧ v = 0 ∧ b = false) ∨ ((1 ≤ s.length ∧ s.length ≤ 2) ∧ (∃ i,∃ hi : i < s.length,isDig s[i] = false ∧ ∀ j,∀ hj : j < s.length,j < i → isDig s[j] = true) ∧ v = 0 ∧ b = false) ∨ ((1 ≤ s.length ∧ s.length ≤ 2) ∧ (∀ b ∈ s,isDig b = true) ∧ ∃ d : List UInt8,v = sg * (valL s : Int) ∧ b = (d == w) ∧ ∀ st,Cl EE (.func 142 [] []) [iv (sg * (valL s : Int))] st (.ret (.str (toB d))) st)) := by
  by_cases hl : s.length < 1 ∨ 2 < s.length
  ·refine ⟨0,false,numP_no ?_,.inl ⟨hl,rfl,rfl⟩⟩
   rcases hsg with h | h
   ·rw [← hsw h]
    unfold numB
    rcases hl with hl | hl
    ·have : s = [] := List.eq_nil_of_length_eq_zero (by omega)
     rw [this];rfl
    ·rw [decide_eq_false (show ¬ s.length ≤ 2 by omega)];simp
   ·exact hneg h
  ·by_cases hd : ∀ b ∈ s,isDig b = true
   ·obtain ⟨d,hd1,hd2,hd3⟩ := hdec hd (by omega)
    refine ⟨sg * (valL s : Int),d == w,?_,.inr (.inr ⟨by omega,hd,d,rfl,rfl,hd3⟩)⟩
    rcases hsg with h | h
    ·have e1 := hd1 h
     have e2 := hsw h
     subst e2
     subst h
     have en : numB s = (itoaL (valL s) == s) := by
      unfold numB
      rw [List.all_eq_true.2 hd,decide_eq_true (show s.length ≤ 2 by omega)]
      have : (s == []) = false := by
       rw [beq_eq_false_iff_ne];rintro rfl;simp at hl
      rw [this];rfl
     rw [e1,Int.one_mul]
     exact ⟨(fun h => ⟨(by rw [← en];exact h),rfl⟩),(fun h1 h2 => by rw [en] at h2;rw [h2] at h1;cases h1)⟩
    ·refine ⟨(fun h2 => by rw [hneg h] at h2;cases h2),fun h1 _ => ?_⟩
     have hv0 : valL s ≠ 0 := fun h0 => by
      rw [hd2 h h0] at h1
      rcases hs with ⟨h3,_⟩ | ⟨_,h3⟩
      ·omega
      ·rw [h3] at h1
       have := beq_iff_eq.1 h1
       cases this
     rw [h];omega
   ·have hx : ∃ i,∃ hi : i < s.length,isDig s[i] = false ∧ ∀ j,∀ hj : j < s.length,j < i → isDig s[j] = true := by
     have : ∀ n,n ≤ s.length → (∀ j,∀ hj : j < s.length,j < n → isDig s[j] = true) ∨ ∃ i,∃ hi : i < s.length,isDig s[i] = false ∧ ∀ j,∀ hj : j < s.length,j < i → isDig s[j] = true := by
      intro n
      induction n with
      | zero => intro _;exact .inl fun j _ h => absurd h (by omega)
      | succ n ih =>
       intro hn
       rcases ih (by omega) with h1 | h1
       ·cases hq : isDig (s[n]'(by omega)) with
        | false => exact .inr ⟨n,by omega,hq,h1⟩
        | true =>
         refine .inl fun j hj hjn => ?_
         by_cases e : j = n
         ·subst e;exact hq
         ·exact h1 j hj (by omega)
       ·exact .inr h1
     rcases this s.length (Nat.le_refl _) with h1 | h1
     ·exact absurd (fun b hb => by obtain ⟨j,hj,rfl⟩ := List.getElem_of_mem hb;exact h1 j hj hj) hd
     ·exact h1
    refine ⟨0,false,numP_no ?_,.inr (.inl ⟨by omega,hx,rfl,rfl⟩)⟩
    rcases hsg with h | h
    ·obtain ⟨i,hi,h1,_⟩ := hx
     rw [← hsw h]
     exact numB_dig ⟨s[i],List.getElem_mem hi,h1⟩
    ·exact hneg h
 refine ⟨v,b,hN,fun st => ?_⟩
 have wk0 : ((0 : Int) ≤ 0) = True := by simp
 have wt0 : Int.toNat 0 = 0 := rfl
 refine cl_fn (pr143 · _ _) fn143 2 rfl (by decide) (fun tm hl hg => ?_);have h0 : tg tm 0 = .str (toB w) := (hg 0 (by decide));have h1 : tg tm 1 = iv 2 := (hg 1 (by decide));clear hg
 refine wp_seqK (fun tm S => tm.length = 63 ∧ tg tm 0 = .str (toB w) ∧ tg tm 1 = iv 2 ∧ S = ({ heap := st.heap,lo := st.heap.length } : St)) ?_ ?_
 ·refine go (bw3 hl h0 h1) fnil ?_
  exact ⟨by simp only [↓reduceIte,go_sem,hl],by simp only [↓reduceIte,go_sem,hl,h0],by simp only [↓reduceIte,go_sem,hl,h1],rfl⟩
 clear hl h0 h1 tm
 rintro tm S ⟨hl,h0,h1,rfl⟩
 refine wp_seqK (fun tm S => tm.length = 63 ∧ tg tm 0 = .str (toB w) ∧ tg tm 1 = iv 2 ∧ tg tm 6 = iv 1 ∧ tg tm 7 = .str (toB w) ∧ S = ({ heap := st.heap,lo := st.heap.length } : St)) ?_ ?_
 ·refine go (bw3 hl h0 h1) fnil ?_
  exact ⟨by simp only [↓reduceIte,go_sem,hl],by simp only [↓reduceIte,go_sem,hl,h0],by simp only [↓reduceIte,go_sem,hl,h1],by simp only [↓reduceIte,go_sem,hl],by simp only [↓reduceIte,go_sem,hl],rfl⟩
 clear hl h0 h1 tm
 rintro tm S ⟨hl,h0,h1,h6,h7,rfl⟩
 refine wp_seqK (fun tm S => tm.length = 63 ∧ tg tm 0 = .str (toB w) ∧ tg tm 1 = iv 2 ∧ tg tm 6 = iv sg ∧ tg tm 7 = .str (toB s) ∧ S = ({ heap := st.heap,lo := st.heap.length } : St)) ?_ ?_
 ·rcases hs with ⟨rfl,rfl,hw⟩ | ⟨rfl,rfl⟩
  ·cases s with
   | nil =>
    have x1 : decide (((0 : Nat) : Int) > 0) = false := rfl
    refine go (bw6 hl h0 h1 h6 h7 x1) fnil ?_
    exact ⟨by simp only [↓reduceIte,go_sem,hl],by simp only [↓reduceIte,go_sem,hl,h0],by simp only [↓reduceIte,go_sem,hl,h1],by simp only [↓reduceIte,go_sem,hl,h6],by simp only [↓reduceIte,go_sem,hl,h7],rfl⟩
   | cons b t =>
    have x1 : decide (((t.length + 1 : Nat) : Int) > 0) = true := by rw [decide_eq_true_eq];omega
    have hix : (toB (b :: t))[0]? = some b := getElem?_toB (b :: t) 0 (by simp)
    have x2 : ((b.toNat : Int) == 45) = false := by
     rw [beq_eq_false_iff_ne]
     intro h
     have hb : b.toNat = (45 : UInt8).toNat := by
      have : b.toNat = 45 := by omega
      exact this
     exact hw t (by rw [UInt8.toNat_inj.1 hb])
    refine go (bw11 hl h0 h1 h6 h7 x1 x2 @op_indexStr wk0 wt0 hix) fnil ?_
    exact ⟨by simp only [↓reduceIte,go_sem,hl],by simp only [↓reduceIte,go_sem,hl,h0],by simp only [↓reduceIte,go_sem,hl,h1],by simp only [↓reduceIte,go_sem,hl,h6],by simp only [↓reduceIte,go_sem,hl,h7],rfl⟩
  ·have x1 : decide (((s.length + 1 : Nat) : Int) > 0) = true := by rw [decide_eq_true_eq];omega
   have hix : (toB (45 :: s))[0]? = some 45 := getElem?_toB (45 :: s) 0 (by simp)
   have x2 : (((45 : UInt8).toNat : Int) == 45) = true := rfl
   refine go (bw11 hl h0 h1 h6 h7 x1 x2 @op_indexStr wk0 wt0 hix) fnil ?_
   refine wopsD_pure (v := .str (toB s)) (by first | omega | exact Nat.le_refl _) (by simp only [↓reduceIte,go_sem,hl];first | done | rfl) (fun rec st1 he => by
    rw [step_subs (s := 45 :: s) (a := 1) (b := s.length + 1) (by simp only [↓reduceIte,go_sem,hl,h7];first | done | rfl) (by rfl) (by rfl) (by omega) (by simp)]
    simp) ?_
   refine go hl fnil ?_
   exact ⟨by simp only [↓reduceIte,go_sem,hl],by simp only [↓reduceIte,go_sem,hl,h0],by simp only [↓reduceIte,go_sem,hl,h1],by simp only [↓reduceIte,go_sem,hl],by simp only [↓reduceIte,go_sem,hl],rfl⟩
 clear hl h0 h1 h6 h7 tm
 rintro tm S ⟨hl,h0,h1,h6,h7,rfl⟩
 have r1 : s.length < 1 ∨ 2 < s.length → decide ((s.length : Int) < 1) = true ∨ (decide ((s.length : Int) < 1) = false ∧ decide ((s.length : Int) > 2) = true) := fun h => by
  rcases h with h | h
  ·exact .inl (decide_eq_true (by omega))
  ·exact .inr ⟨decide_eq_false (by omega),decide_eq_true (by omega)⟩
 rcases hcase with ⟨hl2,rfl,rfl⟩ | hrest
 ·rcases r1 hl2 with x1 | ⟨x1,x2⟩
  ·refine go (bw6 hl h0 h1 h6 h7 x1) fnil ?_
   refine fnq_tuple (results_two (v := iv 0) (u := .bool false) ?_ ?_) (by first | omega | exact Nat.le_refl _) (by rfl)
   ·rw [rdRes_tmp];simp only [↓reduceIte,go_sem,hl]
   ·rw [rdRes_tmp];simp only [↓reduceIte,go_sem,hl]
  ·refine go (bw7 hl h0 h1 h6 h7 x1 x2) fnil ?_
   refine fnq_tuple (results_two (v := iv 0) (u := .bool false) ?_ ?_) (by first | omega | exact Nat.le_refl _) (by rfl)
   ·rw [rdRes_tmp];simp only [↓reduceIte,go_sem,hl]
   ·rw [rdRes_tmp];simp only [↓reduceIte,go_sem,hl]
 have hl12 : 1 ≤ s.length ∧ s.length ≤ 2 := by rcases hrest with ⟨h,_⟩ | ⟨h,_⟩ <;> exact h
 have x1 : decide ((s.length : Int) < 1) = false := decide_eq_false (by omega)
 have x2 : decide ((s.length : Int) > 2) = false := decide_eq_false (by omega)
 have hbound : ∀ i,(∀ j,∀ hj : j < s.length,j < i → isDig s[j] = true) → valL (s.take i) < 100 := fun i h => valL_bound (List.all_eq_true.2 fun b hb => by
  obtain ⟨j,hj,rfl⟩ := List.getElem_of_mem hb
  rw [List.length_take] at hj
  rw [List.getElem_take]
  exact h j (by omega) (by omega)) (by rw [List.length_take];omega)
 refine go (bw7 hl h0 h1 h6 h7 x1 x2) fnil ?_
 refine wp_for [9,8] (fun i vs S => vs = [iv i,iv (valL (s.take i) : Nat)] ∧ i ≤ s.length ∧ (∀ j,∀ hj : j < s.length,j < i → isDig s[j] = true) ∧ S = ({ heap := st.heap,lo := st.heap.length } : St)) (fun i => s.length - i) ⟨by simp only [↓reduceIte,go_sem,hl];first | done | rfl,Nat.zero_le _,(fun j _ hj => absurd hj (by omega)),rfl⟩ ?_
 rintro i tm1 S ⟨hv,hi,hall,rfl⟩ hS
 simp only [List.map_cons,List.map_nil,List.cons.injEq,and_true] at hv
 obtain ⟨hv9,hv8⟩ := hv
 have hl1 : tm1.length = 63 := (by rw [hS.1];simp only [put_len,hl]);have i0 : tg tm1 0 = .str (toB w) := (by rw [hS.2 0 (by decide)];simp only [↓reduceIte,go_sem,hl,h0,h6,h7]);have i6 : tg tm1 6 = iv sg := (by rw [hS.2 6 (by decide)];simp only [↓reduceIte,go_sem,hl,h0,h6,h7]);have i7 : tg tm1 7 = .str (toB s) := (by rw [hS.2 7 (by decide)];simp only [↓reduceIte,go_sem,hl,h0,h6,h7]);clear hS
 refine go (bw3 hl1 hv9 i7) fnil ?_
 refine ⟨decide ((i : Int) < s.length),by simp only [↓reduceIte,go_sem,hl1],fun hb => ?_,fun hb1 => ?_⟩
 ·have hlt := of_decide_eq_false hb
  obtain rfl : i = s.length := by omega
  rcases hrest with ⟨_,⟨j,hj,hj1,_⟩,_⟩ | ⟨_,_,d,rfl,rfl,hd⟩
  ·rw [hall j hj hj] at hj1;cases hj1
  ·have hvb := hbound s.length (fun j hj _ => hall j hj hj)
   rw [List.take_length] at hv8 hvb
   have hm : IntKind.wrap .i64 (sg * (valL s : Int)) = sg * (valL s : Int) := wrap_in (by unfold inI;rcases hsg with rfl | rfl <;> omega)
   refine go (bw5 hl1 hv8 i0 i6 hm) (bw hd fnil) ?_
   refine fnq_tuple (results_two (v := iv (sg * (valL s : Int))) (u := .bool (d == w)) ?_ ?_) (by first | omega | exact Nat.le_refl _) (by rfl)
   ·rw [rdRes_tmp];simp only [↓reduceIte,go_sem,hl1]
   ·rw [rdRes_tmp];simp only [↓reduceIte,go_sem,hl1]
 have hlt : i < s.length := by have := of_decide_eq_true hb1;omega
 have hw1 : IntKind.wrap .i64 ((i : Int) + 1) = ((i + 1 : Nat) : Int) := wrap_nat (n := i + 1) (by omega)
 have hix := getElem?_toB s i hlt
 have hk0 : ((0 : Int) ≤ (i : Int)) = True := by simp
 have hvb := hbound i hall
 have hvt := valL_take hlt
 have hb255 : s[i].toNat < 256 := s[i].toNat_lt
 refine ⟨by omega,?_⟩
 cases hdg : isDig s[i]
 ·have hv0 : v = 0 ∧ b = false := by
   rcases hrest with ⟨_,_,h1,h2⟩ | ⟨_,h,_⟩
   ·exact ⟨h1,h2⟩
   ·rw [h _ (List.getElem_mem hlt)] at hdg;cases hdg
  obtain ⟨rfl,rfl⟩ := hv0
  simp only [isDig,Bool.and_eq_false_iff,decide_eq_false_iff_not] at hdg
  by_cases h48 : s[i].toNat < 48
  ·have y1 : decide ((s[i].toNat : Int) < 48) = true := decide_eq_true (by omega)
   refine go (bw8 hl1 hv9 i7 @op_indexStr hk0 Int.toNat_natCast hix y1) fnil ?_
   refine fnq_tuple (results_two (v := iv 0) (u := .bool false) ?_ ?_) (by first | omega | exact Nat.le_refl _) (by rfl)
   ·rw [rdRes_tmp];simp only [↓reduceIte,go_sem,hl1]
   ·rw [rdRes_tmp];simp only [↓reduceIte,go_sem,hl1]
  ·have y1 : decide ((s[i].toNat : Int) < 48) = false := decide_eq_false (by omega)
   have y2 : decide ((s[i].toNat : Int) > 57) = true := decide_eq_true (by omega)
   refine go (bw9 hl1 hv9 i7 @op_indexStr hk0 Int.toNat_natCast hix y1 y2) fnil ?_
   refine fnq_tuple (results_two (v := iv 0) (u := .bool false) ?_ ?_) (by first | omega | exact Nat.le_refl _) (by rfl)
   ·rw [rdRes_tmp];simp only [↓reduceIte,go_sem,hl1]
   ·rw [rdRes_tmp];simp only [↓reduceIte,go_sem,hl1]
 ·have hdg' := hdg
  simp only [isDig,Bool.and_eq_true,decide_eq_true_eq] at hdg'
  have y1 : decide ((s[i].toNat : Int) < 48) = false := decide_eq_false (by omega)
  have y2 : decide ((s[i].toNat : Int) > 57) = false := decide_eq_false (by omega)
  have wa : IntKind.wrap .i64 (10 * (valL (s.take i) : Int)) = ((10 * valL (s.take i) : Nat) : Int) := by rw [show 10 * (valL (s.take i) : Int) = ((10 * valL (s.take i) : Nat) : Int) by omega];exact wrap_nat (by omega)
  have wb : IntKind.wrap .u8 ((s[i].toNat : Int) - 48) = ((s[i].toNat - 48 : Nat) : Int) := by rw [show (s[i].toNat : Int) - 48 = ((s[i].toNat - 48 : Nat) : Int) by omega];exact wrap8 (by omega)
  have wc : IntKind.wrap .i64 ((s[i].toNat - 48 : Nat) : Int) = ((s[i].toNat - 48 : Nat) : Int) := wrap_nat (by omega)
  have wd : IntKind.wrap .i64 (((10 * valL (s.take i) : Nat) : Int) + ((s[i].toNat - 48 : Nat) : Int)) = ((valL (s.take (i + 1)) : Nat) : Int) := by rw [hvt,← Int.natCast_add];exact wrap_nat (by omega)
  refine go (bw15 hl1 hv9 hv8 i7 @op_indexStr hk0 Int.toNat_natCast hix y1 y2 wa wb wc wd hw1) fnil ?_
  refine ⟨by simp only [↓reduceIte,go_sem,hl1],by omega,fun j hj hji => ?_,rfl⟩
  by_cases e : j = i
  ·subst e;exact hdg
  ·exact hall j hj (by omega)
end Go.Den.Ch
end
section
namespace Go.Den.Ch
theorem encS_low (l : List (List UInt8)) (m : Nat) (c : PV) (hc : c ∈ l.flatMap encS) : PV.low m c = true := by
 simp only [List.mem_flatMap,List.mem_singleton,encS] at hc
 obtain ⟨a,_,rfl⟩ := hc
 rfl
theorem slS {st st' : St} {l : List (List UInt8)} {v : PV} (h : RetS st 1 l.length (l.flatMap encS) v st') : SlOf 1 encS v l := SlOf.of_sl h.sl rfl rfl (fun _ => rfl)
set_option maxHeartbeats 8000000 in
theorem c120 (s : List UInt8) (y : UInt8) (hs : s.length ≤ 1000) (st : St) : ClR EE (.func 120 [] []) [.str (toB s),.int .u8 y.toNat] st (RetS st 1 (splitL y [] s).length ((splitL y [] s).flatMap encS)) := by
 refine clr_fn (pr120 · _ _) fn120 2 rfl (by decide) (fun tm hl hg => ?_);have h0 : tg tm 0 = .str (toB s) := (hg 0 (by decide));have h1 : tg tm 1 = .int .u8 y.toNat := (hg 1 (by decide));clear hg
 refine go (bw3 hl h0 h1) fnil ?_
 refine wp_for [7,6,5] (fun i vs S => ∃ (X : List (List UInt8)) (f : Nat) (v : PV),vs = [iv i,iv f,v] ∧ i ≤ s.length ∧ f ≤ i ∧ splitL y [] s = X ++ splitL y ((s.take i).drop f) (s.drop i) ∧ X.length ≤ i ∧ OwnS st.heap.length S 1 v X.length (X.flatMap encS) ∧ Fr st.heap.length ({ heap := st.heap,lo := st.heap.length } : St) S) (fun i => s.length - i) ⟨[],0,_,by simp only [↓reduceIte,go_sem,hl];first | done | rfl,Nat.zero_le _,Nat.le_refl _,by simp,Nat.le_refl _,.nil,.refl _ _⟩ ?_
 rintro i tm1 S ⟨X,f,v,hv,hi,hfi,hX,hXl,hO,hFr⟩ hS
 simp only [List.map_cons,List.map_nil,List.cons.injEq,and_true] at hv
 obtain ⟨hv7,hv6,hv5⟩ := hv
 have hl1 : tm1.length = 34 := (by rw [hS.1];simp only [put_len,hl]);have i0 : tg tm1 0 = .str (toB s) := (by rw [hS.2 0 (by decide)];simp only [↓reduceIte,go_sem,hl,h0,h1]);have i1 : tg tm1 1 = .int .u8 y.toNat := (by rw [hS.2 1 (by decide)];simp only [↓reduceIte,go_sem,hl,h0,h1]);clear hS
 have w1 := hFr.len
 have w2 := hFr.lo
 have w3 := hFr.up
 simp only at w1 w2 w3
 refine go (bw3 hl1 hv7 i0) fnil ?_
 refine ⟨decide ((i : Int) < s.length),by simp only [↓reduceIte,go_sem,hl1],fun hb => ?_,fun hb1 => ?_⟩
 ·have hlt := of_decide_eq_false hb
  obtain rfl : i = s.length := by omega
  have e : splitL y [] s = X ++ [s.drop f] := by rw [hX,List.drop_length,List.take_length];rfl
  rw [e]
  refine go (bw4 hl1 hv5 hv6 i0) fnil ?_
  refine wops_one (v := .str (toB (s.drop f))) rfl (fun rec => by
   rw [step_subs (s := s) (a := f) (b := s.length) (by simp only [↓reduceIte,go_sem,hl1,i0];first | done | rfl) (by rfl) (by simp only [bound];simp only [↓reduceIte,go_sem,hl1,hv6];simp) hfi (Nat.le_refl _)]
   rw [List.take_of_length_le (by simp)]) ?_
  refine go (bw hl1 hv5) fnil ?_
  refine wops_append (m := st.heap.length) rfl rfl (by simp only [↓reduceIte,go_sem,hl1,hv5];first | done | rfl) (by simp only [↓reduceIte,go_sem,hl1];first | done | rfl) hO.push rfl (by simp only [len_push];omega) (by rfl) (by rfl) (by simp only [maxList];omega) ?_
  intro v' s3 hO' hFr' hk
  have x2 := hFr'.lo
  simp only [lo_push] at x2
  refine go hl1 fnil ?_
  refine fnr_ret (results_one (v := v') (by rw [rdRes_tmp];simp only [↓reduceIte,go_sem,hl1])) (OwnS.finish (st1 := s3) (n := (X ++ [s.drop f]).length) (by simpa [share_str,encS] using hO') (by omega) (fun m c hc => encS_low _ m c hc))
 have hlt : i < s.length := by have := of_decide_eq_true hb1;omega
 have hw1 : IntKind.wrap .i64 ((i : Int) + 1) = ((i + 1 : Nat) : Int) := wrap_nat (n := i + 1) (by omega)
 have hix := getElem?_toB s i hlt
 have hk0 : ((0 : Int) ≤ (i : Int)) = True := by simp
 have hdr : s.drop i = s[i] :: s.drop (i + 1) := List.drop_eq_getElem_cons hlt
 have htk : s.take (i + 1) = s.take i ++ [s[i]] := List.take_succ_eq_append_getElem hlt
 refine ⟨by omega,?_⟩
 cases hx : ((s[i].toNat : Int) == (y.toNat : Int))
 ·have hne : s[i] ≠ y := fun h => by rw [h] at hx;simp at hx
  have e : splitL y [] s = X ++ splitL y ((s.take (i + 1)).drop f) (s.drop (i + 1)) := by
   rw [hX,hdr,splitL,if_neg hne,htk,List.drop_append_of_le_length (by rw [List.length_take];omega)]
  refine go (bw10 hl1 hv7 i0 i1 @op_indexStr hk0 Int.toNat_natCast hix hx hw1) fnil ?_
  exact ⟨X,f,v,by simp only [↓reduceIte,go_sem,hl1,hv6,hv5],by omega,by omega,e,by omega,hO,hFr⟩
 ·have heq : s[i] = y := UInt8.toNat_inj.1 (by have := beq_iff_eq.1 hx;omega)
  have e : splitL y [] s = (X ++ [(s.take i).drop f]) ++ splitL y ((s.take (i + 1)).drop (i + 1)) (s.drop (i + 1)) := by
   rw [hX,hdr,splitL,if_pos heq,show (s.take (i + 1)).drop (i + 1) = [] from List.drop_of_length_le (by rw [List.length_take];omega)];simp
  have hsub : (s.drop f).take (i - f) = (s.take i).drop f := by rw [List.drop_take]
  refine go (bw11 hl1 hv7 hv6 hv5 i0 i1 @op_indexStr hk0 Int.toNat_natCast hix hx) fnil ?_
  refine wops_one (v := .str (toB ((s.take i).drop f))) rfl (fun rec => by
   rw [step_subs (s := s) (a := f) (b := i) (by simp only [↓reduceIte,go_sem,hl1,i0];first | done | rfl) (by simp only [bound];simp only [↓reduceIte,go_sem,hl1,hv7];simp) (by simp only [bound];simp only [↓reduceIte,go_sem,hl1,hv6];simp) hfi hi]
   rw [hsub]) ?_
  refine go (bw hl1 hv5) fnil ?_
  refine wops_append (m := st.heap.length) rfl rfl (by simp only [↓reduceIte,go_sem,hl1,hv5];first | done | rfl) (by simp only [↓reduceIte,go_sem,hl1];first | done | rfl) hO.push rfl (by simp only [len_push];omega) (by rfl) (by rfl) (by simp only [maxList];omega) ?_
  intro v' s3 hO' hFr' hk
  refine go (bw3 hl1 hv7 hw1) fnil ?_
  exact ⟨X ++ [(s.take i).drop f],i + 1,v',by simp only [↓reduceIte,go_sem,hl1],by omega,Nat.le_refl _,e,by simp;omega,by simpa [share_str,encS] using hO',(hFr.push (by omega)).trans hFr'⟩
def NumsP (ws : List (List UInt8)) (ns : List Int) (b : Bool) : Prop := (ws.all numB = true → b = true) ∧ (b = true → ns.length = ws.length ∧ (ws.all numB = true → ns = ws.map fun w => (valL w : Int)) ∧ (ws.all numB = false → ∃ n ∈ ns,n < 0))
theorem num_fun : ∃ R : List UInt8 → Int × Bool,∀ w,w.length ≤ 1000 → NumP w (R w).1 (R w).2 ∧ ∀ st,Cl EE (.func 143 [] []) [.str (toB w),iv 2] st (.ret (.tuple [iv (R w).1,.bool (R w).2])) st := by
 have h : ∀ w : List UInt8,∃ r : Int × Bool,w.length ≤ 1000 → NumP w r.1 r.2 ∧ ∀ st,Cl EE (.func 143 [] []) [.str (toB w),iv 2] st (.ret (.tuple [iv r.1,.bool r.2])) st := fun w => by
  by_cases hw : w.length ≤ 1000
  ·obtain ⟨v,b,h1,h2⟩ := c143 w hw
   exact ⟨(v,b),fun _ => ⟨h1,h2⟩⟩
  ·exact ⟨(0,false),fun h => absurd h hw⟩
 exact ⟨fun w => Classical.choose (h w),fun w => Classical.choose_spec (h w)⟩
set_option maxHeartbeats 8000000 in
theorem c121 (V : PV) (ws : List (List UInt8)) (hV : SlOf 1 encS V ws) (hw : ∀ w ∈ ws,w.length ≤ 1000) (hN : ws.length ≤ 1001) : ∃ ns b,NumsP ws ns b ∧ (b = false → ns = []) ∧ ∀ st,ClR EE (.func 121 [] []) [V,iv 2] st (fun v st' => ∃ P,v = .tuple [P,.bool b] ∧ SlOf 1 encI P ns ∧ Keep st st') := by
 obtain ⟨R,hR⟩ := num_fun
 have hVs := hV.slen
 have hall : ws.all numB = true → ws.all (fun w => (R w).2) = true := fun h => List.all_eq_true.2 fun w hm => ((hR w (hw w hm)).1.1 (List.all_eq_true.1 h w hm)).1
 cases hb : ws.all (fun w => (R w).2)
 ·refine ⟨[],false,⟨(fun h => by rw [hall h] at hb;cases hb),(fun h => by cases h)⟩,fun _ => rfl,fun st => ?_⟩
  refine clr_fn (pr121 · _ _) fn121 2 rfl (by decide) (fun tm hl hg => ?_);have h0 : tg tm 0 = V := (hg 0 (by decide));have h1 : tg tm 1 = iv 2 := (hg 1 (by decide));clear hg
  refine go (bw3 hl h0 h1) fnil ?_
  refine wp_for [7,6] (fun i vs S => ∃ v,vs = [iv i,v] ∧ i ≤ ws.length ∧ (∀ j,∀ hj : j < ws.length,j < i → (R ws[j]).2 = true) ∧ OwnS st.heap.length S 1 v i (((ws.take i).map fun w => (R w).1).flatMap encI) ∧ Fr st.heap.length ({ heap := st.heap,lo := st.heap.length } : St) S) (fun i => ws.length - i) ⟨_,by simp only [↓reduceIte,go_sem,hl];first | done | rfl,Nat.zero_le _,(fun j _ hj => absurd hj (by omega)),.nil,.refl _ _⟩ ?_
  rintro i tm1 S ⟨v,hv,hi,hok,hO,hFr⟩ hS
  simp only [List.map_cons,List.map_nil,List.cons.injEq,and_true] at hv
  obtain ⟨hv7,hv6⟩ := hv
  have hl1 : tm1.length = 32 := (by rw [hS.1];simp only [put_len,hl]);have i0 : tg tm1 0 = V := (by rw [hS.2 0 (by decide)];simp only [↓reduceIte,go_sem,hl,h0,h1]);have i1 : tg tm1 1 = iv 2 := (by rw [hS.2 1 (by decide)];simp only [↓reduceIte,go_sem,hl,h0,h1]);clear hS
  have w1 := hFr.len
  have w2 := hFr.lo
  have w3 := hFr.up
  simp only at w1 w2 w3
  refine go (bw4 hl1 hv7 i0 hVs) fnil ?_
  refine ⟨decide ((i : Int) < ws.length),by simp only [↓reduceIte,go_sem,hl1],fun hb2 => ?_,fun hb1 => ?_⟩
  ·have hlt := of_decide_eq_false hb2
   exfalso
   have : ws.all (fun w => (R w).2) = true := List.all_eq_true.2 fun w hm => by
    obtain ⟨j,hj,rfl⟩ := List.getElem_of_mem hm
    exact hok j hj (by omega)
   rw [this] at hb;cases hb
  have hlt : i < ws.length := by have := of_decide_eq_true hb1;omega
  have hw1 : IntKind.wrap .i64 ((i : Int) + 1) = ((i + 1 : Nat) : Int) := wrap_nat (n := i + 1) (by omega)
  have kR := (hR ws[i] (hw _ (List.getElem_mem hlt))).2
  refine ⟨by omega,?_⟩
  cases hr : (R ws[i]).2
  ·rw [hr] at kR
   refine go (bw4 hl1 hv7 i0 i1) (bw kR fnil) ?_
   refine fnr_ret (v := .tuple [.nilslice,.bool false]) (results_two (by rw [rdRes_tmp];simp only [↓reduceIte,go_sem,hl1]) (by rw [rdRes_tmp];simp only [↓reduceIte,go_sem,hl1])) ?_
   obtain ⟨v',e1,hW⟩ := finish_slT (st := st) (st1 := S) (v := .nilslice) (vs := [.bool false]) (n := 0) (cs := []) rfl (by rfl) (by omega) (fun m => rfl)
   rw [e1]
   exact ⟨v',rfl,retI (l := []) hW,keepW hW⟩
  ·rw [hr] at kR
   have htk : (ws.take (i + 1)).map (fun w => (R w).1) = (ws.take i).map (fun w => (R w).1) ++ [(R ws[i]).1] := by rw [List.take_succ_eq_append_getElem hlt,List.map_append];rfl
   refine go (bw5 hl1 hv7 hv6 i0 i1) (bw kR fnil) ?_
   refine wops_append (m := st.heap.length) rfl rfl (by simp only [↓reduceIte,go_sem,hl1,hv6];first | done | rfl) (by simp only [↓reduceIte,go_sem,hl1];first | done | rfl) hO.push rfl (by simp only [len_push];omega) (by rfl) (by rfl) (by simp only [maxList];omega) ?_
   intro v' s3 hO' hFr' hk
   refine go (bw3 hl1 hv7 hw1) fnil ?_
   refine ⟨v',by simp only [↓reduceIte,go_sem,hl1],by omega,fun j hj hji => ?_,by rw [htk];simpa [share_int] using hO',(hFr.push (by omega)).trans hFr'⟩
   by_cases e : j = i
   ·subst e;exact hr
   ·exact hok j hj (by omega)
 ·have hallR : ∀ w ∈ ws,(R w).2 = true := fun w hm => List.all_eq_true.1 hb w hm
  refine ⟨ws.map fun w => (R w).1,true,⟨fun _ => rfl,fun _ => ⟨by simp,fun h => ?_,fun h => ?_⟩⟩,(fun h => by cases h),fun st => ?_⟩
  ·exact List.map_congr_left fun w hm => ((hR w (hw w hm)).1.1 (List.all_eq_true.1 h w hm)).2
  ·obtain ⟨w,hm,hn⟩ := List.all_eq_false.1 h
   exact ⟨(R w).1,List.mem_map.2 ⟨w,hm,rfl⟩,(hR w (hw w hm)).1.2 (hallR w hm) (by simpa using hn)⟩
  refine clr_fn (pr121 · _ _) fn121 2 rfl (by decide) (fun tm hl hg => ?_);have h0 : tg tm 0 = V := (hg 0 (by decide));have h1 : tg tm 1 = iv 2 := (hg 1 (by decide));clear hg
  refine go (bw3 hl h0 h1) fnil ?_
  refine wp_for [7,6] (fun i vs S => ∃ v,vs = [iv i,v] ∧ i ≤ ws.length ∧ OwnS st.heap.length S 1 v i (((ws.take i).map fun w => (R w).1).flatMap encI) ∧ Fr st.heap.length ({ heap := st.heap,lo := st.heap.length } : St) S) (fun i => ws.length - i) ⟨_,by simp only [↓reduceIte,go_sem,hl];first | done | rfl,Nat.zero_le _,.nil,.refl _ _⟩ ?_
  rintro i tm1 S ⟨v,hv,hi,hO,hFr⟩ hS
  simp only [List.map_cons,List.map_nil,List.cons.injEq,and_true] at hv
  obtain ⟨hv7,hv6⟩ := hv
  have hl1 : tm1.length = 32 := (by rw [hS.1];simp only [put_len,hl]);have i0 : tg tm1 0 = V := (by rw [hS.2 0 (by decide)];simp only [↓reduceIte,go_sem,hl,h0,h1]);have i1 : tg tm1 1 = iv 2 := (by rw [hS.2 1 (by decide)];simp only [↓reduceIte,go_sem,hl,h0,h1]);clear hS
  have w1 := hFr.len
  have w2 := hFr.lo
  have w3 := hFr.up
  simp only at w1 w2 w3
  refine go (bw4 hl1 hv7 i0 hVs) fnil ?_
  refine ⟨decide ((i : Int) < ws.length),by simp only [↓reduceIte,go_sem,hl1],fun hb2 => ?_,fun hb1 => ?_⟩
  ·have hlt := of_decide_eq_false hb2
   obtain rfl : i = ws.length := by omega
   rw [List.take_length] at hO
   refine go (bw hl1 hv6) fnil ?_
   refine fnr_ret (v := .tuple [v,.bool true]) (results_two (by rw [rdRes_tmp];simp only [↓reduceIte,go_sem,hl1]) (by rw [rdRes_tmp];simp only [↓reduceIte,go_sem,hl1])) ?_
   obtain ⟨v',e1,hW⟩ := finish_slT (st := st) (st1 := S) (v := v) (vs := [.bool true]) hO.sl (by rfl) (by omega) (fun m => lowL_of fun c hc => encI_low _ m c hc)
   rw [e1]
   have hW2 : RetW st (ws.map fun w => (R w).1).length ((ws.map fun w => (R w).1).flatMap encI) v' (finishCall st S (.tuple [v,.bool true])).2 := by rw [List.length_map];exact hW
   exact ⟨v',rfl,retI hW2,keepW hW⟩
  have hlt : i < ws.length := by have := of_decide_eq_true hb1;omega
  have hw1 : IntKind.wrap .i64 ((i : Int) + 1) = ((i + 1 : Nat) : Int) := wrap_nat (n := i + 1) (by omega)
  have kR := (hR ws[i] (hw _ (List.getElem_mem hlt))).2
  rw [hallR _ (List.getElem_mem hlt)] at kR
  have htk : (ws.take (i + 1)).map (fun w => (R w).1) = (ws.take i).map (fun w => (R w).1) ++ [(R ws[i]).1] := by rw [List.take_succ_eq_append_getElem hlt,List.map_append];rfl
  refine ⟨by omega,?_⟩
  refine go (bw5 hl1 hv7 hv6 i0 i1) (bw kR fnil) ?_
  refine wops_append (m := st.heap.length) rfl rfl (by simp only [↓reduceIte,go_sem,hl1,hv6];first | done | rfl) (by simp only [↓reduceIte,go_sem,hl1];first | done | rfl) hO.push rfl (by simp only [len_push];omega) (by rfl) (by rfl) (by simp only [maxList];omega) ?_
  intro v' s3 hO' hFr' hk
  refine go (bw3 hl1 hv7 hw1) fnil ?_
  exact ⟨v',by simp only [↓reduceIte,go_sem,hl1],by omega,by rw [htk];simpa [share_int] using hO',(hFr.push (by omega)).trans hFr'⟩
end Go.Den.Ch
end
section
namespace Go.Den.Ch
theorem splitL_pos (b : UInt8) : ∀ (s acc : List UInt8),0 < (splitL b acc s).length
 | [],acc => by simp [splitL]
 | x :: s,acc => by
  simp only [splitL]
  split
  ·simp
  ·exact splitL_pos b s _
theorem splitL_sum (b : UInt8) : ∀ (s acc : List UInt8),((splitL b acc s).map fun r => r.length + 1).sum = acc.length + s.length + 1
 | [],acc => by simp [splitL]
 | x :: s,acc => by
  simp only [splitL]
  split
  ·rw [List.map_cons,List.sum_cons,splitL_sum b s []];simp;omega
  ·rw [splitL_sum b s];simp;omega
theorem sum_ge {k : Nat} : ∀ (l : List (List UInt8)) (n : Nat),n ≤ l.length → (∀ i,∀ hi : i < l.length,i < n → k ≤ l[i].length) → n * (k + 1) ≤ (l.map fun r => r.length + 1).sum
 | [],n,hn,_ => by simp at hn;subst hn;simp
 | r :: l,0,_,_ => by simp
 | r :: l,n + 1,hn,h => by
  have h1 := sum_ge l n (by simpa using hn) (fun i hi hin => h (i + 1) (by simpa using hi) (by omega))
  have h2 := h 0 (by simp) (by omega)
  simp only [List.getElem_cons_zero] at h2
  rw [List.map_cons,List.sum_cons,Nat.succ_mul];omega
def wordsL (r : List UInt8) : List (List UInt8) := (splitL 32 [] r).tail
def rowB (i : Nat) (r : List UInt8) : Bool := (wordsL r).all numB && decide ((wordsL r).length = if i = 0 then 2 else 3)
def rowNs (r : List UInt8) : List Int := (wordsL r).map fun w => (valL w : Int)
def refC (rows : List (List UInt8)) (m : Nat) : CL := if m = 0 then ⟨0,0,[]⟩ else ⟨(rowNs (rows.getD 0 [])).getD 0 0,(rowNs (rows.getD 0 [])).getD 1 0,((rows.take m).drop 1).map fun r => figOf (rowNs r)⟩
def refOk (rows : List (List UInt8)) (m : Nat) : Bool := (List.range m).all fun i => rowB i (rows.getD i [])
def refP (s : List UInt8) : Option CL := if refOk (splitL 10 [] s) ((splitL 10 [] s).length - 2) && (textL (refC (splitL 10 [] s) ((splitL 10 [] s).length - 2)) == s) then some (refC (splitL 10 [] s) ((splitL 10 [] s).length - 2)) else none
theorem rowNs_in {i : Nat} {r : List UInt8} (h : rowB i r = true) : (rowNs r).length = (if i = 0 then 2 else 3) ∧ ∀ n ∈ rowNs r,0 ≤ n ∧ n < 100 := by
 unfold rowB at h
 rw [Bool.and_eq_true,decide_eq_true_eq] at h
 refine ⟨by unfold rowNs;rw [List.length_map];exact h.2,fun n hn => ?_⟩
 obtain ⟨w,hw,rfl⟩ := List.mem_map.1 hn
 have h1 := List.all_eq_true.1 h.1 w hw
 unfold numB at h1
 simp only [Bool.and_eq_true,decide_eq_true_eq] at h1
 have := valL_bound h1.1 h1.2.1
 omega
theorem getD_mem {l : List Int} {k : Nat} (h : k < l.length) : l.getD k 0 ∈ l := by
 rw [getD_in h];exact List.getElem_mem _
theorem figOf_in {l : List Int} (hl : l.length = 3) (h : ∀ n ∈ l,0 ≤ n ∧ n < 100) : (0 ≤ (figOf l).size ∧ (figOf l).size < 100) ∧ (0 ≤ (figOf l).rank ∧ (figOf l).rank < 100) ∧ (0 ≤ (figOf l).eve ∧ (figOf l).eve < 100) :=
 ⟨h _ (getD_mem (by omega)),h _ (getD_mem (by omega)),h _ (getD_mem (by omega))⟩
theorem row_len {i : Nat} {r : List UInt8} (h : rowB i r = true) : 2 ≤ r.length := by
 unfold rowB at h
 rw [Bool.and_eq_true,decide_eq_true_eq] at h
 have h1 := splitL_len 32 [] r
 have h2 := splitL_pos 32 r []
 have h3 := h.2
 unfold wordsL at h3
 rw [List.length_tail] at h3
 split at h3 <;> omega
theorem ref_rows {s : List UInt8} (hs : s.length ≤ 250) {m : Nat} (hm : m ≤ (splitL 10 [] s).length) (h : ∀ i < m,rowB i ((splitL 10 [] s).getD i []) = true) : m ≤ 83 := by
 have h1 := sum_ge (k := 2) (splitL 10 [] s) m hm (fun i hi him => by
  have := row_len (h i him)
  rwa [List.getD_eq_getElem?_getD,List.getElem?_eq_getElem hi] at this)
 rw [splitL_sum] at h1
 simp at h1
 omega
theorem refC_ok {s : List UInt8} (hs : s.length ≤ 250) {m : Nat} (hm : m ≤ (splitL 10 [] s).length) (h : ∀ i < m,rowB i ((splitL 10 [] s).getD i []) = true) : OkW (refC (splitL 10 [] s) m) := by
 have h83 := ref_rows hs hm h
 by_cases h0 : m = 0
 ·have e : refC (splitL 10 [] s) m = ⟨0,0,[]⟩ := by unfold refC;rw [if_pos h0]
  rw [e]
  exact ⟨by simp,by simp,(fun f hf => by cases hf),by simp⟩
 ·have e : refC (splitL 10 [] s) m = ⟨(rowNs ((splitL 10 [] s).getD 0 [])).getD 0 0,(rowNs ((splitL 10 [] s).getD 0 [])).getD 1 0,(((splitL 10 [] s).take m).drop 1).map fun r => figOf (rowNs r)⟩ := by unfold refC;rw [if_neg h0]
  obtain ⟨a1,a2⟩ := rowNs_in (h 0 (by omega))
  rw [if_pos rfl] at a1
  rw [e]
  refine ⟨a2 _ (getD_mem (by omega)),a2 _ (getD_mem (by omega)),fun f hf => ?_,?_⟩
  ·obtain ⟨r,hr,rfl⟩ := List.mem_map.1 hf
   obtain ⟨k,hk,rfl⟩ := List.getElem_of_mem hr
   rw [List.length_drop,List.length_take] at hk
   have h2 := h (1 + k) (by omega)
   rw [List.getD_eq_getElem?_getD,List.getElem?_eq_getElem (by omega)] at h2
   obtain ⟨b1,b2⟩ := rowNs_in h2
   rw [if_neg (by omega)] at b1
   rw [List.getElem_drop,List.getElem_take]
   exact figOf_in b1 b2
  ·show (((splitL 10 [] s).take m).drop 1 |>.map fun r => figOf (rowNs r)).length ≤ 150
   rw [List.length_map,List.length_drop,List.length_take];omega
theorem refOk_iff {rows : List (List UInt8)} {m : Nat} : refOk rows m = true ↔ ∀ i < m,rowB i (rows.getD i []) = true := by
 unfold refOk
 rw [List.all_eq_true]
 exact ⟨fun h i hi => h i (List.mem_range.2 hi),fun h i hi => h i (List.mem_range.1 hi)⟩
theorem words_row {w : List UInt8} (hw : (32 : UInt8) ∉ w) (ns : List Int) (h : ∀ n ∈ ns,0 ≤ n ∧ n < 100) : wordsL (rowL w ns) = ns.map fun n => itoaL n.toNat := by
 unfold wordsL
 rw [rowL_split hw ns h];rfl
theorem rowB_row {w : List UInt8} (hw : (32 : UInt8) ∉ w) {ns : List Int} (h : ∀ n ∈ ns,0 ≤ n ∧ n < 100) {i : Nat} (hl : ns.length = if i = 0 then 2 else 3) : rowB i (rowL w ns) = true ∧ rowNs (rowL w ns) = ns := by
 unfold rowB rowNs
 rw [words_row hw ns h]
 constructor
 ·rw [Bool.and_eq_true,decide_eq_true_eq]
  refine ⟨List.all_eq_true.2 fun x hx => ?_,by rw [List.length_map];exact hl⟩
  obtain ⟨n,hn,rfl⟩ := List.mem_map.1 hx
  have := h n hn
  exact (itoaL_num (show n.toNat < 100 by omega)).1
 ·rw [List.map_map]
  have : (ns.map ((fun w => (valL w : Int)) ∘ fun n => itoaL n.toNat)) = ns.map id := List.map_congr_left fun n hn => by
   have := h n hn
   simp only [Function.comp,id]
   rw [(itoaL_num (show n.toNat < 100 by omega)).2];omega
  rw [this,List.map_id]
theorem ref_text {c : CL} (hc : OkW c) : refP (textL c) = some c := by
 have hrows := text_rows hc
 have hl : (rowsL c ++ [endRow (rowsL c) 211] ++ [[]]).length - 2 = c.figs.length + 1 := by simp [rowsL]
 have hr0 : rowB 0 (rowL chestW [c.room,c.depth]) = true ∧ rowNs (rowL chestW [c.room,c.depth]) = [c.room,c.depth] := rowB_row (w := chestW) (by decide) (by simp only [List.mem_cons,List.not_mem_nil,or_false];rintro n (rfl | rfl) <;> first | exact hc.room | exact hc.depth) rfl
 have hrf : ∀ f ∈ c.figs,∀ i,i ≠ 0 → rowB i (figRow f) = true ∧ rowNs (figRow f) = [f.size,f.rank,f.eve] := fun f hf i hi => by
  have := hc.figs f hf
  exact rowB_row (w := figW) (by decide) (ns := [f.size,f.rank,f.eve]) (by simp only [List.mem_cons,List.not_mem_nil,or_false];rintro n (rfl | rfl | rfl) <;> omega) (by rw [if_neg hi];rfl)
 have hg : ∀ i,i < c.figs.length + 1 → (rowsL c ++ [endRow (rowsL c) 211] ++ [[]]).getD i [] = (rowsL c).getD i [] := fun i hi => by
  have h1 : i < (rowsL c).length := by simp [rowsL];omega
  rw [List.getD_eq_getElem?_getD,List.getD_eq_getElem?_getD,List.append_assoc,List.getElem?_append_left h1]
 have hok : refOk (rowsL c ++ [endRow (rowsL c) 211] ++ [[]]) (c.figs.length + 1) = true := refOk_iff.2 fun i hi => by
  rw [hg i hi]
  cases i with
  | zero => exact hr0.1
  | succ i =>
   have h1 : i < c.figs.length := by omega
   have : (rowsL c).getD (i + 1) [] = figRow c.figs[i] := by
    rw [List.getD_eq_getElem?_getD,rowsL,List.getElem?_cons_succ,List.getElem?_map,List.getElem?_eq_getElem h1];rfl
   rw [this]
   exact (hrf _ (List.getElem_mem h1) (i + 1) (by omega)).1
 have hC : refC (rowsL c ++ [endRow (rowsL c) 211] ++ [[]]) (c.figs.length + 1) = c := by
  unfold refC
  rw [if_neg (by omega),hg 0 (by omega)]
  have e0 : (rowsL c).getD 0 [] = rowL chestW [c.room,c.depth] := rfl
  have e1 : ((rowsL c ++ [endRow (rowsL c) 211] ++ [[]]).take (c.figs.length + 1)).drop 1 = c.figs.map figRow := by
   have h1 : (rowsL c).length = c.figs.length + 1 := by simp [rowsL]
   rw [List.append_assoc,← h1,List.take_left']
   ·rfl
   ·rfl
  rw [e0,hr0.2,e1,List.map_map]
  have e2 : c.figs.map ((fun r => figOf (rowNs r)) ∘ figRow) = c.figs.map id := List.map_congr_left fun f hf => by
   simp only [Function.comp,id]
   rw [(hrf f hf 1 (by omega)).2];rfl
  rw [e2,List.map_id]
  rfl
 unfold refP
 rw [hrows,hl,hok,hC]
 simp
theorem rowsP_ok {rows : List (List UInt8)} {c : CL} (hl : rows.length ≤ 153) (h : rowsP rows = some c) : OkW c := by
 unfold rowsP at h
 split at h
 ·split at h
  ·rename_i n hn
   obtain ⟨h1,h2⟩ := toldL_ok hn
   cases hf : figsL ((rows.drop 1).take (rows.length - 2 - 1)) with
   | none => rw [hf] at h;cases h
   | some fs =>
    rw [hf] at h
    cases h
    obtain ⟨h3,h4⟩ := figsL_ok hf
    refine ⟨h2 _ (getD_mem (by omega)),h2 _ (getD_mem (by omega)),h4,?_⟩
    show fs.length ≤ 150
    rw [h3,List.length_take,List.length_drop];omega
  ·cases h
 ·cases h
theorem parsed_some {s : List UInt8} {c : CL} (hs : s.length ≤ 150) (h : parsedL s = some c) : OkW c ∧ textL c = s := by
 unfold parsedL at h
 cases hr : rowsP (splitL 10 [] s) with
 | none => rw [hr] at h;cases h
 | some d =>
  rw [hr] at h
  simp only [Option.bind_some] at h
  split at h
  ·rename_i ht
   cases h
   have := splitL_len 10 [] s
   exact ⟨rowsP_ok (by omega) hr,beq_iff_eq.1 ht⟩
  ·cases h
theorem ref_some {s : List UInt8} {c : CL} (hs : s.length ≤ 250) (h : refP s = some c) : OkW c ∧ textL c = s := by
 unfold refP at h
 split at h
 ·rename_i hb
  rw [Bool.and_eq_true] at hb
  cases h
  exact ⟨refC_ok hs (by omega) (refOk_iff.1 hb.1),beq_iff_eq.1 hb.2⟩
 ·cases h
theorem ref_parsed {s : List UInt8} (hs : s.length ≤ 150) : refP s = parsedL s := by
 cases hp : parsedL s with
 | some c =>
  obtain ⟨h1,h2⟩ := parsed_some hs hp
  rw [← h2]
  exact ref_text h1
 | none =>
  cases hr : refP s with
  | none => rfl
  | some c =>
   obtain ⟨h1,h2⟩ := ref_some (by omega) hr
   rw [← h2,parsed_text h1] at hp
   cases hp
end Go.Den.Ch
end
section
namespace Go.Den.Ch
theorem own_hext {m : Nat} {a b : St} {sz : Nat} {v : PV} {n : Nat} {cs : List PV} (h : OwnS m a sz v n cs) (hx : HExt a.heap b.heap) : OwnS m b sz v n cs := ⟨h.1,h.2.imp id fun ⟨t,h2,h3,h4⟩ => ⟨t,h2,h3,hx.hp h4⟩⟩
theorem refC_succ {rows : List (List UInt8)} {i : Nat} (hi : i < rows.length) (h0 : i ≠ 0) : refC rows (i + 1) = ⟨(refC rows i).room,(refC rows i).depth,(refC rows i).figs ++ [figOf (rowNs rows[i])]⟩ := by
 unfold refC
 rw [if_neg (by omega),if_neg h0,List.take_succ_eq_append_getElem hi,List.drop_append_of_le_length (by rw [List.length_take];omega),List.map_append]
 rfl
theorem refC_one {rows : List (List UInt8)} : refC rows 1 = ⟨(rowNs (rows.getD 0 [])).getD 0 0,(rowNs (rows.getD 0 [])).getD 1 0,[]⟩ := by
 unfold refC
 rw [if_neg (by omega)]
 cases rows <;> rfl
theorem ref_no {s : List UInt8} {i : Nat} (hi : i < (splitL 10 [] s).length - 2) (h : rowB i ((splitL 10 [] s).getD i []) = false) : refP s = none := by
 unfold refP
 rw [if_neg]
 rw [Bool.and_eq_true]
 rintro ⟨h1,_⟩
 rw [refOk_iff.1 h1 i hi] at h;cases h
def allP (ns : List Int) (k : Nat) : Bool := (ns.take k).all fun n => decide (n ≥ 0)
theorem allP_succ {ns : List Int} {k : Nat} (h : k < ns.length) : allP ns (k + 1) = (allP ns k && decide (ns[k] ≥ 0)) := by
 unfold allP
 rw [List.take_succ_eq_append_getElem h,List.all_append];simp
theorem nums_ok {ws : List (List UInt8)} {ns : List Int} {b : Bool} (h : NumsP ws ns b) : (b && allP ns ns.length) = ws.all numB := by
 unfold allP
 rw [List.take_length]
 cases hw : ws.all numB
 ·cases b
  ·rfl
  ·obtain ⟨n,hn,h0⟩ := (h.2 rfl).2.2 hw
   rw [Bool.true_and]
   exact List.all_eq_false.2 ⟨n,hn,by simp;omega⟩
 ·have hb := h.1 hw
  subst hb
  rw [Bool.true_and,(h.2 rfl).2.1 hw]
  refine List.all_eq_true.2 fun n hn => ?_
  obtain ⟨w,_,rfl⟩ := List.mem_map.1 hn
  simp
def RefP (s : List UInt8) (st : St) (v : PV) (st' : St) : Prop := ∃ F c b,v = .tuple [clPV c F,.bool b] ∧ SlOf 3 encF F c.figs ∧ Keep st st' ∧ ((b = true ∧ refP s = some c) ∨ (b = false ∧ refP s = none ∧ c = ⟨0,0,[]⟩))
set_option maxHeartbeats 32000000 in
theorem c73 (s : List UInt8) (hs : s.length ≤ 250) (st : St) : ClR EE (.func 73 [] []) [.str (toB s)] st (RefP s st) := by
 have hpm := splitL_mem 10 250 [] s (by simpa using hs)
 have hps := splitL_len 10 [] s
 have hpp := splitL_pos 10 s []
 have k120 : ∀ st,ClR EE (.func 120 [] []) [.str (toB s),.int .u8 10] st (RetS st 1 (splitL 10 [] s).length ((splitL 10 [] s).flatMap encS)) := c120 s 10 (by omega)
 have fin : ∀ (S : St) (F : PV) (c : CL) (b : Bool),SlOf 3 encF F c.figs → HExt st.heap S.heap → st.heap.length ≤ S.lo → ((b = true ∧ refP s = some c) ∨ (b = false ∧ refP s = none ∧ c = ⟨0,0,[]⟩)) → RefP s st (finishCall st S (.tuple [clPV c F,.bool b])).1 (finishCall st S (.tuple [clPV c F,.bool b])).2 := by
  intro S F c b hF hx hl hcase
  obtain ⟨k1,k2,k3⟩ := finish_keep (st := st) (st1 := S) (vs := [clPV c F,.bool b]) (by rfl) hl
  rw [k1]
  refine ⟨F,c,b,rfl,hF,⟨?_,k2⟩,hcase⟩
  rcases k3 with h | h <;> rw [h] <;> first | exact .refl _ | exact hx
 refine clr_fn (pr73 · _ _) fn73 1 rfl (by decide) (fun tm hl hg => ?_);have h0 : tg tm 0 = .str (toB s) := (hg 0 (by decide));clear hg
 refine go (bw hl h0) fnil ?_
 refine wops_callR rfl rfl (by simp only [↓reduceIte,go_sem,hl,h0];first | done | rfl) (by simp only [↓reduceIte,go_sem,hl,h0];exact k120 _) ?_
 intro V S1 hR1
 have q1 := hR1.lo
 have q2 := hR1.len
 try simp only [lo_push,len_push] at q1 q2
 have a0 := hR1.hp (l := st.heap.length) (o := .var [iv 0,iv 0,.nilslice]) (by simp only [↓reduceIte,go_sem])
 have a1 := hR1.hp (l := st.heap.length + 1) (o := .var [iv 0,iv 0,.nilslice]) (by simp only [↓reduceIte,go_sem])
 have hV := slS hR1
 have hVs := hV.slen
 have hwn : IntKind.wrap .i64 (((splitL 10 [] s).length : Int) - 2) = ((splitL 10 [] s).length : Int) - 2 := wrap_in (by unfold inI;omega)
 have hx1 : HExt st.heap S1.heap := (HExt.push (⟨st.heap,st.heap.length⟩ : St) _).trans ((HExt.push _ _).trans hR1.w.hext)
 have hrp : refP s = if refOk (splitL 10 [] s) ((splitL 10 [] s).length - 2) && (textL (refC (splitL 10 [] s) ((splitL 10 [] s).length - 2)) == s) then some (refC (splitL 10 [] s) ((splitL 10 [] s).length - 2)) else none := rfl
 have hno : ∀ i,i < (splitL 10 [] s).length - 2 → rowB i ((splitL 10 [] s).getD i []) = false → refP s = none := fun i h1 h2 => ref_no h1 h2
 have hrok : ∀ m,m ≤ (splitL 10 [] s).length → (∀ i < m,rowB i ((splitL 10 [] s).getD i []) = true) → OkW (refC (splitL 10 [] s) m) := fun m h1 h2 => refC_ok hs h1 h2
 generalize splitL 10 [] s = rows at hV hVs hwn hrp hno hrok hpm hps hpp
 refine go hl fnil ?_
 refine wp_for [6] (fun i vs S => ∃ v,vs = [iv i] ∧ i ≤ rows.length - 2 ∧ (∀ j < i,rowB j (rows.getD j []) = true) ∧ hp S st.heap.length = some (.var [iv 0,iv 0,.nilslice]) ∧ hp S (st.heap.length + 1) = some (.var [iv (refC rows i).room,iv (refC rows i).depth,v]) ∧ OwnS (st.heap.length + 1) S 3 v (refC rows i).figs.length ((refC rows i).figs.flatMap encF) ∧ HExt st.heap S.heap ∧ st.heap.length ≤ S.lo ∧ S.lo ≤ S.heap.length) (fun i => rows.length - 2 - i) ⟨.nilslice,by simp only [↓reduceIte,go_sem,hl];first | done | rfl,Nat.zero_le _,(fun j hj => absurd hj (by omega)),a0,a1,.nil,hx1,by omega,by omega⟩ ?_
 clear a0 a1 hx1 q1 q2 hR1
 rintro i tm1 S ⟨v,hv,hi,hok,a0,a1,hO,hx,hlo,hwf⟩ hS
 simp only [List.map_cons,List.map_nil,List.cons.injEq,and_true] at hv
 have hl1 : tm1.length = 95 := (by rw [hS.1];simp only [put_len,hl]);have i0 : tg tm1 0 = .str (toB s) := (by rw [hS.2 0 (by decide)];simp only [↓reduceIte,go_sem,hl,h0]);have i2 : tg tm1 2 = .ptr st.heap.length 0 := (by rw [hS.2 2 (by decide)];simp only [↓reduceIte,go_sem,hl,h0]);have i4 : tg tm1 4 = .ptr (st.heap.length + 1) 0 := (by rw [hS.2 4 (by decide)];simp only [↓reduceIte,go_sem,hl,h0]);have i5 : tg tm1 5 = V := (by rw [hS.2 5 (by decide)];simp only [↓reduceIte,go_sem,hl,h0]);clear hS
 have m0 := hp_lt a0
 have m1 := hp_lt a1
 have hOk := hrok i (by omega) hok
 have hFv : SlOf 3 encF v (refC rows i).figs := SlOf.of_sl hO.sl rfl rfl (fun _ => rfl)
 have hvc := hFv.cells
 have hvi := hFv.isCell
 refine go (bw5 hl1 hv i5 hVs hwn) fnil ?_
 refine ⟨decide ((i : Int) < (rows.length : Int) - 2),by simp only [↓reduceIte,go_sem,hl1],fun hb => ?_,fun hb1 => ?_⟩
 ·have hlt := of_decide_eq_false hb
  obtain rfl : i = rows.length - 2 := by omega
  have hro := refOk_iff.2 hok
  rw [hro,Bool.true_and] at hrp
  have k71 := c71 (refC rows (rows.length - 2)) v hFv hOk
  cases ht : (textL (refC rows (rows.length - 2)) == s)
  ·rw [ht] at hrp
   have hrp' : refP s = none := hrp
   refine go (bw19 hl1 i0 i2 i4 a0 a1 (neL m0) (neA m0) (ltL m0) (ltA m0) (neL m1) (neA m1) (ltL m1) (ltA m1) m0 m1 hvc hvi ht) (bw k71 fnil) ?_
   refine fnr_ret (v := .tuple [clPV ⟨0,0,[]⟩ .nilslice,.bool false]) (results_two ?_ ?_) (fin _ .nilslice ⟨0,0,[]⟩ false .nil (hx.setVar (Nat.le_refl _)) (by simp only [lo_setVar];omega) (.inr ⟨rfl,hrp',rfl⟩))
   ·rw [rdRes_hp (l := st.heap.length) (off := 0) (by simp only [↓reduceIte,go_sem,hl1,i2])]
    simp only [↓reduceIte,go_sem,hl1,m0];first | done | rfl
   ·rw [rdRes_tmp];simp only [↓reduceIte,go_sem,hl1];first | done | rfl
  ·rw [ht] at hrp
   have hrp' : refP s = some (refC rows (rows.length - 2)) := hrp
   refine go (bw19 hl1 i0 i2 i4 a0 a1 (neL m0) (neA m0) (ltL m0) (ltA m0) (neL m1) (neA m1) (ltL m1) (ltA m1) m0 m1 hvc hvi ht) (bw k71 fnil) ?_
   refine fnr_ret (v := .tuple [clPV (refC rows (rows.length - 2)) v,.bool true]) (results_two ?_ ?_) (fin _ v (refC rows (rows.length - 2)) true hFv (hx.setVar (Nat.le_refl _)) (by simp only [lo_setVar];omega) (.inl ⟨rfl,hrp'⟩))
   ·rw [rdRes_hp (l := st.heap.length) (off := 0) (by simp only [↓reduceIte,go_sem,hl1,i2])]
    simp only [↓reduceIte,go_sem,hl1,m0,hvc,hvi];first | done | rfl
   ·rw [rdRes_tmp];simp only [↓reduceIte,go_sem,hl1];first | done | rfl
 have hlt : i < rows.length - 2 := by have := of_decide_eq_true hb1;omega
 have hir : i < rows.length := by omega
 have hw1 : IntKind.wrap .i64 ((i : Int) + 1) = ((i + 1 : Nat) : Int) := wrap_nat (n := i + 1) (by omega)
 have hrl := hpm _ (List.getElem_mem hir)
 have hrg : rows.getD i [] = rows[i] := by rw [List.getD_eq_getElem?_getD,List.getElem?_eq_getElem hir];rfl
 have k120r : ∀ st,ClR EE (.func 120 [] []) [.str (toB rows[i]),.int .u8 32] st (RetS st 1 (splitL 32 [] rows[i]).length ((splitL 32 [] rows[i]).flatMap encS)) := c120 rows[i] 32 (by omega)
 refine ⟨by omega,?_⟩
 refine go (bw3 hl1 hv i5) fnil ?_
 refine wops_callR rfl rfl (by simp only [↓reduceIte,go_sem,hl1];first | done | rfl) (by simp only [↓reduceIte,go_sem,hl1];exact k120r _) ?_
 intro V2 S2 hR2
 have x1 := hR2.lo
 have x2 := hR2.len
 have b0 := hR2.hp a0
 have b1 := hR2.hp a1
 have hV2 := slS hR2
 have hsp := splitL_pos 32 rows[i] []
 have hwl := splitL_len 32 [] rows[i]
 have hwm := splitL_mem 32 250 [] rows[i] (by simpa using hrl)
 refine go hl1 fnil ?_
 refine wops_slice rfl rfl (by simp only [↓reduceIte,go_sem,hl1];first | done | rfl) hV2 (m := (splitL 32 [] rows[i]).length) (n := 1) (by rfl) (by rfl) (by omega) (Nat.le_refl _) ?_
 intro V3 hV3
 have e3 : ((splitL 32 [] rows[i]).drop 1).take ((splitL 32 [] rows[i]).length - 1) = wordsL rows[i] := by unfold wordsL;rw [List.drop_one,List.take_of_length_le (by simp)]
 rw [e3] at hV3
 have hwt : ∀ w ∈ wordsL rows[i],w.length ≤ 1000 := fun w hw => by
  have := hwm w (List.mem_of_mem_tail hw)
  omega
 have hwtl : (wordsL rows[i]).length ≤ 250 := by unfold wordsL;rw [List.length_tail];omega
 obtain ⟨ns,b,hN,hb0,kN⟩ := c121 V3 (wordsL rows[i]) hV3 hwt (by omega)
 refine go hl1 fnil ?_
 refine wops_callR rfl rfl (by simp only [↓reduceIte,go_sem,hl1];first | done | rfl) (by simp only [↓reduceIte,go_sem,hl1];exact kN _) ?_
 rintro u S3 ⟨P,rfl,hP,hK3⟩
 have x3 := hK3.2
 have x4 := hK3.len
 have d0 := hK3.hp b0
 have d1 := hK3.hp b1
 have n0 := hp_lt d0
 have n1 := hp_lt d1
 have hPs := hP.slen
 have hnl : ns.length ≤ 250 := by
  cases b with
  | false => rw [hb0 rfl];simp
  | true => have := (hN.2 rfl).1;omega
 have hx3 : HExt S.heap S3.heap := hR2.w.hext.trans hK3.1
 have hO3 := own_hext hO hx3
 refine go hl1 fnil ?_
 refine wp_for [9,8] (fun k vs Z => vs = [iv k,.bool (b && allP ns k)] ∧ k ≤ ns.length ∧ Z = S3) (fun k => ns.length - k) ⟨by simp only [↓reduceIte,go_sem,hl1];cases b <;> first | done | rfl,Nat.zero_le _,rfl⟩ ?_
 rintro k tm2 Z ⟨hv2,hk,rfl⟩ hS
 simp only [List.map_cons,List.map_nil,List.cons.injEq,and_true] at hv2
 obtain ⟨hv9,hv8⟩ := hv2
 have hl2 : tm2.length = 95 := (by rw [hS.1];simp only [put_len,hl1]);have j0 : tg tm2 0 = .str (toB s) := (by rw [hS.2 0 (by decide)];simp only [↓reduceIte,go_sem,hl1,i0,i2,i4,i5,hv]);have j2 : tg tm2 2 = .ptr st.heap.length 0 := (by rw [hS.2 2 (by decide)];simp only [↓reduceIte,go_sem,hl1,i0,i2,i4,i5,hv]);have j4 : tg tm2 4 = .ptr (st.heap.length + 1) 0 := (by rw [hS.2 4 (by decide)];simp only [↓reduceIte,go_sem,hl1,i0,i2,i4,i5,hv]);have j5 : tg tm2 5 = V := (by rw [hS.2 5 (by decide)];simp only [↓reduceIte,go_sem,hl1,i0,i2,i4,i5,hv]);have j6 : tg tm2 6 = iv i := (by rw [hS.2 6 (by decide)];simp only [↓reduceIte,go_sem,hl1,i0,i2,i4,i5,hv]);have j7 : tg tm2 7 = P := (by rw [hS.2 7 (by decide)];simp only [↓reduceIte,go_sem,hl1,i0,i2,i4,i5,hv]);clear hS
 refine go (bw4 hl2 hv9 j7 hPs) fnil ?_
 refine ⟨decide ((k : Int) < ns.length),by simp only [↓reduceIte,go_sem,hl2],fun hb2 => ?_,fun hb3 => ?_⟩
 rotate_left
 ·have hltk : k < ns.length := by have := of_decide_eq_true hb3;omega
  have hw2 : IntKind.wrap .i64 ((k : Int) + 1) = ((k + 1 : Nat) : Int) := wrap_nat (n := k + 1) (by omega)
  have hsu := allP_succ hltk
  refine ⟨by omega,?_⟩
  cases hbk : (b && allP ns k)
  ·rw [hbk] at hv8
   have e : (b && allP ns (k + 1)) = false := by rw [hsu,← Bool.and_assoc,hbk];rfl
   refine go (bw5 hl2 hv9 hv8 j7 hw2) fnil ?_
   exact ⟨by simp only [↓reduceIte,go_sem,hl2,e],by omega,rfl⟩
  ·rw [hbk] at hv8
   have e : (b && allP ns (k + 1)) = decide (ns[k] ≥ 0) := by rw [hsu,← Bool.and_assoc,hbk,Bool.true_and]
   refine go (bw5 hl2 hv9 hv8 j7 hw2) fnil ?_
   exact ⟨by simp only [↓reduceIte,go_sem,hl2,e],by omega,rfl⟩
 have hltk := of_decide_eq_false hb2
 obtain rfl : k = ns.length := by omega
 rw [nums_ok hN] at hv8
 clear hb2 hltk hk
 have hbad : rowB i rows[i] = false → refP s = none := fun h => hno i hlt (by rw [hrg];exact h)
 have hxZ : HExt st.heap Z.heap := hx.trans hx3
 have hnum : ∀ b',(wordsL rows[i]).all numB = b' → (b' = true → ns = rowNs rows[i] ∧ ns.length = (wordsL rows[i]).length) := fun b' h1 h2 => by
  subst h2
  have hb := hN.1 h1
  exact ⟨(hN.2 hb).2.1 h1,(hN.2 hb).1⟩
 cases hw : (wordsL rows[i]).all numB
 ·rw [hw] at hv8
  have hr := hbad (by unfold rowB;rw [hw];rfl)
  refine go (bw9 hl2 hv8 j2 d0 (neL n0) (neA n0) (ltL n0) (ltA n0) n0) fnil ?_
  refine fnr_ret (v := .tuple [clPV ⟨0,0,[]⟩ .nilslice,.bool false]) (results_two ?_ ?_) (fin _ .nilslice ⟨0,0,[]⟩ false .nil (hxZ.setVar (Nat.le_refl _)) (by simp only [lo_setVar];omega) (.inr ⟨rfl,hr,rfl⟩))
  ·rw [rdRes_hp (l := st.heap.length) (off := 0) (by simp only [↓reduceIte,go_sem,hl2,j2])]
   simp only [↓reduceIte,go_sem,hl2,n0];first | done | rfl
  ·rw [rdRes_tmp];simp only [↓reduceIte,go_sem,hl2];first | done | rfl
 obtain ⟨hns,hnl2⟩ := hnum _ hw rfl
 rw [hw] at hv8
 by_cases hi0 : i = 0
 ·have z1 : ((i : Int) == 0) = true := by rw [hi0];rfl
  have z2 : decide ((i : Int) > 0) = false := by rw [hi0];rfl
  cases z3 : ((ns.length : Int) != 2)
  case true =>
   have hr := hbad (by unfold rowB;rw [hw,if_pos hi0,← hnl2,Bool.true_and,decide_eq_false_iff_not];intro h;rw [h] at z3;cases z3)
   refine go (bw15 hl2 hv8 j2 j6 j7 hPs d0 (neL n0) (neA n0) (ltL n0) (ltA n0) n0 z1 z2 z3) fnil ?_
   refine fnr_ret (v := .tuple [clPV ⟨0,0,[]⟩ .nilslice,.bool false]) (results_two ?_ ?_) (fin _ .nilslice ⟨0,0,[]⟩ false .nil (hxZ.setVar (Nat.le_refl _)) (by simp only [lo_setVar];omega) (.inr ⟨rfl,hr,rfl⟩))
   ·rw [rdRes_hp (l := st.heap.length) (off := 0) (by simp only [↓reduceIte,go_sem,hl2,j2])]
    simp only [↓reduceIte,go_sem,hl2,n0];first | done | rfl
   ·rw [rdRes_tmp];simp only [↓reduceIte,go_sem,hl2];first | done | rfl
  have hn2 : ns.length = 2 := by have := bne_eq_false_iff_eq.1 z3;omega
  have hrow : rowB i rows[i] = true := by unfold rowB;rw [hw,if_pos hi0,← hnl2,hn2];rfl
  have hC : refC rows (i + 1) = ⟨ns[0],ns[1],[]⟩ := by
   have e0 : rows.getD 0 [] = rows[i] := by rw [← hrg,hi0]
   have e1 : refC rows (i + 1) = refC rows 1 := congrArg (refC rows) (by omega)
   rw [e1,refC_one,e0,← hns,getD_in (show 0 < ns.length by omega),getD_in (show 1 < ns.length by omega)]
  have hC0 : refC rows i = ⟨0,0,[]⟩ := by unfold refC;rw [if_pos hi0]
  rw [hC0] at hO3 d1
  refine go (bw9 hl2 hv8 j4 j6 j7 hPs z1 z2 z3) fnil ?_
  refine wopsD_set (v := undef) (l := st.heap.length + 1) (ob := .var [iv ns[0],iv 0,v]) (by omega) (by omega) rfl rfl (fun rec st5 he hh => by simp only [↓reduceIte,go_sem,hl2,j4,he,hh,d1,neL n1,neA n1,ltL n1,ltA n1]) ?_
  refine go (bw hl2 j4) fnil ?_
  refine wopsD_set (v := undef) (l := st.heap.length + 1) (ob := .var [iv ns[0],iv ns[1],v]) (by simp only [lo_setVar,len_setVar];omega) (by simp only [len_setVar];omega) rfl rfl (fun rec st5 he hh => by simp only [↓reduceIte,go_sem,hl2,j4,he,hh,d1,neL n1,neA n1,ltL n1,ltA n1,n1]) ?_
  apply wopsD_nil
  refine ⟨?_,?_⟩
  ·simp only [footOk,List.all_cons,List.all_nil,List.getElem?_cons_zero,List.getElem?_cons_succ,Bool.and_true]
   simp only [footOf]
   simp only [↓reduceIte,go_sem,hl2,j4]
  refine go (bw3 hl2 j6 hw1) fnil ?_
  refine ⟨v,by simp only [↓reduceIte,go_sem,hl2],by omega,fun j hj => ?_,by simp only [↓reduceIte,go_sem,d0,n0,n1];first | done | rfl,by rw [hC];simp only [↓reduceIte,go_sem,n1];first | done | rfl,?_,(hxZ.setVar (by omega)).setVar (by omega),by simp only [lo_setVar];omega,by simp only [lo_setVar,len_setVar];omega⟩
  ·rw [show j = i by omega,hrg];exact hrow
  ·rw [hC]
   exact OwnS.setVar (OwnS.setVar hO3 (by rw [d1];simp)) (by simp only [↓reduceIte,go_sem,n1];simp)
 ·have z1 : ((i : Int) == 0) = false := by rw [beq_eq_false_iff_ne];omega
  have z2 : decide ((i : Int) > 0) = true := by rw [decide_eq_true_eq];omega
  cases z3 : ((ns.length : Int) != 3)
  case true =>
   have hr := hbad (by unfold rowB;rw [hw,if_neg hi0,← hnl2,Bool.true_and,decide_eq_false_iff_not];intro h;rw [h] at z3;cases z3)
   refine go (bw15 hl2 hv8 j2 j6 j7 hPs d0 (neL n0) (neA n0) (ltL n0) (ltA n0) n0 z1 z2 z3) fnil ?_
   refine fnr_ret (v := .tuple [clPV ⟨0,0,[]⟩ .nilslice,.bool false]) (results_two ?_ ?_) (fin _ .nilslice ⟨0,0,[]⟩ false .nil (hxZ.setVar (Nat.le_refl _)) (by simp only [lo_setVar];omega) (.inr ⟨rfl,hr,rfl⟩))
   ·rw [rdRes_hp (l := st.heap.length) (off := 0) (by simp only [↓reduceIte,go_sem,hl2,j2])]
    simp only [↓reduceIte,go_sem,hl2,n0];first | done | rfl
   ·rw [rdRes_tmp];simp only [↓reduceIte,go_sem,hl2];first | done | rfl
  have hn3 : ns.length = 3 := by have := bne_eq_false_iff_eq.1 z3;omega
  have hrow : rowB i rows[i] = true := by unfold rowB;rw [hw,if_neg hi0,← hnl2,hn3];rfl
  have hC := refC_succ hir hi0
  have hfg : figOf (rowNs rows[i]) = ⟨ns[0],ns[1],ns[2]⟩ := by
   rw [← hns]
   unfold figOf
   rw [getD_in (show 0 < ns.length by omega),getD_in (show 1 < ns.length by omega),getD_in (show 2 < ns.length by omega)]
  have hfl : (refC rows i).figs.length ≤ 250 := by
   unfold refC
   rw [if_neg hi0]
   simp
   omega
  refine go (bw17 hl2 hv8 j4 j6 j7 hPs d1 (neL n1) (neA n1) (ltL n1) (ltA n1) n1 z1 z2 z3 hvc hvi) fnil ?_
  refine wopsD_append (m := st.heap.length + 1) (by simp only [lo_push,len_push];omega) rfl rfl (by simp only [↓reduceIte,go_sem,hl2];first | done | rfl) (by simp only [↓reduceIte,go_sem,hl2];first | done | rfl) hO3.push rfl (by simp only [len_push];omega) (by rfl) (by rfl) (by simp only [maxList];omega) ?_
  intro v' Z2 ft hO' hFr hk
  have f1 := hFr.lo
  have f2 := hFr.up
  have f3 := hFr.len
  simp only [lo_push,len_push] at f1 f2 f3
  have g0 := hk _ _ ((HExt.push Z _).hp d0) (by simp)
  have g1 := hk _ _ ((HExt.push Z _).hp d1) (by simp)
  have o1 := hp_lt g1
  have o0 := hp_lt g0
  have hvc' : v'.cells = [v'] := sl_cells hO'.sl
  have hvi' : v'.isCell = true := sl_isCell hO'.sl
  refine go (bw4 hl2 j4 hvc' hvi') fnil ?_
  refine wopsD_set (v := undef) (l := st.heap.length + 1) (ob := .var [iv (refC rows i).room,iv (refC rows i).depth,v']) (by omega) (by omega) rfl rfl (fun rec st5 he hh => by simp only [↓reduceIte,go_sem,hl2,j4,he,hh,g1,hvc',hvi',neL o1,neA o1,ltL o1,ltA o1]) ?_
  apply wopsD_nil
  refine ⟨footOk_q (by simp [footOf]),?_⟩
  have hxZ2 : HExt st.heap Z2.heap := ⟨by have := hxZ.1;omega,fun l hl => by
   have h1 := hFr.old l (by omega)
   have h2 : hp (Z.push (.tag true)) l = hp Z l := by rw [hp_push,if_neg (by omega)]
   have h3 : hp Z2 l = hp Z l := h1.trans h2
   exact h3.trans (hxZ.2 l hl)⟩
  refine go (bw3 hl2 j6 hw1) fnil ?_
  refine ⟨v',by simp only [↓reduceIte,go_sem,hl2],by omega,fun j hj => ?_,by simp only [↓reduceIte,go_sem,g0,o1];first | done | rfl,by rw [hC];simp only [↓reduceIte,go_sem,o1];first | done | rfl,?_,hxZ2.setVar (by omega),by simp only [lo_setVar];omega,by simp only [lo_setVar,len_setVar];omega⟩
  ·by_cases hji : j = i
   ·rw [hji,hrg];exact hrow
   ·exact hok j (by omega)
  ·rw [hC,hfg]
   refine OwnS.setVar ?_ (by rw [g1];simp)
   simpa [share_int] using hO'
end Go.Den.Ch
end
section
namespace Go.Den.Ch
set_option maxHeartbeats 16000000 in
theorem c22 (s : List UInt8) (st : St) : Cl EE (.func 22 [] []) [.str (toB s)] st (.ret (.bool true)) st := by
 have zf : (((2 : Int) != 0) = true) ∧ (((3 : Int) != 0) = true) ∧ (((4 : Int) != 0) = true) ∧ (((2 : Int) == 2) = true) ∧ (((3 : Int) == 3) = true) ∧ (((4 : Int) == 4) = true) := ⟨rfl,rfl,rfl,rfl,rfl,rfl⟩
 refine cl_fn (pr22 · _ _) fn22 1 rfl (by decide) (fun tm hl hg => ?_);have h0 : tg tm 0 = .str (toB s) := (hg 0 (by decide));clear hg
 cases d0 : decide ((s.length : Int) > 250)
 case true =>
  refine go (bw3 hl h0 d0) (bw c26 fnil) ?_
  refine fnq_flat (results_one (by rw [rdRes_tmp];simp only [↓reduceIte,go_sem,hl];first | done | rfl)) (by first | exact Nat.le_refl _ | omega | (simp only [lo_push,lo_setVar];omega)) (by rfl)
 have hs : s.length ≤ 250 := by have := of_decide_eq_false d0;omega
 refine go (bw3 hl h0 d0) fnil ?_
 refine wops_callR rfl rfl (by simp only [↓reduceIte,go_sem,hl,h0];first | done | rfl) (by simp only [↓reduceIte,go_sem,hl,h0];exact c70 s _) ?_
 rintro v S1 ⟨F,rfl,hF,hx1,hlo1⟩
 have q1 := hx1.1
 try simp only [lo_push,len_push] at q1 hlo1
 have hFc := hF.cells
 have hFi := hF.isCell
 refine go (bw4 hl h0 hFc hFi) fnil ?_
 refine wops_callR rfl rfl (by simp only [↓reduceIte,go_sem,hl,h0];first | done | rfl) (by simp only [↓reduceIte,go_sem,hl,h0];exact c73 s hs _) ?_
 rintro u S2 ⟨G,c,b,rfl,hG,hK,hcase⟩
 have q3 := hK.2
 have q4 := hK.len
 try simp only [lo_push,len_push,lo_setVar,len_setVar] at q3 q4
 have hGc := hG.cells
 have hGi := hG.isCell
 have b1 := hK.hp (l := S1.heap.length) (o := .var [iv (readR s).1.room,iv (readR s).1.depth,F]) (by simp only [↓reduceIte,go_sem])
 have m1 := hp_lt b1
 have nil : SlOf 3 encF .nilslice (⟨0,0,[]⟩ : CL).figs := .nil
 have zero : ∀ e : Int,readR s = (⟨0,0,[]⟩,e) → ∀ st,Cl EE (.func 72 [] []) [clPV ⟨0,0,[]⟩ F,clPV ⟨0,0,[]⟩ .nilslice] st (.ret (.bool true)) st := fun e he => c72 ⟨0,0,[]⟩ F .nilslice (by rw [he] at hF;exact hF) nil (by simp)
 cases d1 : decide ((s.length : Int) > 150)
 case true =>
  have h150 : s.length > 150 := by have := of_decide_eq_true d1;omega
  have e : readR s = (⟨0,0,[]⟩,3) := by simp [readR,h150]
  have k72 := zero _ e
  rw [e] at b1 ⊢
  refine go (bw14 hl h0 b1 (neL m1) (neA m1) (ltL m1) (ltA m1) m1 hFc hFi hGc hGi d1 zf) (bw3 k72 c26 fnil) ?_
  refine fnq_flat (results_one (by rw [rdRes_tmp];simp only [↓reduceIte,go_sem,hl];first | done | rfl)) (by first | exact Nat.le_refl _ | omega | (simp only [lo_push,lo_setVar];omega)) (by rfl)
 have h150 : ¬ s.length > 150 := by have := of_decide_eq_false d1;omega
 have hrp := ref_parsed (s := s) (by omega)
 rcases hcase with ⟨rfl,hc⟩ | ⟨rfl,hn,hz⟩
 ·obtain ⟨hw,ht⟩ := ref_some hs hc
  rw [hc] at hrp
  have k33 := c33 c G hG (by have := hw.len;omega)
  cases hA : listB c
  ·have e : readR s = (⟨0,0,[]⟩,2) := by simp [readR,h150,← hrp,hA]
   have k72 := zero _ e
   rw [e] at b1 ⊢
   refine go (bw15 hl h0 b1 (neL m1) (neA m1) (ltL m1) (ltA m1) m1 hFc hFi hGc hGi d1 zf hA) (bw4 k33 k72 c26 fnil) ?_
   refine fnq_flat (results_one (by rw [rdRes_tmp];simp only [↓reduceIte,go_sem,hl];first | done | rfl)) (by first | exact Nat.le_refl _ | omega | (simp only [lo_push,lo_setVar];omega)) (by rfl)
  ·have e : readR s = (c,0) := by simp [readR,h150,← hrp,hA]
   rw [e] at hF b1 ⊢
   have k72 := c72 c F G hF hG (by have := hw.len;omega)
   have k69 := c69 c F hF
   rw [hA] at k69
   simp only [if_true] at k69
   have ts : (textL c == s) = true := by rw [ht];simp
   refine go (bw16 hl h0 b1 (neL m1) (neA m1) (ltL m1) (ltA m1) m1 hFc hFi hGc hGi d1 zs hA ts) (bw5 k33 k69 k72 c26 fnil) ?_
   refine fnq_flat (results_one (by rw [rdRes_tmp];simp only [↓reduceIte,go_sem,hl];first | done | rfl)) (by first | exact Nat.le_refl _ | omega | (simp only [lo_push,lo_setVar];omega)) (by rfl)
 ·rw [hn] at hrp
  have e : readR s = (⟨0,0,[]⟩,4) := by simp [readR,h150,← hrp]
  have k72 := zero _ e
  rw [e] at b1 ⊢
  refine go (bw14 hl h0 b1 (neL m1) (neA m1) (ltL m1) (ltA m1) m1 hFc hFi hGc hGi d1 zf) (bw3 k72 c26 fnil) ?_
  refine fnq_flat (results_one (by rw [rdRes_tmp];simp only [↓reduceIte,go_sem,hl];first | done | rfl)) (by first | exact Nat.le_refl _ | omega | (simp only [lo_push,lo_setVar];omega)) (by rfl)
end Go.Den.Ch
end

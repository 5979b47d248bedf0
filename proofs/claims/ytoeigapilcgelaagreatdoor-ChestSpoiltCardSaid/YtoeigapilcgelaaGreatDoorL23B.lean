/- Part of the proof that for every input the function ChestSpoilt returns true and each argument reads as it did. Texts: ChPr, ChRa, ChRb, ChRc, ChRs, ChRt. -/
import Derived.Test.YtoeigapilcgelaaGreatDoorK8Aw
set_option linter.unusedSimpArgs false
set_option linter.unusedVariables false
section
namespace Go.Den.Ch
theorem splitL_app (b : UInt8) : ∀ (x acc y : List UInt8),splitL b acc (x ++ b :: y) = splitL b acc x ++ splitL b [] y
 | [],acc,y => by simp [splitL]
 | z :: x,acc,y => by
  simp only [List.cons_append,splitL]
  split
  ·rw [splitL_app b x [] y];rfl
  ·exact splitL_app b x _ y
theorem splitL_none (b : UInt8) : ∀ (x acc : List UInt8),b ∉ x → splitL b acc x = [acc ++ x]
 | [],acc,_ => by simp [splitL]
 | z :: x,acc,h => by
  simp only [List.mem_cons,not_or] at h
  rw [splitL,if_neg (Ne.symm h.1),splitL_none b x _ h.2]
  simp
theorem snoc_ind {α : Type} {P : List α → Prop} (h0 : P []) (h1 : ∀ l a,P l → P (l ++ [a])) (l : List α) : P l := by
 have : ∀ m : List α,P m.reverse := by
  intro m
  induction m with
  | nil => exact h0
  | cons a m ih => rw [List.reverse_cons];exact h1 _ _ ih
 rw [← List.reverse_reverse l]
 exact this _
theorem rowL_snoc (w : List UInt8) (ns : List Int) (n : Int) : rowL w (ns ++ [n]) = rowL w ns ++ 32 :: itoaL n.toNat := by
 rw [rowL,List.foldl_append];rfl
theorem itoaL_mem {n : Nat} (h : n < 100) : ∀ b ∈ itoaL n,48 ≤ b.toNat ∧ b.toNat ≤ 57 := by
 have : ∀ n : Fin 100,(itoaL n.val).all (fun b => decide (48 ≤ b.toNat) && decide (b.toNat ≤ 57)) = true := by decide +kernel
 have h1 := this ⟨n,h⟩
 intro b hb
 have := List.all_eq_true.1 h1 b hb
 simpa using this
theorem itoaL_num {n : Nat} (h : n < 100) : numB (itoaL n) = true ∧ valL (itoaL n) = n := by
 have : ∀ n : Fin 100,(numB (itoaL n.val) && decide (valL (itoaL n.val) = n.val)) = true := by decide +kernel
 have h1 := this ⟨n,h⟩
 simpa using h1
theorem rowL_split {w : List UInt8} (hw : (32 : UInt8) ∉ w) : ∀ (ns : List Int),(∀ n ∈ ns,0 ≤ n ∧ n < 100) → splitL 32 [] (rowL w ns) = w :: ns.map fun n => itoaL n.toNat := by
 refine snoc_ind (P := fun ns => (∀ n ∈ ns,0 ≤ n ∧ n < 100) → splitL 32 [] (rowL w ns) = w :: ns.map fun n => itoaL n.toNat) ?_ ?_
 ·intro _;exact splitL_none 32 w [] hw
 ·intro ns n ih h
  have hn := h n (by simp)
  rw [rowL_snoc,splitL_app,ih (fun x hx => h x (by simp [hx])),splitL_none 32 _ _ (fun hb => by
   have := itoaL_mem (show n.toNat < 100 by omega) _ hb
   revert this;decide)]
  simp
theorem numsL_map : ∀ (ns : List Int),(∀ n ∈ ns,0 ≤ n ∧ n < 100) → numsL (ns.map fun n => itoaL n.toNat) = some ns
 | [],_ => rfl
 | n :: ns,h => by
  have hn := h n (by simp)
  obtain ⟨h1,h2⟩ := itoaL_num (show n.toNat < 100 by omega)
  rw [List.map_cons,numsL,h1,if_pos rfl,numsL_map ns (fun x hx => h x (by simp [hx])),h2,Int.toNat_of_nonneg hn.1];rfl
theorem told_row {k : Nat} {w : List UInt8} (hk : kindW k = w) (hw : (32 : UInt8) ∉ w) (ns : List Int) (h : ∀ n ∈ ns,0 ≤ n ∧ n < 100) : toldL (rowL w ns) k ns.length = some ns := by
 unfold toldL
 rw [rowL_split hw ns h,if_pos ⟨by simp,by simp [hk]⟩]
 exact numsL_map ns h
theorem rowL_no {w : List UInt8} (hw : (10 : UInt8) ∉ w) : ∀ (ns : List Int),(∀ n ∈ ns,0 ≤ n ∧ n < 100) → (10 : UInt8) ∉ rowL w ns := by
 refine snoc_ind (P := fun ns => (∀ n ∈ ns,0 ≤ n ∧ n < 100) → (10 : UInt8) ∉ rowL w ns) ?_ ?_
 ·intro _;exact hw
 ·intro ns n ih h
  have hn := h n (by simp)
  rw [rowL_snoc]
  simp only [List.mem_append,List.mem_cons,not_or]
  refine ⟨ih (fun x hx => h x (by simp [hx])),by decide,fun hb => ?_⟩
  have := itoaL_mem (show n.toNat < 100 by omega) _ hb
  revert this;decide
theorem splitL_join : ∀ rows : List (List UInt8),(∀ r ∈ rows,(10 : UInt8) ∉ r) → splitL 10 [] (joinL rows) = rows ++ [[]]
 | [],_ => rfl
 | r :: rows,h => by
  have e : joinL (r :: rows) = r ++ 10 :: joinL rows := by simp [joinL]
  rw [e,splitL_app,splitL_none 10 r [] (h r (by simp)),splitL_join rows (fun x hx => h x (by simp [hx]))]
  simp
theorem seal_join (rows : List (List UInt8)) (m : Nat) : sealL rows m = joinL (rows ++ [endRow rows m]) := by
 rw [sealL,inter_out];simp [joinL]
theorem end_no (rows : List (List UInt8)) : (10 : UInt8) ∉ endRow rows 211 ∧ (endRow rows 211).length ≤ 10 := by
 unfold endRow
 have h : allSum rows rows.length % 211 < 211 := Nat.mod_lt _ (by decide)
 generalize allSum rows rows.length % 211 = s at h
 have hd : ∀ n,n < 100 → (10 : UInt8) ∉ itoaL n := fun n hn hb => by
  have := itoaL_mem hn _ hb
  revert this;decide
 constructor
 ·simp only [List.mem_append,not_or]
  exact ⟨⟨⟨by decide,hd _ (by omega)⟩,hd _ (by omega)⟩,hd _ (by omega)⟩
 ·have h1 := itoaL_len (s / 100)
  have h2 := itoaL_len (s / 10 % 10)
  have h3 := itoaL_len (s % 10)
  simp only [List.length_append,endW,List.length_cons,List.length_nil]
  omega
theorem figsL_map : ∀ (fs : List Fig),(∀ f ∈ fs,(0 ≤ f.size ∧ f.size < 100) ∧ (0 ≤ f.rank ∧ f.rank < 100) ∧ (0 ≤ f.eve ∧ f.eve < 100)) → figsL (fs.map figRow) = some fs
 | [],_ => rfl
 | f :: fs,h => by
  have hf := h f (by simp)
  have e : toldL (figRow f) 1 3 = some [f.size,f.rank,f.eve] := told_row (k := 1) (w := figW) rfl (by decide) [f.size,f.rank,f.eve] (by simp only [List.mem_cons,List.not_mem_nil,or_false];rintro n (rfl | rfl | rfl) <;> omega)
  rw [List.map_cons,figsL,e]
  simp only
  rw [figsL_map fs (fun g hg => h g (by simp [hg]))]
  rfl
theorem rows_no {c : CL} (hc : OkW c) : ∀ r ∈ rowsL c,(10 : UInt8) ∉ r := fun r hr => by
 simp only [rowsL,List.mem_cons,List.mem_map] at hr
 rcases hr with rfl | ⟨f,hf,rfl⟩
 ·exact rowL_no (by decide) _ (by simp only [List.mem_cons,List.not_mem_nil,or_false];rintro n (rfl | rfl) <;> first | exact hc.room | exact hc.depth)
 ·have := hc.figs f hf
  exact rowL_no (w := figW) (by decide) [f.size,f.rank,f.eve] (by simp only [List.mem_cons,List.not_mem_nil,or_false];rintro n (rfl | rfl | rfl) <;> omega)
theorem text_rows {c : CL} (hc : OkW c) : splitL 10 [] (textL c) = rowsL c ++ [endRow (rowsL c) 211] ++ [[]] := by
 rw [textL,seal_join]
 refine splitL_join _ fun r hr => ?_
 rcases List.mem_append.1 hr with h | h
 ·exact rows_no hc r h
 ·rw [List.mem_singleton.1 h];exact (end_no _).1
theorem text_len {c : CL} (hA : listB c = true) : (textL c).length ≤ 150 := by
 rw [textL,seal_join]
 have h1 := joinL_len (rows := rowsL c ++ [endRow (rowsL c) 211]) (fun r hr => by
  rcases List.mem_append.1 hr with h | h
  ·exact rowsL_len c r h
  ·rw [List.mem_singleton.1 h];have := (end_no (rowsL c)).2;omega) (rowsL c ++ [endRow (rowsL c) 211]).length
 rw [List.take_length] at h1
 have h2 : (rowsL c ++ [endRow (rowsL c) 211]).length = c.figs.length + 2 := by simp [rowsL]
 have h3 := (OkL.of hA).len
 rw [h2] at h1
 omega
theorem c69 (c : CL) (F : PV) (hF : SlOf 3 encF F c.figs) (st : St) : Cl EE (.func 69 [] []) [clPV c F] st (.ret (.tuple (if listB c then [.str (toB (textL c)),iv 0] else [.str (toB []),iv 2]))) st := by
 have hFc := hF.cells
 have hFi := hF.isCell
 refine cl_fn (pr69 · _ _) fn69 1 rfl (by decide) (fun tm hl hg => ?_);have h0 : tg tm 0 = clPV c F := (hg 0 (by decide));clear hg
 have k77 := c77 c F hF
 cases hA : listB c
 ·refine go (bw3 hl h0 hA) (bw k77 fnil) ?_
  refine fnq_tuple (results_two (v := .str (toB [])) (u := iv 2) ?_ ?_) (by first | omega | (simp only [lo_push,lo_setVar];omega)) (by rfl)
  ·rw [rdRes_tmp];simp only [↓reduceIte,go_sem,hl]
  ·rw [rdRes_tmp];simp only [↓reduceIte,go_sem,hl]
 ·have k115 := c115 c F hF (OkW.of hA)
  refine go (bw3 hl h0 hA) (bw3 k77 k115 fnil) ?_
  refine fnq_tuple (results_two (v := .str (toB (textL c))) (u := iv 0) ?_ ?_) (by first | omega | (simp only [lo_push,lo_setVar];omega)) (by rfl)
  ·rw [rdRes_tmp];simp only [↓reduceIte,go_sem,hl]
  ·rw [rdRes_tmp];simp only [↓reduceIte,go_sem,hl]
set_option maxHeartbeats 4000000 in
theorem c72 (c : CL) (F G : PV) (hF : SlOf 3 encF F c.figs) (hG : SlOf 3 encF G c.figs) (hN : c.figs.length < 1000) (st : St) : Cl EE (.func 72 [] []) [clPV c F,clPV c G] st (.ret (.bool true)) st := by
 have hFc := hF.cells
 have hFi := hF.isCell
 have hFs := hF.slen
 have hGc := hG.cells
 have hGi := hG.isCell
 have hGs := hG.slen
 refine cl_fn (pr72 · _ _) fn72 2 rfl (by decide) (fun tm hl hg => ?_);have h0 : tg tm 0 = clPV c F := (hg 0 (by decide));have h1 : tg tm 1 = clPV c G := (hg 1 (by decide));clear hg
 refine go (bw6 hl h0 h1 hFs hGs nne) fnil ?_
 refine wp_for [5] (fun i vs s => vs = [iv i] ∧ i ≤ c.figs.length ∧ s = (({ heap := st.heap,lo := st.heap.length } : St).push (.var [iv c.room,iv c.depth,F])).push (.var [iv c.room,iv c.depth,G])) (fun i => c.figs.length - i) ⟨by simp only [↓reduceIte,go_sem,hl];first | done | rfl,Nat.zero_le _,by first | done | rfl⟩ ?_
 rintro i tm1 s1 ⟨hv,hi,rfl⟩ hS
 simp only [List.map_cons,List.map_nil,List.cons.injEq,and_true] at hv
 have hl1 : tm1.length = 45 := (by rw [hS.1];simp only [put_len,hl]);have i2 : tg tm1 2 = .ptr st.heap.length 0 := (by rw [hS.2 2 (by decide)];simp only [↓reduceIte,go_sem,hl,h1]);have i3 : tg tm1 3 = .ptr (st.heap.length + 1) 0 := (by rw [hS.2 3 (by decide)];simp only [↓reduceIte,go_sem,hl,h1]);clear hS
 refine go (bw4 hl1 hv i2 hFs) fnil ?_
 refine ⟨decide ((i : Int) < c.figs.length),by simp only [↓reduceIte,go_sem,hl1],fun hb => ?_,fun hb1 => ?_⟩
 ·refine go hl1 fnil ?_
  refine fnq_flat (results_one (by rw [rdRes_tmp];simp only [↓reduceIte,go_sem,hl1];first | done | rfl)) (by first | exact Nat.le_refl _ | omega | (simp only [lo_push,lo_setVar];omega)) (by rfl)
 ·have hlt : i < c.figs.length := by have := of_decide_eq_true hb1;omega
  have hw1 : IntKind.wrap .i64 ((i : Int) + 1) = ((i + 1 : Nat) : Int) := wrap_nat (n := i + 1) (by omega)
  have hx : ([c.figs[i].size,c.figs[i].rank,c.figs[i].eve] == [c.figs[i].size,c.figs[i].rank,c.figs[i].eve]) = true := by simp
  refine ⟨by omega,?_⟩
  refine go (bw6 hl1 hv i2 i3 hx hw1) fnil ?_
  exact ⟨by simp only [↓reduceIte,go_sem,hl1],by omega,rfl⟩
end Go.Den.Ch
end
section
namespace Go.Den
end Go.Den
namespace Go.Den.Ch
def NumP (w : List UInt8) (v : Int) (b : Bool) : Prop := (numB w = true → b = true ∧ v = valL w) ∧ (b = true → numB w = false → v < 0)
end Go.Den.Ch
end
section
namespace Go.Den.Ch
def NumsP (ws : List (List UInt8)) (ns : List Int) (b : Bool) : Prop := (ws.all numB = true → b = true) ∧ (b = true → ns.length = ws.length ∧ (ws.all numB = true → ns = ws.map fun w => (valL w : Int)) ∧ (ws.all numB = false → ∃ n ∈ ns,n < 0))
end Go.Den.Ch
end
section
namespace Go.Den.Ch
theorem splitL_pos (b : UInt8) : ∀ (s acc : List UInt8),0 < (splitL b acc s).length
 | [],acc => by simp [splitL]
 | x :: s,acc => by
  simp only [splitL]
  split
  ·simp
  ·exact splitL_pos b s _
theorem splitL_sum (b : UInt8) : ∀ (s acc : List UInt8),((splitL b acc s).map fun r => r.length + 1).sum = acc.length + s.length + 1
 | [],acc => by simp [splitL]
 | x :: s,acc => by
  simp only [splitL]
  split
  ·rw [List.map_cons,List.sum_cons,splitL_sum b s []];simp;omega
  ·rw [splitL_sum b s];simp;omega
theorem sum_ge {k : Nat} : ∀ (l : List (List UInt8)) (n : Nat),n ≤ l.length → (∀ i,∀ hi : i < l.length,i < n → k ≤ l[i].length) → n * (k + 1) ≤ (l.map fun r => r.length + 1).sum
 | [],n,hn,_ => by simp at hn;subst hn;simp
 | r :: l,0,_,_ => by simp
 | r :: l,n + 1,hn,h => by
  have h1 := sum_ge l n (by simpa using hn) (fun i hi hin => h (i + 1) (by simpa using hi) (by omega))
  have h2 := h 0 (by simp) (by omega)
  simp only [List.getElem_cons_zero] at h2
  rw [List.map_cons,List.sum_cons,Nat.succ_mul];omega
def wordsL (r : List UInt8) : List (List UInt8) := (splitL 32 [] r).tail
def rowB (i : Nat) (r : List UInt8) : Bool := (wordsL r).all numB && decide ((wordsL r).length = if i = 0 then 2 else 3)
def rowNs (r : List UInt8) : List Int := (wordsL r).map fun w => (valL w : Int)
def refC (rows : List (List UInt8)) (m : Nat) : CL := if m = 0 then ⟨0,0,[]⟩ else ⟨(rowNs (rows.getD 0 [])).getD 0 0,(rowNs (rows.getD 0 [])).getD 1 0,((rows.take m).drop 1).map fun r => figOf (rowNs r)⟩
def refOk (rows : List (List UInt8)) (m : Nat) : Bool := (List.range m).all fun i => rowB i (rows.getD i [])
def refP (s : List UInt8) : Option CL := if refOk (splitL 10 [] s) ((splitL 10 [] s).length - 2) && (textL (refC (splitL 10 [] s) ((splitL 10 [] s).length - 2)) == s) then some (refC (splitL 10 [] s) ((splitL 10 [] s).length - 2)) else none
theorem getD_mem {l : List Int} {k : Nat} (h : k < l.length) : l.getD k 0 ∈ l := by
 rw [getD_in h];exact List.getElem_mem _
theorem rowsP_ok {rows : List (List UInt8)} {c : CL} (hl : rows.length ≤ 153) (h : rowsP rows = some c) : OkW c := by
 unfold rowsP at h
 split at h
 ·split at h
  ·rename_i n hn
   obtain ⟨h1,h2⟩ := toldL_ok hn
   cases hf : figsL ((rows.drop 1).take (rows.length - 2 - 1)) with
   | none => rw [hf] at h;cases h
   | some fs =>
    rw [hf] at h
    cases h
    obtain ⟨h3,h4⟩ := figsL_ok hf
    refine ⟨h2 _ (getD_mem (by omega)),h2 _ (getD_mem (by omega)),h4,?_⟩
    show fs.length ≤ 150
    rw [h3,List.length_take,List.length_drop];omega
  ·cases h
 ·cases h
theorem parsed_some {s : List UInt8} {c : CL} (hs : s.length ≤ 150) (h : parsedL s = some c) : OkW c ∧ textL c = s := by
 unfold parsedL at h
 cases hr : rowsP (splitL 10 [] s) with
 | none => rw [hr] at h;cases h
 | some d =>
  rw [hr] at h
  simp only [Option.bind_some] at h
  split at h
  ·rename_i ht
   cases h
   have := splitL_len 10 [] s
   exact ⟨rowsP_ok (by omega) hr,beq_iff_eq.1 ht⟩
  ·cases h
end Go.Den.Ch
end
section
namespace Go.Den.Ch
theorem splitL_acc (b : UInt8) : ∀ s : List UInt8,∃ h t,∀ acc,splitL b acc s = (acc ++ h) :: t
 | [] => ⟨[],[],fun acc => by simp [splitL]⟩
 | x :: s => by
  by_cases hx : x = b
  ·exact ⟨[],splitL b [] s,fun acc => by simp [splitL,hx]⟩
  ·obtain ⟨h,t,e⟩ := splitL_acc b s
   exact ⟨x :: h,t,fun acc => by rw [splitL,if_neg hx,e];simp⟩
theorem splitL_set (b d : UInt8) (hd : d ≠ b) : ∀ (s acc : List UInt8) (i : Nat) (hi : i < s.length),s[i] ≠ b → ∃ R1 R2 u v,splitL b acc s = R1 ++ (u ++ s[i] :: v) :: R2 ∧ splitL b acc (s.set i d) = R1 ++ (u ++ d :: v) :: R2
 | [],acc,i,hi,_ => by simp at hi
 | x :: s,acc,0,_,hx => by
  obtain ⟨h,t,e⟩ := splitL_acc b s
  simp only [List.getElem_cons_zero] at hx
  refine ⟨[],t,acc,h,?_,?_⟩
  ·rw [splitL,if_neg hx,e];simp
  ·rw [List.set_cons_zero,splitL,if_neg hd,e];simp
 | x :: s,acc,i + 1,hi,hx => by
  simp only [List.getElem_cons_succ] at hx ⊢
  by_cases hxb : x = b
  ·obtain ⟨R1,R2,u,v,e1,e2⟩ := splitL_set b d hd s [] i (by simpa using hi) hx
   exact ⟨acc :: R1,R2,u,v,by rw [splitL,if_pos hxb,e1];rfl,by rw [List.set_cons_succ,splitL,if_pos hxb,e2];rfl⟩
  ·obtain ⟨R1,R2,u,v,e1,e2⟩ := splitL_set b d hd s (acc ++ [x]) i (by simpa using hi) hx
   exact ⟨R1,R2,u,v,by rw [splitL,if_neg hxb,e1],by rw [List.set_cons_succ,splitL,if_neg hxb,e2]⟩
def rowT (i : Nat) : Nat → List UInt8 → Nat
 | _,[] => 0
 | k,b :: r => b.toNat * (k + 1) * (i + 1) + rowT i (k + 1) r
def totT : Nat → List (List UInt8) → Nat
 | _,[] => 0
 | i,r :: rs => rowT i 0 r + totT (i + 1) rs
theorem rowT_app (i : Nat) : ∀ (u v : List UInt8) (k : Nat),rowT i k (u ++ v) = rowT i k u + rowT i (k + u.length) v
 | [],v,k => by simp [rowT]
 | b :: u,v,k => by
  simp only [List.cons_append,rowT,rowT_app i u v (k + 1),List.length_cons]
  rw [show k + 1 + u.length = k + (u.length + 1) by omega];omega
theorem totT_app : ∀ (R Q : List (List UInt8)) (i : Nat),totT i (R ++ Q) = totT i R + totT (i + R.length) Q
 | [],Q,i => by simp [totT]
 | r :: R,Q,i => by
  simp only [List.cons_append,totT,totT_app R Q (i + 1),List.length_cons]
  rw [show i + 1 + R.length = i + (R.length + 1) by omega];omega
theorem rowSum_T (i : Nat) (r : List UInt8) : ∀ k,k ≤ r.length → rowSum i r k = rowT i 0 (r.take k)
 | 0,_ => by simp [rowSum,rowT]
 | k + 1,hk => by
  have hg : r.getD k 0 = r[k]'(by omega) := by rw [List.getD_eq_getElem?_getD,List.getElem?_eq_getElem (by omega)];rfl
  rw [rowSum,rowSum_T i r k (by omega),hg,List.take_succ_eq_append_getElem (by omega),rowT_app,List.length_take,show 0 + min k r.length = k by omega]
  simp [rowT]
theorem allSum_T (rows : List (List UInt8)) : ∀ k,k ≤ rows.length → allSum rows k = totT 0 (rows.take k)
 | 0,_ => by simp [allSum,totT]
 | k + 1,hk => by
  have hg : rows.getD k [] = rows[k]'(by omega) := by rw [List.getD_eq_getElem?_getD,List.getElem?_eq_getElem (by omega)];rfl
  rw [allSum,allSum_T rows k (by omega),hg,rowSum_T _ _ _ (Nat.le_refl _),List.take_length,List.take_succ_eq_append_getElem (by omega),totT_app,List.length_take,show 0 + min k rows.length = k by omega]
  simp [totT]
theorem end_inj {R Q : List (List UInt8)} (h : endRow R 211 = endRow Q 211) : totT 0 R % 211 = totT 0 Q % 211 := by
 have key : ∀ m : Fin 211,valL (itoaL (m.val / 100) ++ itoaL (m.val / 10 % 10) ++ itoaL (m.val % 10)) = m.val := by decide +kernel
 have e : ∀ R : List (List UInt8),endRow R 211 = endW ++ (itoaL (totT 0 R % 211 / 100) ++ itoaL (totT 0 R % 211 / 10 % 10) ++ itoaL (totT 0 R % 211 % 10)) := fun R => by
  unfold endRow
  rw [allSum_T R R.length (Nat.le_refl _),List.take_length]
  simp
 rw [e,e] at h
 have h2 := List.append_cancel_left h
 have h3 := key ⟨totT 0 R % 211,Nat.mod_lt _ (by decide)⟩
 have h4 := key ⟨totT 0 Q % 211,Nat.mod_lt _ (by decide)⟩
 simp only at h3 h4
 rw [← h3,← h4,h2]
theorem weight_no {a b e : Nat} (ha : a < 16) (hb : b < 8) (he : e < 10) (h : e * a * b % 211 = 0) : e = 0 ∨ a = 0 ∨ b = 0 := by
 have key : ∀ e : Fin 10,∀ a : Fin 16,∀ b : Fin 8,e.val * a.val * b.val % 211 = 0 → e.val = 0 ∨ a.val = 0 ∨ b.val = 0 := by decide +kernel
 exact key ⟨e,he⟩ ⟨a,ha⟩ ⟨b,hb⟩ h
theorem digit_no {A x y a b : Nat} (ha : a < 15) (hb : b < 7) (hx : 48 ≤ x ∧ x ≤ 57) (hy : 48 ≤ y ∧ y ≤ 57) (h : (A + x * (a + 1) * (b + 1)) % 211 = (A + y * (a + 1) * (b + 1)) % 211) : x = y := by
 have main : ∀ x y : Nat,x ≤ y → y < x + 10 → (A + x * (a + 1) * (b + 1)) % 211 = (A + y * (a + 1) * (b + 1)) % 211 → x = y := fun x y hxy hlt h => by
  obtain ⟨e,rfl⟩ : ∃ e,y = x + e := ⟨y - x,by omega⟩
  rw [Nat.add_mul,Nat.add_mul] at h
  have h2 : e * (a + 1) * (b + 1) % 211 = 0 := by omega
  rcases weight_no (by omega) (by omega) (by omega) h2 with h3 | h3 | h3 <;> omega
 by_cases hxy : x ≤ y
 ·exact main x y hxy (by omega) h
 ·exact (main y x (by omega) (by omega) h.symm).symm
theorem app_last {α : Type} {R S : List α} {a b : α} (h : R ++ [a] = S ++ [b]) : R = S ∧ a = b := by
 have h2 := List.append_inj' h rfl
 exact ⟨h2.1,by simpa using h2.2⟩
theorem spoilt {c : CL} (hA : listB c = true) {i : Nat} (hi : i < (textL c).length) {d : UInt8} (hd : isDig d = true) (ho : isDig (textL c)[i] = true) (hne : (textL c)[i] ≠ d) : parsedL ((textL c).set i d) = none := by
 cases hp : parsedL ((textL c).set i d) with
 | none => rfl
 | some c' =>
  exfalso
  have hc := OkW.of hA
  have hl := text_len hA
  obtain ⟨hc',ht⟩ := parsed_some (by rw [List.length_set];exact hl) hp
  have dig : ∀ b : UInt8,isDig b = true → (48 ≤ b.toNat ∧ b.toNat ≤ 57) ∧ b ≠ 10 := fun b hb => by
   simp only [isDig,Bool.and_eq_true,decide_eq_true_eq] at hb
   refine ⟨hb,?_⟩
   rintro rfl
   revert hb;decide
  obtain ⟨R1,R2,u,v,e1,e2⟩ := splitL_set 10 d (dig d hd).2 (textL c) [] i hi (dig _ ho).2
  rw [text_rows hc] at e1
  rw [← ht,text_rows hc'] at e2
  generalize hxd : (textL c)[i] = x at e1 ho hne
  have hR2 : R2 = [] ∨ ∃ S z,R2 = S ++ [z] := by
   cases hz : R2.reverse with
   | nil => exact .inl (by simpa using hz)
   | cons z S => exact .inr ⟨S.reverse,z,by have := congrArg List.reverse hz;simpa using this⟩
  rcases hR2 with rfl | ⟨S,z,rfl⟩
  ·have := (app_last e1).2
   simp at this
  have f1 : (rowsL c ++ [endRow (rowsL c) 211]) ++ [[]] = (R1 ++ (u ++ x :: v) :: S) ++ [z] := by rw [e1];simp
  have f2 : (rowsL c' ++ [endRow (rowsL c') 211]) ++ [[]] = (R1 ++ (u ++ d :: v) :: S) ++ [z] := by rw [e2];simp
  have g1 := (app_last f1).1
  have g2 := (app_last f2).1
  have hS : S = [] ∨ ∃ S2 z2,S = S2 ++ [z2] := by
   cases hz : S.reverse with
   | nil => exact .inl (by simpa using hz)
   | cons z2 S2 => exact .inr ⟨S2.reverse,z2,by have := congrArg List.reverse hz;simpa using this⟩
  rcases hS with rfl | ⟨S2,z2,rfl⟩
  ·obtain ⟨a1,a2⟩ := app_last g1
   obtain ⟨b1,b2⟩ := app_last g2
   rw [a1] at a2
   rw [b1,a2] at b2
   have := List.append_cancel_left b2
   simp only [List.cons.injEq] at this
   exact hne this.1
  ·have k1 : rowsL c ++ [endRow (rowsL c) 211] = (R1 ++ (u ++ x :: v) :: S2) ++ [z2] := by rw [g1];simp
   have k2 : rowsL c' ++ [endRow (rowsL c') 211] = (R1 ++ (u ++ d :: v) :: S2) ++ [z2] := by rw [g2];simp
   obtain ⟨a1,a2⟩ := app_last k1
   obtain ⟨b1,b2⟩ := app_last k2
   have hmod := end_inj (a2.trans b2.symm)
   have hrl := rowsL_len c (u ++ x :: v) (by rw [a1];simp)
   have hrn : (rowsL c).length ≤ 7 := by
    have := (OkL.of hA).len
    simp [rowsL];omega
   rw [a1] at hrn
   simp only [List.length_append,List.length_cons] at hrl hrn
   rw [a1,b1,totT_app,totT_app] at hmod
   simp only [totT,rowT_app,rowT,Nat.zero_add] at hmod
   refine hne (UInt8.toNat_inj.1 (digit_no (a := u.length) (b := R1.length) (A := totT 0 R1 + (rowT R1.length 0 u + rowT R1.length (u.length + 1) v + totT (R1.length + 1) S2)) (by omega) (by omega) (dig x ho).1 (dig d hd).1 ?_))
   rw [show totT 0 R1 + (rowT R1.length 0 u + rowT R1.length (u.length + 1) v + totT (R1.length + 1) S2) + x.toNat * (u.length + 1) * (R1.length + 1) = totT 0 R1 + (rowT R1.length 0 u + (x.toNat * (u.length + 1) * (R1.length + 1) + rowT R1.length (u.length + 1) v) + totT (R1.length + 1) S2) by omega,show totT 0 R1 + (rowT R1.length 0 u + rowT R1.length (u.length + 1) v + totT (R1.length + 1) S2) + d.toNat * (u.length + 1) * (R1.length + 1) = totT 0 R1 + (rowT R1.length 0 u + (d.toNat * (u.length + 1) * (R1.length + 1) + rowT R1.length (u.length + 1) v) + totT (R1.length + 1) S2) by omega]
   exact hmod
end Go.Den.Ch
end
section
namespace Go.Den.Ch
def bytesV (s : List UInt8) : List PV := s.map fun b => .int .u8 (b.toNat : Int)
theorem step_s2b {E : Env} {rec : Rec} {tm : List PV} {st : St} {x : Opd} {s : List UInt8} (hx : x.ev tm = .str (toB s)) (h : s.length ≤ maxList) : stepOp E rec tm st (.strToBytes x) = some (.val (.hslice st.heap.length 1 s.length) (st.push (.arr (bytesV s)))) := by
 have h1 : (toB s).size = s.length := rfl
 have h2 : (toB s).data.toList = s := by simp [toB]
 simp only [stepOp,hx,h1,if_pos h,h2]
 rfl
theorem step_setA {E : Env} {rec : Rec} {tm : List PV} {st : St} {a x : Opd} {l off : Nat} {k : IntKind} {n : Int} {cs : List PV} (ha : a.ev tm = .aptr l off) (hx : x.ev tm = .int k n) (hh : hp st l = some (.arr cs)) (ho : off + 1 ≤ cs.length) : stepOp E rec tm st (.store 1 a x) = some (.val undef (setVar st l (.arr (splice cs off [.int k n])))) := by
 have hh' : st.heap[l]? = some (.arr cs) := hh
 simp only [stepOp,ha,hx,hh',PV.cells,List.length_singleton,ho,List.all_cons,List.all_nil,PV.isCell,true_and,and_true,Bool.and_self,if_true]
theorem bytesOf_V : ∀ s : List UInt8,bytesOf (bytesV s) = some s
 | [] => rfl
 | b :: s => by
  have ih := bytesOf_V s
  unfold bytesV at ih ⊢
  simp only [List.map_cons,bytesOf,ih,Option.map_some,Int.toNat_natCast,UInt8.ofNat_toNat]
theorem step_b2h {E : Env} {rec : Rec} {tm : List PV} {st : St} {x : Opd} {l z : Nat} {s : List UInt8} (hx : x.ev tm = .hslice l z s.length) (hh : hp st l = some (.arr (bytesV s))) : stepOp E rec tm st (.bytesToStr x) = some (.val (.str (toB s)) st) := by
 have hh' : st.heap[l]? = some (.arr (bytesV s)) := hh
 have h1 : (bytesV s).length = s.length := by simp [bytesV]
 simp only [stepOp,hx,hh',h1,if_true,bytesOf_V,Option.map_some]
 rfl
theorem splice_V {s : List UInt8} {k : Nat} (hk : k < s.length) (d : UInt8) : splice (bytesV s) k [.int .u8 (d.toNat : Int)] = bytesV (s.set k d) := by
 unfold splice bytesV
 rw [List.set_eq_take_append_cons_drop,if_pos hk]
 simp
set_option maxHeartbeats 16000000 in
theorem c23 (c : CL) (F : PV) (at' dg : Int) (hF : SlOf 3 encF F c.figs) (st : St) : Cl EE (.func 23 [] []) [clPV c F,iv at',iv dg] st (.ret (.bool true)) st := by
 have hFc := hF.cells
 have hFi := hF.isCell
 refine cl_fn (pr23 · _ _) fn23 3 rfl (by decide) (fun tm hl hg => ?_);have h0 : tg tm 0 = clPV c F := (hg 0 (by decide));have h1 : tg tm 1 = iv at' := (hg 1 (by decide));have h2 : tg tm 2 = iv dg := (hg 2 (by decide));clear hg
 have k30 := c30 c F hF
 cases d0 : decide (c.figs.length ≤ 8)
 ·refine go (bw5 hl h0 h1 h2 d0) (bw3 k30 c26 fnil) ?_
  refine fnq_flat (results_one (by rw [rdRes_tmp];simp only [↓reduceIte,go_sem,hl];first | done | rfl)) (by first | exact Nat.le_refl _ | omega | (simp only [lo_push,lo_setVar];omega)) (by rfl)
 have hn8 := of_decide_eq_true d0
 have k33 := c33 c F hF (by omega)
 cases hA : listB c
 ·refine go (bw6 hl h0 h1 h2 d0 hA) (bw4 k30 k33 c26 fnil) ?_
  refine fnq_flat (results_one (by rw [rdRes_tmp];simp only [↓reduceIte,go_sem,hl];first | done | rfl)) (by first | exact Nat.le_refl _ | omega | (simp only [lo_push,lo_setVar];omega)) (by rfl)
 cases d1 : decide (dg < 0)
 case true =>
  refine go (bw7 hl h0 h1 h2 d0 hA d1) (bw4 k30 k33 c26 fnil) ?_
  refine fnq_flat (results_one (by rw [rdRes_tmp];simp only [↓reduceIte,go_sem,hl];first | done | rfl)) (by first | exact Nat.le_refl _ | omega | (simp only [lo_push,lo_setVar];omega)) (by rfl)
 cases d2 : decide (dg > 9)
 case true =>
  refine go (bw8 hl h0 h1 h2 d0 hA d1 d2) (bw4 k30 k33 c26 fnil) ?_
  refine fnq_flat (results_one (by rw [rdRes_tmp];simp only [↓reduceIte,go_sem,hl];first | done | rfl)) (by first | exact Nat.le_refl _ | omega | (simp only [lo_push,lo_setVar];omega)) (by rfl)
 have hd1 := of_decide_eq_false d1
 have hd2 := of_decide_eq_false d2
 have k69 := c69 c F hF
 rw [hA] at k69
 simp only [if_true] at k69
 have hsl := text_len hA
 have hsp : ∀ {i : Nat} (hi : i < (textL c).length) {d : UInt8},isDig d = true → isDig (textL c)[i] = true → (textL c)[i] ≠ d → parsedL ((textL c).set i d) = none := fun {i} hi {d} h1 h2 h3 => spoilt hA hi h1 h2 h3
 generalize textL c = s at k69 hsl hsp
 cases d3 : decide (at' < 0)
 case true =>
  refine go (bw10 hl h0 h1 h2 d0 hA d1 d2 d3 zs) (bw5 k30 k33 k69 c26 fnil) ?_
  refine fnq_flat (results_one (by rw [rdRes_tmp];simp only [↓reduceIte,go_sem,hl];first | done | rfl)) (by first | exact Nat.le_refl _ | omega | (simp only [lo_push,lo_setVar];omega)) (by rfl)
 have hd3 := of_decide_eq_false d3
 obtain ⟨k,rfl⟩ : ∃ k : Nat,at' = k := ⟨at'.toNat,by omega⟩
 cases d4 : decide ((k : Int) ≥ s.length)
 case true =>
  refine go (bw11 hl h0 h1 h2 d0 hA d1 d2 d3 d4 zs) (bw5 k30 k33 k69 c26 fnil) ?_
  refine fnq_flat (results_one (by rw [rdRes_tmp];simp only [↓reduceIte,go_sem,hl];first | done | rfl)) (by first | exact Nat.le_refl _ | omega | (simp only [lo_push,lo_setVar];omega)) (by rfl)
 have hk : k < s.length := by have := of_decide_eq_false d4;omega
 have hix := getElem?_toB s k hk
 have hk0 : ((0 : Int) ≤ (k : Int)) = True := by simp
 have hb255 : s[k].toNat < 256 := s[k].toNat_lt
 cases d5 : decide ((s[k].toNat : Int) < 48)
 case true =>
  refine go (bw16 hl h0 h1 h2 d0 hA d1 d2 d3 d4 d5 @op_indexStr hk0 Int.toNat_natCast hix zs) (bw5 k30 k33 k69 c26 fnil) ?_
  refine fnq_flat (results_one (by rw [rdRes_tmp];simp only [↓reduceIte,go_sem,hl];first | done | rfl)) (by first | exact Nat.le_refl _ | omega | (simp only [lo_push,lo_setVar];omega)) (by rfl)
 cases d6 : decide ((s[k].toNat : Int) > 57)
 case true =>
  refine go (bw17 hl h0 h1 h2 d0 hA d1 d2 d3 d4 d5 d6 @op_indexStr hk0 Int.toNat_natCast hix zs) (bw5 k30 k33 k69 c26 fnil) ?_
  refine fnq_flat (results_one (by rw [rdRes_tmp];simp only [↓reduceIte,go_sem,hl];first | done | rfl)) (by first | exact Nat.le_refl _ | omega | (simp only [lo_push,lo_setVar];omega)) (by rfl)
 have hd5 := of_decide_eq_false d5
 have hd6 := of_decide_eq_false d6
 have wb : IntKind.wrap .u8 ((s[k].toNat : Int) - 48) = ((s[k].toNat - 48 : Nat) : Int) := by rw [show (s[k].toNat : Int) - 48 = ((s[k].toNat - 48 : Nat) : Int) by omega];exact wrap8 (by omega)
 have wc : IntKind.wrap .i64 ((s[k].toNat - 48 : Nat) : Int) = ((s[k].toNat - 48 : Nat) : Int) := wrap_nat (by omega)
 cases d7 : (((s[k].toNat - 48 : Nat) : Int) == dg)
 case true =>
  refine go (bw20 hl h0 h1 h2 d0 hA d1 d2 d3 d4 d5 d6 d7 wb wc @op_indexStr hk0 Int.toNat_natCast hix zs) (bw5 k30 k33 k69 c26 fnil) ?_
  refine fnq_flat (results_one (by rw [rdRes_tmp];simp only [↓reduceIte,go_sem,hl];first | done | rfl)) (by first | exact Nat.le_refl _ | omega | (simp only [lo_push,lo_setVar];omega)) (by rfl)
 obtain ⟨m,rfl⟩ : ∃ m : Nat,dg = m := ⟨dg.toNat,by omega⟩
 have hdn : (UInt8.ofNat (48 + m)).toNat = 48 + m := by
  rw [UInt8.toNat_ofNat'];exact Nat.mod_eq_of_lt (by omega)
 have wd : IntKind.wrap .i64 (48 + (m : Int)) = ((48 + m : Nat) : Int) := by rw [show 48 + (m : Int) = ((48 + m : Nat) : Int) by omega];exact wrap_nat (by omega)
 have we : IntKind.wrap .u8 ((48 + m : Nat) : Int) = ((48 + m : Nat) : Int) := wrap8 (by omega)
 have hnone : parsedL (s.set k (UInt8.ofNat (48 + m))) = none := hsp hk (by simp only [isDig,hdn,Bool.and_eq_true,decide_eq_true_eq];omega) (by simp only [isDig,Bool.and_eq_true,decide_eq_true_eq];omega) (fun h => by
  rw [h,hdn] at d7
  simp at d7)
 have hxl : (s.set k (UInt8.ofNat (48 + m))).length = s.length := List.length_set
 have hr : readR (s.set k (UInt8.ofNat (48 + m))) = (⟨0,0,[]⟩,4) := by
  unfold readR
  rw [if_neg (by omega),hnone]
 have zf : (((4 : Int) == 4) = true) := rfl
 refine go (bw20 hl h0 h1 h2 d0 hA d1 d2 d3 d4 d5 d6 d7 wb wc @op_indexStr hk0 Int.toNat_natCast hix zs) (bw4 k30 k33 k69 fnil) ?_
 refine wops_one (v := .hslice (st.heap.length + 1) 1 s.length) (st1 := (({ heap := st.heap,lo := st.heap.length } : St).push (.var [iv c.room,iv c.depth,F])).push (.arr (bytesV s))) rfl (fun rec => by
  rw [step_s2b (s := s) (by simp only [↓reduceIte,go_sem,hl];first | done | rfl) (by simp only [maxList];omega)]
  simp only [len_push]) ?_
 refine go (bw5 hl h1 h2 wd we) fnil ?_
 refine wops_one (v := .aptr (st.heap.length + 1) (k * 1)) rfl (fun rec => by
  rw [op_indexAddr (l := st.heap.length + 1) (n := s.length) (j := k) (by simp only [↓reduceIte,go_sem,hl];first | done | rfl) (by simp only [↓reduceIte,go_sem,hl,h1];first | done | rfl) hk]) ?_
 refine wops_one (v := undef) (st1 := setVar ((({ heap := st.heap,lo := st.heap.length } : St).push (.var [iv c.room,iv c.depth,F])).push (.arr (bytesV s))) (st.heap.length + 1) (.arr (bytesV (s.set k (UInt8.ofNat (48 + m)))))) rfl (fun rec => by
  rw [step_setA (l := st.heap.length + 1) (off := k * 1) (k := .u8) (n := ((48 + m : Nat) : Int)) (cs := bytesV s) (by simp only [↓reduceIte,go_sem,hl];first | done | rfl) (by simp only [↓reduceIte,go_sem,hl];first | done | rfl) (by simp only [↓reduceIte,go_sem]) (by simp [bytesV];omega)]
  have q1 := splice_V hk (UInt8.ofNat (48 + m))
  rw [hdn] at q1
  rw [Nat.mul_one,q1]) ?_
 refine go hl fnil ?_
 refine wops_one (v := .str (toB (s.set k (UInt8.ofNat (48 + m))))) (st1 := setVar ((({ heap := st.heap,lo := st.heap.length } : St).push (.var [iv c.room,iv c.depth,F])).push (.arr (bytesV s))) (st.heap.length + 1) (.arr (bytesV (s.set k (UInt8.ofNat (48 + m)))))) rfl (fun rec => by
  rw [step_b2h (l := st.heap.length + 1) (z := 1) (s := s.set k (UInt8.ofNat (48 + m))) (by rw [hxl];simp only [↓reduceIte,go_sem,hl];first | done | rfl) (by simp only [↓reduceIte,go_sem])]) ?_
 refine go hl fnil ?_
 refine wops_callR rfl rfl (by simp only [↓reduceIte,go_sem,hl];first | done | rfl) (by simp only [↓reduceIte,go_sem,hl];exact c70 (s.set k (UInt8.ofNat (48 + m))) _) ?_
 rintro v S1 ⟨G,rfl,hG,hx,hlo⟩
 rw [hr] at hG ⊢
 have q1 := hx.1
 try simp only [lo_push,len_push,lo_setVar,len_setVar] at q1 hlo
 have hGc := hG.cells
 have hGi := hG.isCell
 have k72 := c72 ⟨0,0,[]⟩ G .nilslice hG .nil (by simp)
 refine go (bw4 hl hGc hGi zf) (bw3 k72 c26 fnil) ?_
 refine fnq_flat (results_one (by rw [rdRes_tmp];simp only [↓reduceIte,go_sem,hl];first | done | rfl)) (by first | exact Nat.le_refl _ | omega | (simp only [lo_push,lo_setVar];omega)) (by rfl)
end Go.Den.Ch
end

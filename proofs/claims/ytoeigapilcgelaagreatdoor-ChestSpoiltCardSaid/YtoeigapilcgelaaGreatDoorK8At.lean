/- Part of the proofs of laws of the package chest. Texts: ChZb, ChKa. -/
import Derived.Test.YtoeigapilcgelaaGreatDoorK8As
set_option linter.unusedSimpArgs false
set_option linter.unusedVariables false
section
namespace Go.Den.Ch
theorem itoa_byte (k : Nat) (h : k < 10) : itoaL k = [UInt8.ofNat (48 + k)] := by unfold itoaL;rw [if_pos h]
theorem wrap8 {n : Nat} (h : n < 256) : IntKind.wrap .u8 (n : Int) = n := by
 simp [IntKind.wrap,IntKind.bits,IntKind.signed]
 omega
theorem step_b2s {E : Env} {rec : Rec} {tm : List PV} {st : St} {x : Opd} {o : Own} {k : Nat} (hx : x.ev tm = .slice o 1 [.int .u8 k]) (hk : k < 256) : stepOp E rec tm st (.bytesToStr x) = some (.val (.str (toB [UInt8.ofNat k])) st) := by
 simp only [stepOp,hx]
 have h1 : bytesOf [.int .u8 (k : Int)] = some [UInt8.ofNat k] := by
  simp [bytesOf]
  try omega
 rw [h1]
 rfl
set_option maxHeartbeats 1000000 in
theorem c142a (n : Nat) (h : n < 10) (st : St) : Cl EE (.func 142 [] []) [iv n] st (.ret (.str (toB (itoaL n)))) st := by
 have d1 : decide ((n : Int) > -10) = true := by simp;omega
 have d2 : decide ((n : Int) < 0) = false := by simp
 have d3 : decide ((n : Int) < 10) = true := by simp;omega
 have w1 : IntKind.wrap .i64 (48 + (n : Int)) = ((48 + n : Nat) : Int) := by rw [← wrap_nat (n := 48 + n) (by omega)];rfl
 have w2 : IntKind.wrap .u8 ((48 + n : Nat) : Int) = ((48 + n : Nat) : Int) := wrap8 (by omega)
 rw [itoa_byte n h]
 refine cl_fn (pr142 · _ _) fn142 1 rfl (by decide) (fun tm hl hg => ?_);have h0 : tg tm 0 = iv n := (hg 0 (by decide));clear hg
 refine go (bw7 hl h0 d1 d2 d3 w1 w2) fnil ?_
 refine wops_one (v := .str (toB [UInt8.ofNat (48 + n)])) rfl (fun rec => step_b2s (by simp only [go_sem,hl];first | done | rfl) (by omega)) ?_
 refine go hl fnil ?_
 exact fnq_flat (results_one (by rw [rdRes_tmp];simp only [go_sem,hl];first | done | rfl)) (by simp only [lo_push];omega) (by rfl)
theorem itoa_two {n : Nat} (h0 : 10 ≤ n) (h1 : n < 100) : itoaL n = itoaL (n / 10) ++ [UInt8.ofNat (48 + n % 10)] := by
 rw [itoa_byte (n / 10) (by omega)]
 unfold itoaL
 rw [if_neg (by omega)]
 rfl
set_option maxHeartbeats 1000000 in
theorem c142 (n : Int) (h0 : 0 ≤ n) (h1 : n < 100) (st : St) : Cl EE (.func 142 [] []) [iv n] st (.ret (.str (toB (itoaL n.toNat)))) st := by
 obtain ⟨k,rfl⟩ : ∃ k : Nat,n = k := ⟨n.toNat,by omega⟩
 rw [Int.toNat_natCast]
 by_cases h : k < 10
 ·exact c142a k h st
 ·have d1 : decide ((k : Int) > -10) = true := by simp;omega
  have d2 : decide ((k : Int) < 0) = false := by simp
  have d3 : decide ((k : Int) < 10) = false := by simp;omega
  have hz : ((10 : Int) = 0) = False := by simp
  have w0 : IntKind.wrap .i64 (Int.tdiv (k : Int) 10) = ((k / 10 : Nat) : Int) := by rw [Int.tdiv_eq_ediv_of_nonneg (by omega)];exact wrap_nat (n := k / 10) (by omega)
  have w3 : Int.tmod (k : Int) 10 = ((k % 10 : Nat) : Int) := by rw [Int.natCast_emod];exact Int.tmod_eq_emod_of_nonneg (by omega)
  have w1 : IntKind.wrap .i64 (48 + ((k % 10 : Nat) : Int)) = ((48 + k % 10 : Nat) : Int) := by rw [← wrap_nat (n := 48 + k % 10) (by omega)];rfl
  have w2 : IntKind.wrap .u8 ((48 + k % 10 : Nat) : Int) = ((48 + k % 10 : Nat) : Int) := wrap8 (by omega)
  have hi := itoaL_len (k / 10)
  have o1 : ((itoaL (k / 10)).length + 1 ≤ 1000000) = True := by simp only [eq_iff_iff,iff_true];omega
  have h10 : k / 10 < 10 := by omega
  rw [itoa_two (by omega) (by omega)]
  refine cl_fn (pr142 · _ _) fn142 1 rfl (by decide) (fun tm hl hg => ?_);have h0 : tg tm 0 = iv k := (hg 0 (by decide));clear hg
  refine go (bw10 hl h0 d1 d2 d3 w0 w1 w2 w3 hz) (bw (c142a _ h10) fnil) ?_
  refine wopsD_pure (v := .str (toB [UInt8.ofNat (48 + k % 10)])) (by first | omega | exact Nat.le_refl _) (by simp only [go_sem,hl];first | done | rfl) (fun rec st1 he => step_b2s (by simp only [go_sem,hl];first | done | rfl) (by omega)) ?_
  refine go (bw hl o1) fnil ?_
  exact fnq_flat (results_one (by rw [rdRes_tmp];simp only [go_sem,hl];first | done | rfl)) (by first | exact Nat.le_refl _ | (simp only [lo_push];omega)) (by rfl)
set_option maxHeartbeats 1000000 in
theorem c118 (w : List UInt8) (U : PV) (ns : List Int) (hU : SlOf 1 encI U ns) (hns : ∀ n ∈ ns,0 ≤ n ∧ n < 100) (hl3 : ns.length ≤ 3) (hwl : w.length ≤ 6) (st : St) : Cl EE (.func 118 [] []) [.str (toB w),U] st (.ret (.str (toB (rowL w ns)))) st := by
 have hUs := hU.slen
 refine cl_fn (pr118 · _ _) fn118 2 rfl (by decide) (fun tm hl hg => ?_);have h0 : tg tm 0 = .str (toB w) := (hg 0 (by decide));have h1 : tg tm 1 = U := (hg 1 (by decide));clear hg
 refine go (bw hl h0) fnil ?_
 refine wp_for [5,0] (fun i vs st' => vs = [iv i,.str (toB (rowL w (ns.take i)))] ∧ i ≤ ns.length ∧ st' = { heap := st.heap,lo := st.heap.length }) (fun i => ns.length - i) ⟨by simp only [go_sem,hl,h0];first | done | rfl,Nat.zero_le _,rfl⟩ ?_
 rintro i tm1 st1 ⟨hv,hi,rfl⟩ hS
 simp only [List.map_cons,List.map_nil,List.cons.injEq,and_true] at hv
 obtain ⟨hv5,hv0⟩ := hv
 have hl1 : tm1.length = 21 := (by rw [hS.1];simp only [put_len,hl]);have i1 : tg tm1 1 = U := (by rw [hS.2 1 (by decide)];simp only [go_sem,hl,h1]);clear hS
 refine go (bw4 hl1 hv5 i1 hUs) fnil ?_
 refine ⟨decide ((i : Int) < ns.length),by simp only [go_sem,hl1],fun hb => ?_,fun hb1 => ?_⟩
 ·have hlt := of_decide_eq_false hb
  have hin : i = ns.length := by omega
  rw [hin,List.take_length] at hv0
  refine go (bw hl1 hv0) fnil ?_
  exact fnq_flat (results_one (by rw [rdRes_tmp];simp only [go_sem,hl1];first | done | rfl)) (by first | exact Nat.le_refl _ | (simp only [lo_push];omega)) (by rfl)
 ·have hlt : i < ns.length := by have := of_decide_eq_true hb1;omega
  have hw1 : IntKind.wrap .i64 ((i : Int) + 1) = ((i + 1 : Nat) : Int) := wrap_nat (n := i + 1) (by omega)
  have hr := hns _ (List.getElem_mem hlt)
  have hi2 := itoaL_len ns[i].toNat
  have hrl := rowL_len w (ns.take i)
  have htl : (ns.take i).length ≤ 3 := by simp;omega
  have o1 : ((rowL w (ns.take i)).length + 1 ≤ 1000000) = True := by simp only [eq_iff_iff,iff_true];omega
  have o2 : ((rowL w (ns.take i) ++ [32]).length + (itoaL ns[i].toNat).length ≤ 1000000) = True := by simp only [eq_iff_iff,iff_true,List.length_append,List.length_cons,List.length_nil];omega
  refine ⟨by omega,?_⟩
  refine go (bw7 hl1 hv5 hv0 i1 o1 o2 hw1) (bw c142 fnil) ?_
  rw [rowL_take w hlt]
  refine ⟨?_,by omega,rfl⟩
  have ea : rowL w (ns.take i) ++ (32 :: itoaL ns[i].toNat) = rowL w (ns.take i) ++ [32] ++ itoaL ns[i].toNat := by simp
  rw [ea]
  simp only [go_sem,hl1]
def joinL (rows : List (List UInt8)) : List UInt8 := rows.flatMap (· ++ [10])
theorem inter_out (e : List UInt8) : ∀ rows : List (List UInt8),List.intercalate [10] (rows ++ [e]) = joinL rows ++ e
 | [] => by simp [List.intercalate,joinL]
 | r :: rows => by
  have ih := inter_out e rows
  have h2 : List.intercalate [10] (r :: (rows ++ [e])) = r ++ ([10] ++ List.intercalate [10] (rows ++ [e])) := by
   cases rows <;> simp [List.intercalate]
  rw [List.cons_append,h2,ih]
  simp [joinL]
theorem joinL_len {rows : List (List UInt8)} (h : ∀ r ∈ rows,r.length ≤ 15) : ∀ i,(joinL (rows.take i)).length ≤ rows.length * 16 := by
 intro i
 have : ∀ l : List (List UInt8),(∀ r ∈ l,r.length ≤ 15) → (joinL l).length ≤ l.length * 16 := by
  intro l
  induction l with
  | nil => simp [joinL]
  | cons r l ih =>
   intro hl
   have h1 := ih (fun x hx => hl x (by simp [hx]))
   have h2 := hl r (by simp)
   simp only [joinL,List.flatMap_cons,List.length_append,List.length_cons,List.length_nil] at h1 ⊢
   omega
 have h1 := this (rows.take i) (fun r hr => h r (List.mem_of_mem_take hr))
 have h2 : (rows.take i).length ≤ rows.length := by simp;omega
 have h3 : (rows.take i).length * 16 ≤ rows.length * 16 := Nat.mul_le_mul_right _ h2
 omega
theorem joinL_take {rows : List (List UInt8)} {i : Nat} (h : i < rows.length) : joinL (rows.take (i + 1)) = joinL (rows.take i) ++ rows[i] ++ [10] := by
 rw [List.take_succ_eq_append_getElem h]
 simp only [joinL,List.flatMap_append,List.flatMap_cons,List.flatMap_nil,List.append_nil,List.append_assoc]
set_option maxHeartbeats 8000000 in
theorem c119 (V : PV) (rows : List (List UInt8)) (hV : SlOf 1 encS V rows) (hrows : ∀ r ∈ rows,r.length ≤ 15) (hN : rows.length ≤ 151) (st : St) : Cl EE (.func 119 [] []) [V,iv 211] st (.ret (.str (toB (sealL rows 211)))) st := by
 have hVs := hV.slen
 refine cl_fn (pr119 · _ _) fn119 2 rfl (by decide) (fun tm hl hg => ?_);have h0 : tg tm 0 = V := (hg 0 (by decide));have h1 : tg tm 1 = iv 211 := (hg 1 (by decide));clear hg
 have hab := allSum_bound (rows := rows) (fun r hr => by have := hrows r hr;omega)
 have hol := joinL_len hrows
 have hN16 : rows.length * 16 ≤ 151 * 16 := Nat.mul_le_mul_right _ hN
 refine go hl fnil ?_
 refine wp_for [7,5,6] (fun i vs st' => vs = [iv i,.str (toB (joinL (rows.take i))),iv (allSum rows i)] ∧ i ≤ rows.length ∧ st' = { heap := st.heap,lo := st.heap.length }) (fun i => rows.length - i) ⟨by simp only [go_sem,hl];first | done | rfl,Nat.zero_le _,rfl⟩ ?_
 rintro i tm1 st1 ⟨hv,hi,rfl⟩ hS
 simp only [List.map_cons,List.map_nil,List.cons.injEq,and_true] at hv
 obtain ⟨hv7,hv5,hv6⟩ := hv
 have hl1 : tm1.length = 65 := (by rw [hS.1];simp only [put_len,hl]);have i0 : tg tm1 0 = V := (by rw [hS.2 0 (by decide)];simp only [go_sem,hl,h0,h1]);have i1 : tg tm1 1 = iv 211 := (by rw [hS.2 1 (by decide)];simp only [go_sem,hl,h0,h1]);clear hS
 refine go (bw4 hl1 hv7 i0 hVs) fnil ?_
 refine ⟨decide ((i : Int) < rows.length),by simp only [go_sem,hl1],fun hb => ?_,fun hb1 => ?_⟩
 ·have hlt := of_decide_eq_false hb
  have hin : i = rows.length := by omega
  have habn := hab rows.length (by omega)
  have holn := hol rows.length
  rw [List.take_length] at holn
  rw [hin] at hv6
  rw [hin,List.take_length] at hv5
  have er : endRow rows 211 = endW ++ itoaL (allSum rows rows.length % 211 / 100) ++ itoaL (allSum rows rows.length % 211 / 10 % 10) ++ itoaL (allSum rows rows.length % 211 % 10) := rfl
  have ht : sealL rows 211 = joinL rows ++ endRow rows 211 ++ [10] := by rw [sealL,inter_out]
  rw [ht,er]
  generalize hAd : allSum rows rows.length = A at hv6 habn
  have w57 : Int.tmod (A : Int) 211 = ((A % 211 : Nat) : Int) := by rw [Int.natCast_emod];exact Int.tmod_eq_emod_of_nonneg (by omega)
  have hC : A % 211 < 211 := Nat.mod_lt _ (by omega)
  generalize hCd : A % 211 = C at w57 hC
  have w60 : IntKind.wrap .i64 (Int.tdiv (C : Int) 100) = ((C / 100 : Nat) : Int) := by rw [Int.tdiv_eq_ediv_of_nonneg (by omega)];exact wrap_nat (n := C / 100) (by omega)
  have w64 : IntKind.wrap .i64 (Int.tdiv (C : Int) 10) = ((C / 10 : Nat) : Int) := by rw [Int.tdiv_eq_ediv_of_nonneg (by omega)];exact wrap_nat (n := C / 10) (by omega)
  have w65 : Int.tmod ((C / 10 : Nat) : Int) 10 = ((C / 10 % 10 : Nat) : Int) := by rw [Int.natCast_emod];exact Int.tmod_eq_emod_of_nonneg (by omega)
  have w69 : Int.tmod (C : Int) 10 = ((C % 10 : Nat) : Int) := by rw [Int.natCast_emod];exact Int.tmod_eq_emod_of_nonneg (by omega)
  have hz : ((211 : Int) = 0) = False := by simp
  have hz2 : ((100 : Int) = 0) = False := by simp
  have hz3 : ((10 : Int) = 0) = False := by simp
  have k1 : ∀ st,Cl EE (.func 142 [] []) [iv ((C / 100 : Nat) : Int)] st (.ret (.str (toB (itoaL (C / 100))))) st := fun st => by have := c142 ((C / 100 : Nat) : Int) (by omega) (by omega) st;rwa [Int.toNat_natCast] at this
  have k2 : ∀ st,Cl EE (.func 142 [] []) [iv ((C / 10 % 10 : Nat) : Int)] st (.ret (.str (toB (itoaL (C / 10 % 10))))) st := fun st => by have := c142 ((C / 10 % 10 : Nat) : Int) (by omega) (by omega) st;rwa [Int.toNat_natCast] at this
  have k3 : ∀ st,Cl EE (.func 142 [] []) [iv ((C % 10 : Nat) : Int)] st (.ret (.str (toB (itoaL (C % 10))))) st := fun st => by have := c142 ((C % 10 : Nat) : Int) (by omega) (by omega) st;rwa [Int.toNat_natCast] at this
  have i1l := itoaL_len (C / 100)
  have i2l := itoaL_len (C / 10 % 10)
  have i4l := itoaL_len (C % 10)
  refine go (bw12 hl1 hv5 hv6 i1 w57 w60 w64 w65 w69 hz hz2 hz3) fnil ?_
  refine wops_add (s := joinL rows) (t := endW) rfl rfl (by simp only [go_sem,hl1];first | done | rfl) (by simp only [go_sem,hl1];first | done | rfl) (by simp only [endW,List.length_cons,List.length_nil];omega) ?_
  generalize hXd : joinL rows ++ endW = X
  have hX : X.length ≤ 151 * 16 + 4 := by rw [← hXd];simp only [endW,List.length_append,List.length_cons,List.length_nil];omega
  refine go (bw10 hl1 hv6 w57 w60 w64 w65 w69 hz hz2 hz3) (bw4 k1 k2 k3 fnil) ?_
  refine wops_add rfl rfl (by simp only [go_sem,hl1];first | done | rfl) (by simp only [go_sem,hl1];first | done | rfl) (by first | omega | (simp only [List.length_append,List.length_cons,List.length_nil];omega)) ?_
  refine go (bw10 hl1 hv6 w57 w60 w64 w65 w69 hz hz2 hz3) (bw4 k1 k2 k3 fnil) ?_
  refine wops_add rfl rfl (by simp only [go_sem,hl1];first | done | rfl) (by simp only [go_sem,hl1];first | done | rfl) (by first | omega | (simp only [List.length_append,List.length_cons,List.length_nil];omega)) ?_
  refine go (bw10 hl1 hv6 w57 w60 w64 w65 w69 hz hz2 hz3) (bw4 k1 k2 k3 fnil) ?_
  refine wops_add rfl rfl (by simp only [go_sem,hl1];first | done | rfl) (by simp only [go_sem,hl1];first | done | rfl) (by first | omega | (simp only [List.length_append,List.length_cons,List.length_nil];omega)) ?_
  refine wops_add (t := [10]) rfl rfl (by simp only [go_sem,hl1];first | done | rfl) (by simp only [go_sem,hl1];first | done | rfl) (by first | omega | (simp only [List.length_append,List.length_cons,List.length_nil];omega)) ?_
  refine go hl1 fnil ?_
  have ef : joinL rows ++ (endW ++ itoaL (C / 100) ++ itoaL (C / 10 % 10) ++ itoaL (C % 10)) ++ [10] = X ++ itoaL (C / 100) ++ itoaL (C / 10 % 10) ++ itoaL (C % 10) ++ [10] := by rw [← hXd];simp
  rw [ef]
  exact fnq_flat (results_one (by rw [rdRes_tmp];simp only [go_sem,hl1];first | done | rfl)) (by first | exact Nat.le_refl _ | (simp only [lo_push];omega)) (by rfl)
 ·have hlt : i < rows.length := by have := of_decide_eq_true hb1;omega
  have hw1 : IntKind.wrap .i64 ((i : Int) + 1) = ((i + 1 : Nat) : Int) := wrap_nat (n := i + 1) (by omega)
  have hri := hrows _ (List.getElem_mem hlt)
  have hgi : rows.getD i [] = rows[i] := by rw [List.getD_eq_getElem?_getD,List.getElem?_eq_getElem hlt];rfl
  have habi := hab i (by omega)
  have holi := hol i
  refine ⟨by omega,?_⟩
  refine go hl1 fnil ?_
  refine wp_for [8,6] (fun k vs st' => vs = [iv k,iv ((allSum rows i + rowSum i rows[i] k : Nat) : Int)] ∧ k ≤ rows[i].length ∧ st' = { heap := st.heap,lo := st.heap.length }) (fun k => rows[i].length - k) ⟨by simp only [go_sem,hl1,hv6];first | done | rfl,Nat.zero_le _,rfl⟩ ?_
  rintro k tm2 st2 ⟨hv,hk,rfl⟩ hS
  simp only [List.map_cons,List.map_nil,List.cons.injEq,and_true] at hv
  obtain ⟨hw8,hw6⟩ := hv
  have hl2 : tm2.length = 65 := (by rw [hS.1];simp only [put_len,hl1]);have k0 : tg tm2 0 = V := (by rw [hS.2 0 (by decide)];simp only [go_sem,hl1,i0,hv7,hv5]);have k7 : tg tm2 7 = iv i := (by rw [hS.2 7 (by decide)];simp only [go_sem,hl1,i0,hv7,hv5]);have k5 : tg tm2 5 = .str (toB (joinL (rows.take i))) := (by rw [hS.2 5 (by decide)];simp only [go_sem,hl1,i0,hv7,hv5]);clear hS
  refine go (bw4 hl2 hw8 k0 k7) fnil ?_
  refine ⟨decide ((k : Int) < rows[i].length),by simp only [go_sem,hl2],fun hb => ?_,fun hb2 => ?_⟩
  ·have hlt2 := of_decide_eq_false hb
   have hkn : k = rows[i].length := by omega
   rw [hkn] at hw6
   refine go (bw4 hl2 k0 k7 k5) fnil ?_
   refine wops_add (s := joinL (rows.take i)) (t := rows[i]) rfl rfl (by simp only [go_sem,hl2];first | done | rfl) (by simp only [go_sem,hl2];first | done | rfl) (by omega) ?_
   refine wops_add (t := [10]) rfl rfl (by simp only [go_sem,hl2];first | done | rfl) (by simp only [go_sem,hl2];first | done | rfl) (by simp only [List.length_append,List.length_cons,List.length_nil];omega) ?_
   refine go (bw3 hl2 k7 hw1) fnil ?_
   rw [joinL_take hlt]
   refine ⟨?_,by omega,rfl⟩
   have ea : allSum rows (i + 1) = allSum rows i + rowSum i rows[i] rows[i].length := by simp only [allSum,hgi]
   rw [ea]
   simp only [go_sem,hl2,hw6]
  ·have hk2 : k < rows[i].length := by have := of_decide_eq_true hb2;omega
   have hgk : rows[i].getD k 0 = rows[i][k] := by rw [List.getD_eq_getElem?_getD,List.getElem?_eq_getElem hk2];rfl
   have hix := getElem?_toB rows[i] k hk2
   have hrb := rowSum_bound (i := i) (r := rows[i]) (by omega) (k + 1) (by omega)
   generalize hbd : rows[i][k] = b at hix hgk
   have hb255 : b.toNat < 256 := b.toNat_lt
   have hk0 : ((0 : Int) ≤ (k : Int)) = True := by simp
   have w46 : IntKind.wrap .i64 (b.toNat : Int) = (b.toNat : Int) := wrap_nat (by omega)
   have w48 : IntKind.wrap .i64 ((k : Int) + 1) = ((k + 1 : Nat) : Int) := wrap_nat (n := k + 1) (by omega)
   have b1 : b.toNat * (k + 1) ≤ 255 * 16 := Nat.mul_le_mul (by omega) (by omega)
   have b2 : b.toNat * (k + 1) * (i + 1) ≤ 255 * 16 * 151 := Nat.mul_le_mul b1 (by omega)
   have w49 : IntKind.wrap .i64 ((b.toNat : Int) * ((k + 1 : Nat) : Int)) = ((b.toNat * (k + 1) : Nat) : Int) := by rw [← Int.natCast_mul];exact wrap_nat (by omega)
   have w52 : IntKind.wrap .i64 (((b.toNat * (k + 1) : Nat) : Int) * ((i + 1 : Nat) : Int)) = ((b.toNat * (k + 1) * (i + 1) : Nat) : Int) := by rw [← Int.natCast_mul];exact wrap_nat (by omega)
   have e53 : allSum rows i + rowSum i rows[i] (k + 1) = allSum rows i + rowSum i rows[i] k + b.toNat * (k + 1) * (i + 1) := by simp only [rowSum,hgk];omega
   have w53 : IntKind.wrap .i64 (((allSum rows i + rowSum i rows[i] k : Nat) : Int) + ((b.toNat * (k + 1) * (i + 1) : Nat) : Int)) = ((allSum rows i + rowSum i rows[i] (k + 1) : Nat) : Int) := by
    rw [← Int.natCast_add,← e53];exact wrap_nat (by omega)
   refine ⟨by omega,?_⟩
   refine go (bw15 hl2 hw8 hw6 k0 k7 @op_indexStr hk0 Int.toNat_natCast hix w46 w48 w49 hw1 w52 w53) fnil ?_
   refine ⟨?_,by omega,rfl⟩
   simp only [go_sem,hl2]
set_option maxHeartbeats 4000000 in
theorem c71 (c : CL) (F : PV) (hF : SlOf 3 encF F c.figs) (hc : OkW c) (st : St) : Cl EE (.func 71 [] []) [clPV c F] st (.ret (.str (toB (textL c)))) st := by
 have hFc := hF.cells
 have hFi := hF.isCell
 have hFs := hF.slen
 have hlen := hc.len
 refine cl_fn (pr71 · _ _) fn71 1 rfl (by decide) (fun tm hl hg => ?_);have h0 : tg tm 0 = clPV c F := (hg 0 (by decide));clear hg
 have hrl : (rowsL c).length = c.figs.length + 1 := by simp [rowsL]
 have hh : ∀ (o : Own) st,Cl EE (.func 118 [] []) [.str (toB chestW),.slice o 2 [iv c.room,iv c.depth]] st (.ret (.str (toB (rowL chestW [c.room,c.depth])))) st := fun o st => c118 chestW _ [c.room,c.depth] ⟨rfl,fun _ _ => rfl⟩ (by simp;exact ⟨hc.room,hc.depth⟩) (by simp) (by decide) st
 refine go (bw hl h0) (bw hh fnil) ?_
 refine wp_for [4,3] (fun i vs st' => ∃ v,vs = [iv i,v] ∧ i ≤ c.figs.length ∧ OwnS (st.heap.length + 1) st' 1 v ((rowsL c).take (i + 1)).length (((rowsL c).take (i + 1)).flatMap encS) ∧ st.heap.length ≤ st'.lo ∧ st'.lo ≤ st'.heap.length ∧ hp st' st.heap.length = some (.var [iv c.room,iv c.depth,F])) (fun i => c.figs.length - i) ⟨_,by simp only [go_sem,hl];rfl,Nat.zero_le _,⟨by simp [rowsL,encS],.inr ⟨st.heap.length + 2,by simp [rowsL,encS],by omega,by simp only [go_sem]⟩⟩,by simp only [lo_push];omega,by simp only [lo_push,len_push];omega,by simp only [go_sem]⟩ ?_
 rintro i tm1 st1 ⟨v,hv,hi,hO,hlo,hwf,hbx⟩ hS
 simp only [List.map_cons,List.map_nil,List.cons.injEq,and_true] at hv
 obtain ⟨hv4,hv3⟩ := hv
 have mb := hp_lt hbx
 have hl1 : tm1.length = 38 := (by rw [hS.1];simp only [put_len,hl]);have i1 : tg tm1 1 = .ptr st.heap.length 0 := (by rw [hS.2 1 (by decide)];simp only [go_sem,hl]);clear hS
 refine go (bw5 hl1 hv4 i1 hbx hFs) fnil ?_
 refine ⟨decide ((i : Int) < c.figs.length),by simp only [go_sem,hl1],fun hb => ?_,fun hb1 => ?_⟩
 ·have hlt := of_decide_eq_false hb
  have hin : i = c.figs.length := by omega
  rw [hin,← hrl,List.take_length] at hO
  have hV : SlOf 1 encS v (rowsL c) := SlOf.of_sl hO.sl rfl rfl (fun _ => rfl)
  refine go (bw hl1 hv3) (bw (c119 v (rowsL c) hV (rowsL_len c) (by omega)) fnil) ?_
  exact fnq_flat (results_one (by rw [rdRes_tmp];simp only [go_sem,hl1];first | done | rfl)) hlo (by rfl)
 ·have hlt : i < c.figs.length := by have := of_decide_eq_true hb1;omega
  have hw1 : IntKind.wrap .i64 ((i : Int) + 1) = ((i + 1 : Nat) : Int) := wrap_nat (n := i + 1) (by omega)
  have hf := hc.figs _ (List.getElem_mem hlt)
  have hll : ((rowsL c).take (i + 1)).length = i + 1 := by simp [hrl];omega
  refine ⟨by omega,?_⟩
  have hr : ∀ (o : Own) st,Cl EE (.func 118 [] []) [.str (toB figW),.slice o 3 [iv c.figs[i].size,iv c.figs[i].rank,iv c.figs[i].eve]] st (.ret (.str (toB (figRow c.figs[i])))) st := fun o st => c118 figW _ [c.figs[i].size,c.figs[i].rank,c.figs[i].eve] ⟨rfl,fun _ _ => rfl⟩ (by simp;exact hf) (by simp) (by decide) st
  refine go (bw9 hl1 hv4 hv3 i1 hbx (neL mb) (neA mb) (ltL mb) (ltA mb)) (bw hr fnil) ?_
  refine wops_append rfl rfl (by simp only [go_sem,hl1,hv3];first | done | rfl) (by simp only [go_sem,hl1,hv3];first | done | rfl) ((((hO.push.setVar (by simp [hp_push])).push).push)) rfl (by first | omega | (simp only [len_push,len_setVar];omega)) (by rfl) (by rfl) (by simp only [maxList];omega) ?_
  intro v' st2 hO' hFr hk
  have f1 := hFr.lo
  have f2 := hFr.up
  have f3 := hFr.len
  simp only [lo_push,lo_setVar,len_push,len_setVar] at f1 f2 f3
  refine go (bw3 hl1 hv4 hw1) fnil ?_
  refine ⟨v',by simp only [go_sem,hl1],by omega,?_,by omega,by omega,hk _ _ (by simp only [go_sem,hbx,neL mb,neA mb,ltL mb,ltA mb]) (by simp)⟩
  have hn1 : i + 1 < (rowsL c).length := by omega
  rw [List.take_succ_eq_append_getElem hn1]
  have hri : (rowsL c)[i + 1] = figRow c.figs[i] := by simp [rowsL]
  rw [hri]
  simpa [share_str,encS] using hO'
end Go.Den.Ch
end
section
namespace Go.Den.Ch
theorem retF {st st' : St} {v : PV} {l : List Fig} (h : RetW st l.length (l.flatMap encF) v st') : SlOf 3 encF v l := h.own_sl (fun _ => rfl)
theorem retI {st st' : St} {v : PV} {l : List Int} (h : RetW st l.length (l.flatMap encI) v st') : SlOf 1 encI v l := h.own_sl (fun _ => rfl)
theorem ret2 {st st' : St} {v : PV} {l : List (Int × Int)} (h : RetW st l.length (l.flatMap enc2) v st') : SlOf 2 enc2 v l := h.own_sl (fun _ => rfl)
set_option maxHeartbeats 4000000 in
theorem c57 (c : CL) (F : PV) (f : Fig) (hF : SlOf 3 encF F c.figs) (hN : c.figs.length < 1000) (st : St) : ClR EE (.func 57 [] []) [clPV c F,figPV f] st (fun v st' => ∃ F',v = clPV (withL c f) F' ∧ RetW st (withL c f).figs.length ((withL c f).figs.flatMap encF) F' st') := by
 have hFc := hF.cells
 have hFi := hF.isCell
 refine clr_fn (pr57 · _ _) fn57 2 rfl (by decide) (fun tm hl hg => ?_);have h0 : tg tm 0 = clPV c F := (hg 0 (by decide));have h1 : tg tm 1 = figPV f := (hg 1 (by decide));clear hg
 refine go (bw5 hl h0 h1 hFc hFi) fnil ?_
 refine wopsD_append' (m := st.heap.length + 4) (by simp only [lo_push,lo_setVar,len_push,len_setVar];omega) rfl rfl (by simp only [go_sem,hl];first | done | rfl) (by simp only [go_sem,hl,hFc];first | done | rfl) .nil hF.sl (by simp only [len_push,len_setVar];omega) (flatMap_len hF.len) (encF_cell _) (by simp only [maxList];omega) ?_
 intro v1 S1 ft1 hft1 hO1 hFr1 hk1
 have s1 := hFr1.lo
 have s2 := hFr1.len
 have s3 := hFr1.up
 simp only [lo_push,lo_setVar,len_push,len_setVar] at s1 s2 s3
 have b1 := hk1 (st.heap.length + 1) (.var [iv f.size,iv f.rank,iv f.eve]) (by simp only [go_sem]) (by simp)
 have b2 := hk1 (st.heap.length + 2) (.var [iv 0,iv 0,.nilslice]) (by simp only [go_sem]) (by simp)
 have b3 := hk1 (st.heap.length + 3) (.var [iv c.room,iv c.depth,F]) (by simp only [go_sem,hFc];first | done | rfl) (by simp)
 rw [encF_share,List.nil_append,Nat.zero_add] at hO1
 refine go (bw hl b1) fnil ?_
 refine wopsD_append' (m := st.heap.length + 4) (by omega) rfl rfl (by simp only [go_sem,hl];first | done | rfl) (by simp only [go_sem,hl];first | done | rfl) hO1 rfl (by omega) (by rfl) (by rfl) (by simp only [maxList];omega) ?_
 intro v2 S2 ft2 hft2 hO2 hFr2 hk2
 have u1 := hFr2.lo
 have u2 := hFr2.len
 have u3 := hFr2.up
 have d2 := hk2 _ _ b2 (by simp)
 have d3 := hk2 _ _ b3 (by simp)
 have hF2 : SlOf 3 encF v2 (withL c f).figs := SlOf.of_sl hO2.sl (by simp [withL]) (by simp [withL,share_int]) (fun _ => rfl)
 have hF2c := hF2.cells
 have hF2i := hF2.isCell
 have m3 := hp_lt d3
 have m2 := hp_lt d2
 refine go hl fnil ?_
 refine wopsD_set (v := undef) (l := st.heap.length + 3) (ob := .var [iv c.room,iv c.depth,v2]) (by omega) (by omega) rfl rfl (fun rec st3 he hh => by simp only [go_sem,hl,hh,he,d3,hF2c,hF2i]) ?_
 apply wopsD_nil
 refine ⟨?_,?_⟩
 ·simp only [footOk,List.all_cons,List.all_nil,List.getElem?_cons_zero,List.getElem?_cons_succ,Bool.and_true]
  simp only [footOf]
  simp only [go_sem,hl]
  simp only [List.all_cons,List.all_nil,List.getElem?_cons_zero,List.getElem?_cons_succ,hft1 _ (Nat.add_lt_add_left (by decide : 1 < 4) _),Bool.not_false,Bool.and_self]
 ·refine go (bw15 hl d2 d3 (neL m2) (neA m2) (ltL m2) (ltA m2) (neL m3) (neA m3) (ltL m3) (ltA m3) m2 m3 hF2c hF2i) fnil ?_
  obtain ⟨F',e1,hW⟩ := finish_agg (st := st) (st1 := setVar (setVar S2 (st.heap.length + 3) (.var [iv c.room,iv c.depth,v2])) (st.heap.length + 2) (.var [iv c.room,iv c.depth,v2])) (a := c.room) (b := c.depth) hF2.sl (by simp only [lo_setVar];omega) (fun m => lowL_of (encF_low _ m))
  refine fnr_ret (v := .agg [iv c.room,iv c.depth,v2]) (results_one ?_) ?_
  ·rw [rdRes_hp (l := st.heap.length + 2) (off := 0) (by simp only [go_sem,hl])]
   simp only [go_sem,hl,m2,m3,hF2c,hF2i]
   first | done | rfl
  ·rw [e1]
   exact ⟨F',rfl,hW⟩
def clC : CL := ⟨10,3,[⟨4,3,0⟩,⟨3,2,0⟩,⟨5,2,1⟩,⟨2,3,1⟩,⟨6,1,2⟩]⟩
def clD : CL := withL clC ⟨6,2,1⟩
theorem c75 (st : St) : ClR EE (.func 75 [] []) [] st (fun v st' => ∃ F,v = clPV clC F ∧ RetW st clC.figs.length (clC.figs.flatMap encF) F st') := by
 refine clr_fn (pr75 · _ _) fn75 0 rfl (by decide) (fun tm hl hg => ?_);clear hg
 refine go hl fnil ?_
 obtain ⟨F',e1,hW⟩ := finish_agg (st := st) (st1 := setVar ((({ heap := st.heap,lo := st.heap.length } : St).push (.var [iv 0,iv 0,.nilslice])).push (.tag true)) st.heap.length (.var [iv 10,iv 3,.slice (.tag (st.heap.length + 1) 3) 5 (clC.figs.flatMap encF)])) (a := 10) (b := 3) (v := .slice (.tag (st.heap.length + 1) 3) 5 (clC.figs.flatMap encF)) rfl (by simp only [lo_setVar,lo_push];omega) (fun m => lowL_of (encF_low _ m))
 refine fnr_ret (v := .agg [iv 10,iv 3,.slice (.tag (st.heap.length + 1) 3) 5 (clC.figs.flatMap encF)]) (results_one ?_) ?_
 ·rw [rdRes_hp (l := st.heap.length) (off := 0) (by simp only [go_sem,hl])]
  simp only [go_sem,hl]
  first | done | rfl
 ·refine ⟨F',e1,hW⟩
theorem c76 (st : St) : ClR EE (.func 76 [] []) [] st (fun v st' => ∃ F,v = clPV clD F ∧ RetW st clD.figs.length (clD.figs.flatMap encF) F st') := by
 refine clr_fn (pr76 · _ _) fn76 0 rfl (by decide) (fun tm hl hg => ?_);clear hg
 refine go hl fnil ?_
 refine wops_callR rfl rfl (by simp only [go_sem,hl];first | done | rfl) (by simp only [go_sem,hl];exact c75 _) ?_
 rintro v1 S1 ⟨F1,rfl,hW1⟩
 have hF1 : SlOf 3 encF F1 clC.figs := retF hW1
 have hk1 : hp S1 st.heap.length = some (.var [iv 0,iv 0,.nilslice]) := hW1.hp (by simp only [go_sem])
 have r1 := hW1.lo
 simp only [lo_push] at r1
 refine go hl fnil ?_
 refine wops_callR rfl rfl (by simp only [go_sem,hl];first | done | rfl) (by simp only [go_sem,hl];exact c57 clC F1 ⟨6,2,1⟩ hF1 (by decide) _) ?_
 rintro v2 S2 ⟨F2,rfl,hW2⟩
 have hF2 : SlOf 3 encF F2 clD.figs := retF hW2
 have hF2c := hF2.cells
 have hF2i := hF2.isCell
 have hk2 := hW2.hp hk1
 have r2 := hW2.lo
 have m2 := hp_lt hk2
 refine go (bw4 hl hk2 hF2c hF2i) fnil ?_
 obtain ⟨F',e1,hW⟩ := finish_agg (st := st) (st1 := setVar S2 st.heap.length (.var [iv 10,iv 3,F2])) (a := 10) (b := 3) hF2.sl (by simp only [lo_setVar];omega) (fun m => lowL_of (encF_low _ m))
 refine fnr_ret (v := .agg [iv 10,iv 3,F2]) (results_one ?_) ?_
 ·rw [rdRes_hp (l := st.heap.length) (off := 0) (by simp only [go_sem,hl])]
  simp only [go_sem,hl,m2,hF2c,hF2i]
  first | done | rfl
 ·exact ⟨F',e1,hW⟩
end Go.Den.Ch
end

/- Part of the proofs of laws of the package chest. Texts: ChY, ChZ. -/
import Derived.Test.YtoeigapilcgelaaGreatDoorK8Ar
set_option linter.unusedSimpArgs false
set_option linter.unusedVariables false
section
namespace Go.Den
theorem finish_agg {st st1 : St} {a b : Int} {v : PV} {n : Nat} {cs : List PV} (hv : v.sl = some (n,cs)) (hlo : st.heap.length ≤ st1.lo) (hc : ∀ m,lowL m cs = true) : ∃ v',(finishCall st st1 (.agg [.int .i64 a,.int .i64 b,v])).1 = .agg [.int .i64 a,.int .i64 b,v'] ∧ RetW st n cs v' (finishCall st st1 (.agg [.int .i64 a,.int .i64 b,v])).2 := by
 obtain ⟨v',s,h1,h2,h3⟩ := sl_retag (m := st.heap.length) (h := st1.heap) hv hc
 unfold finishCall
 rw [if_pos hlo]
 have : letGo st.heap.length st1.heap (.agg [.int .i64 a,.int .i64 b,v]) = some (.agg [.int .i64 a,.int .i64 b,v'],s.length) := by
  have hf := sl_freeze (m := st.heap.length) (h := st1.heap) hv
  have ha : ∀ k : Int,freeze1 st.heap.length st1.heap (.int .i64 k) = (.int .i64 k,st1.heap) := fun _ => rfl
  have hr : ∀ k : Int,retag1 st1.heap st.heap.length [] (.int .i64 k) = some (.int .i64 k,[]) := fun _ => rfl
  simp only [letGo,freezeL,ha,hf,retagL,hr,h1,Option.map_some]
 rw [this]
 refine ⟨v',rfl,h2,?_⟩
 match s,h3 with
 | [],_ => left;simp
 | [x],_ => right;rfl
end Go.Den
namespace Go.Den.Ch
def figOf (ns : List Int) : Fig := ⟨ns.getD 0 0,ns.getD 1 0,ns.getD 2 0⟩
def figsL : List (List UInt8) → Option (List Fig)
 | [] => some []
 | r :: rs => match toldL r 1 3 with
  | some ns => (figsL rs).map (figOf ns :: ·)
  | none => none
def rowsP (rows : List (List UInt8)) : Option CL :=
 if 3 ≤ rows.length then
  match toldL (rows.headD []) 0 2 with
  | some n => (figsL ((rows.drop 1).take (rows.length - 2 - 1))).map fun fs => ⟨n.getD 0 0,n.getD 1 0,fs⟩
  | none => none
 else none
def parsedL (s : List UInt8) : Option CL := (rowsP (splitL 10 [] s)).bind fun c => if textL c == s then some c else none
theorem numsL_ok {l : List (List UInt8)} : ∀ {ns : List Int},numsL l = some ns → ns.length = l.length ∧ ∀ n ∈ ns,0 ≤ n ∧ n < 100 := by
 induction l with
 | nil => intro ns h;simp only [numsL,Option.some.injEq] at h;subst h;simp
 | cons x l ih =>
  intro ns h
  simp only [numsL] at h
  split at h
  ·rename_i hx
   simp only [Option.map_eq_some_iff] at h
   obtain ⟨ms,h1,rfl⟩ := h
   have := ih h1
   refine ⟨by simp [this.1],fun n hn => ?_⟩
   rcases List.mem_cons.1 hn with rfl | hn
   ·simp only [numB,Bool.and_eq_true,decide_eq_true_eq] at hx
    have := valL_bound hx.1 hx.2.1
    omega
   ·exact this.2 n hn
  ·cases h
theorem toldL_ok {row : List UInt8} {k many : Nat} {ns : List Int} (h : toldL row k many = some ns) : ns.length = many ∧ ∀ n ∈ ns,0 ≤ n ∧ n < 100 := by
 unfold toldL at h
 split at h
 ·rename_i h1
  have := numsL_ok h
  refine ⟨?_,this.2⟩
  rw [this.1,List.length_tail,h1.1];rfl
 ·cases h
def Fig100 (f : Fig) : Prop := (0 ≤ f.size ∧ f.size < 100) ∧ (0 ≤ f.rank ∧ f.rank < 100) ∧ (0 ≤ f.eve ∧ f.eve < 100)
theorem getD_ok {ns : List Int} (h : ∀ n ∈ ns,0 ≤ n ∧ n < 100) (i : Nat) : 0 ≤ ns.getD i 0 ∧ ns.getD i 0 < 100 := by
 rw [List.getD_eq_getElem?_getD]
 cases hi : ns[i]? with
 | none => simp
 | some x => exact h x (List.mem_of_getElem? hi)
theorem figsL_ok {l : List (List UInt8)} : ∀ {fs : List Fig},figsL l = some fs → fs.length = l.length ∧ ∀ f ∈ fs,Fig100 f := by
 induction l with
 | nil => intro fs h;simp only [figsL,Option.some.injEq] at h;subst h;simp
 | cons x l ih =>
  intro fs h
  simp only [figsL] at h
  split at h
  ·rename_i ns hx
   simp only [Option.map_eq_some_iff] at h
   obtain ⟨ms,h1,rfl⟩ := h
   have := ih h1
   refine ⟨by simp [this.1],fun n hn => ?_⟩
   rcases List.mem_cons.1 hn with rfl | hn
   ·have h2 := (toldL_ok hx).2
    exact ⟨getD_ok h2 0,getD_ok h2 1,getD_ok h2 2⟩
   ·exact this.2 n hn
  ·cases h
theorem figsL_snoc (l : List (List UInt8)) (x : List UInt8) : figsL (l ++ [x]) = (figsL l).bind fun fs => (toldL x 1 3).map fun ns => fs ++ [figOf ns] := by
 induction l with
 | nil => simp only [List.nil_append,figsL];cases toldL x 1 3 <;> rfl
 | cons y l ih =>
  simp only [List.cons_append,figsL,ih]
  cases toldL y 1 3
  ·rfl
  ·cases figsL l with
   | none => rfl
   | some fs => cases toldL x 1 3 <;> rfl
theorem figsL_bad (l : List (List UInt8)) {j : Nat} (hj : j < l.length) (h : toldL l[j] 1 3 = none) : figsL l = none := by
 induction l generalizing j with
 | nil => simp at hj
 | cons y l ih =>
  simp only [figsL]
  cases j with
  | zero => simp only [List.getElem_cons_zero] at h;simp [h]
  | succ j =>
   simp only [List.getElem_cons_succ] at h
   rw [ih (by simpa using hj) h]
   split <;> rfl
theorem getD_get {ns : List Int} {i : Nat} (hi : i < ns.length) : ns.getD i 0 = ns[i] := by
 rw [List.getD_eq_getElem?_getD,List.getElem?_eq_getElem hi];rfl
def ParP (o : Option CL) (st : St) (r : CR) (st' : St) : Prop := HExt st.heap st'.heap ∧ st'.lo = st.lo ∧ match r with
 | .ret v => ∃ c F,o = some c ∧ v = clPV c F ∧ SlOf 3 encF F c.figs
 | .panic v => o = none ∧ ∃ x,v = noneX x
theorem par_panic {st : St} {o : Option CL} {tm : List PV} {S : St} {s : ByteArray} (hwf : st.lo ≤ st.heap.length) (hx : HExt st.heap S.heap) (hlo : st.heap.length ≤ S.lo) (hn : o = none) : FnA [.cell 2 true 3] st (ParP o st) (.panic (noneX s)) tm S :=
 fna_panic ⟨hx,by show min st.lo S.lo = st.lo;omega,hn,⟨s,rfl⟩⟩
theorem rowsP_short {rows : List (List UInt8)} (h : ¬ 3 ≤ rows.length) : rowsP rows = none := by
 unfold rowsP;rw [if_neg h]
theorem rowsP_head {rows : List (List UInt8)} (h : 3 ≤ rows.length) (h0 : 0 < rows.length) : rowsP rows = match toldL rows[0] 0 2 with
  | some n => (figsL ((rows.drop 1).take (rows.length - 2 - 1))).map fun fs => ⟨n.getD 0 0,n.getD 1 0,fs⟩
  | none => none := by
 unfold rowsP
 rw [if_pos h]
 cases rows with
 | nil => simp at h0
 | cons r rs => rfl
theorem told_ret {ns : Option (List Int)} {st st' : St} {v : PV} (h : ToldP ns st (.ret v) st') : ∃ l,ns = some l ∧ RetS st 1 l.length (l.flatMap encI) v st' := h
theorem told_no {ns : Option (List Int)} {st st' : St} {v : PV} (h : ToldP ns st (.panic v) st') : ns = none ∧ (∃ s,v = noneX s) ∧ HExt st.heap st'.heap ∧ st'.lo = st.lo := h
set_option maxHeartbeats 8000000 in
theorem c117 (s : List UInt8) (hs : s.length ≤ 150) (st : St) (hwf0 : st.lo ≤ st.heap.length) : ClA EE (.func 117 [] []) [.str (toB s)] st (ParP (parsedL s) st) := by
 have hV := splitSl 10 s
 have hVl := splitL_len 10 [] s
 have hpm := splitL_mem 10 150 [] s (by simpa using hs)
 have hpar : parsedL s = (rowsP (splitL 10 [] s)).bind fun c => if textL c == s then some c else none := rfl
 refine cla_fn (pr117 · _ _) fn117 1 rfl (by decide) (fun tm hl hg => ?_);have h0 : tg tm 0 = .str (toB s) := (hg 0 (by decide));clear hg
 have hsp := c139 s 10 (by omega)
 generalize hps : splitL 10 [] s = ps at hV hsp hVl hpm hpar
 generalize hVd : PV.slice Own.shared ps.length (ps.flatMap encS) = V at hV hsp
 have hVs := hV.slen
 have hVc := hV.cells
 by_cases h3 : 3 ≤ ps.length
 case neg =>
  have d3 : decide ((ps.length : Int) ≥ 3) = false := by simp;omega
  rw [rowsP_short h3] at hpar
  refine go (bw4 hl h0 hVs d3) (bw hsp fnil) ?_
  refine wops_callA rfl rfl (by simp only [go_sem,hl];first | done | rfl) (by simp only [go_sem,hl,h0];exact c140 false (toB s) _ (by simp only [lo_push,len_push];omega)) ?_ ?_
  ·rintro v st1 ⟨_,⟨h,_⟩ | ⟨_,h⟩⟩
   ·cases h
   ·cases h
  ·rintro v st1 ⟨rfl,⟨h,_⟩ | ⟨_,h⟩⟩
   ·cases h
   ·cases h
    refine go fnil fnil ?_
    exact par_panic hwf0 (HExt.push _ _) (by simp only [lo_push];omega) hpar
 case pos =>
 have d3 : decide ((ps.length : Int) ≥ 3) = true := by simp;omega
 have hp0 : 0 < ps.length := by omega
 rw [rowsP_head h3 hp0] at hpar
 refine go (bw4 hl h0 hVs d3) (bw3 hsp c140_ok fnil) ?_
 have hr0 := hpm _ (List.getElem_mem hp0)
 refine wops_callA rfl rfl (by simp only [go_sem,hl];first | done | rfl) (by simp only [go_sem,hl];exact c141 ps[0] 0 2 (.inl rfl) (by omega) (by omega) _ (by simp only [lo_push,len_push];omega)) ?_ ?_
 rotate_left
 ·intro v st1 hT
  obtain ⟨hn,⟨x,rfl⟩,hx,hlo⟩ := told_no hT
  rw [hn] at hpar
  refine go fnil fnil ?_
  exact par_panic hwf0 ((HExt.push _ _).trans hx) (by rw [hlo];simp only [lo_push];omega) hpar
 intro v4 st1 hT
 obtain ⟨ns,hn,hR⟩ := told_ret hT
 rw [hn] at hpar
 have hnl := (toldL_ok hn).1
 have hnb := (toldL_ok hn).2
 have hV4 : SlOf 1 encI v4 ns := SlOf.of_sl hR.sl rfl rfl (fun _ => rfl)
 have hq0 : 0 < ns.length := by omega
 have hq1 : 1 < ns.length := by omega
 have r1 := hR.lo
 have r2 := hR.len
 have b2 : hp st1 st.heap.length = some (.var [iv 0,iv 0,.nilslice]) := hR.hp (by simp only [go_sem])
 simp only [lo_push,len_push] at r1 r2
 have hx1 : HExt st.heap st1.heap := (HExt.push (⟨st.heap,st.heap.length⟩ : St) _).trans (by rcases hR.st' with h | h <;> rw [h] <;> first | exact .refl _ | exact HExt.push _ _)
 refine go hl fnil ?_
 refine wopsD_set (v := undef) (l := st1.heap.length) (ob := .var [iv ns[0],iv ns[1],.nilslice]) (by simp only [lo_push,len_push];omega) (by simp only [len_push];omega) rfl rfl (fun rec st3 he hh => by simp only [go_sem,hl,hh,he]) ?_
 apply wopsD_nil
 refine ⟨footOk_quiet (by rfl),?_⟩
 have w30 : IntKind.wrap .i64 ((ps.length : Int) - 2) = ((ps.length - 2 : Nat) : Int) := by
  have : ((ps.length : Int) - 2) = ((ps.length - 2 : Nat) : Int) := by omega
  rw [this];exact wrap_nat (by omega)
 refine go (bw3 hl hVs w30) fnil ?_
 refine wops_slice rfl rfl (by simp only [go_sem,hl];first | done | rfl) hV (m := ps.length - 2) (n := 1) (by simp only [go_sem,hl,bound,Int.toNat_natCast,w30];first | done | simp) (by rfl) (by omega) (by omega) ?_
 intro V2 hV2
 generalize hTd : (ps.drop 1).take (ps.length - 2 - 1) = T at hV2 hpar
 have hTl : T.length = ps.length - 2 - 1 := by rw [← hTd,List.length_take,List.length_drop];omega
 have hTm : ∀ p ∈ T,p.length ≤ 150 := fun p hp => hpm p (by rw [← hTd] at hp;exact List.mem_of_mem_drop (List.mem_of_mem_take hp))
 have hV2s := hV2.slen
 have hV2c := hV2.cells
 refine go (bw hl hV2s) fnil ?_
 refine wp_range T.length [] (fun j vs st' => ∃ fs v,figsL (T.take j) = some fs ∧ hp st' st1.heap.length = some (.var [iv ns[0],iv ns[1],v]) ∧ hp st' st.heap.length = some (.var [iv 0,iv 0,.nilslice]) ∧ OwnS (st1.heap.length + 1) st' 3 v fs.length (fs.flatMap encF) ∧ fs.length = j ∧ st1.heap.length + 1 ≤ st'.heap.length ∧ HExt st.heap st'.heap ∧ st.heap.length ≤ st'.lo ∧ st'.lo ≤ st'.heap.length) (by omega) (by simp only [go_sem,hl]) (by simp only [go_sem,hl]) (by simp only [go_sem,hl]) (by decide) ⟨[],.nilslice,rfl,by simp only [go_sem],by rw [hp_setVar,if_neg (by omega),hp_push,if_neg (by omega)];exact b2,.nil,rfl,by simp only [len_setVar,len_push];omega,(hx1.trans (HExt.push _ _)).setVar (by omega),by simp only [lo_push,lo_setVar];omega,by simp only [lo_push,lo_setVar,len_setVar,len_push];omega⟩ ?_ ?_
 ·rintro j hj tm1 S ⟨fs,v,hfs,hC,hL,hO,hfl,hge,hx,hlo,hwf⟩ hS hja
  have hl1 : tm1.length = 62 := (by rw [hS.1];simp only [put_len,hl]);have i31 : tg tm1 31 = V2 := (by rw [hS.2 31 (by decide)];simp only [go_sem,hl,hV2c]);have i5 : tg tm1 5 = .ptr st1.heap.length 0 := (by rw [hS.2 5 (by decide)];simp only [go_sem,hl,hV2c]);clear hS
  have hxl := hTm _ (List.getElem_mem hj)
  have htk : T.take (j + 1) = T.take j ++ [T[j]] := List.take_succ_eq_append_getElem hj
  have mC := hp_lt hC
  have mL := hp_lt hL
  refine go (bw4 hl1 i31 i5 hja) fnil ?_
  refine wops_callA rfl rfl (by simp only [go_sem,hl1];first | done | rfl) (by simp only [go_sem,hl1];exact c141 T[j] 1 3 (.inr rfl) (by omega) (by omega) _ hwf) ?_ ?_
  rotate_left
  ·intro v8 S1 hT
   obtain ⟨hn8,⟨x,rfl⟩,hx8,hlo8⟩ := told_no hT
   rw [figsL_bad T hj hn8] at hpar
   refine go fnil fnil ?_
   exact par_panic hwf0 (hx.trans hx8) (by omega) hpar
  intro v8 S1 hT
  obtain ⟨ms,hm,hR8⟩ := told_ret hT
  have hml := (toldL_ok hm).1
  have hV8 : SlOf 1 encI v8 ms := SlOf.of_sl hR8.sl rfl rfl (fun _ => rfl)
  have hk0 : 0 < ms.length := by omega
  have hk1 : 1 < ms.length := by omega
  have hk2 : 2 < ms.length := by omega
  have hO8 : OwnS (st1.heap.length + 1) S1 3 v fs.length (fs.flatMap encF) := hO.keep fun t _ ht => hR8.hp ht
  have C8 := hR8.hp hC
  have L8 := hR8.hp hL
  have r3 := hR8.lo
  have r4 := hR8.len
  have mC8 := hp_lt C8
  have mL8 := hp_lt L8
  have hx8 : HExt st.heap S1.heap := hx.trans (by rcases hR8.st' with h | h <;> rw [h] <;> first | exact .refl _ | exact HExt.push _ _)
  refine go (bw3 hl1 i5 C8) fnil ?_
  refine wopsD_append' (m := st1.heap.length + 1) (by simp only [lo_push,len_push];omega) rfl rfl (by simp only [go_sem,hl1];first | done | rfl) (by simp only [go_sem,hl1];first | done | rfl) hO8.push rfl (by simp only [len_push];omega) (by rfl) (by rfl) (by simp only [maxList];omega) ?_
  intro v' S2 ft hft hO2 hFr hk
  have s1 := hFr.lo
  have s2 := hFr.len
  have s3 := hFr.up
  simp only [lo_push,len_push] at s1 s2 s3
  have C9 := hk st1.heap.length (.var [iv ns[0],iv ns[1],v]) (by rw [hp_push,if_neg (by omega)];exact C8) (by simp)
  have L9 := hk st.heap.length (.var [iv 0,iv 0,.nilslice]) (by rw [hp_push,if_neg (by omega)];exact L8) (by simp)
  have hv' := hO2.sl
  have hF' : SlOf 3 encF v' (fs ++ [figOf ms]) := SlOf.of_sl hv' (by simp) (by
   simp [figOf,List.getElem?_eq_getElem hk0,List.getElem?_eq_getElem hk1,List.getElem?_eq_getElem hk2,share_int]) (fun _ => rfl)
  have hFc' := hF'.cells
  have hFi' := hF'.isCell
  have n0 := hp_lt C9
  refine go (bw hl1 i5) fnil ?_
  refine wopsD_set (v := undef) (l := st1.heap.length) (ob := .var [iv ns[0],iv ns[1],v']) (by omega) (by omega) rfl rfl (fun rec st3 he hh => by simp only [go_sem,hl1,i5,hh,he,C9,hFc',hFi']) ?_
  apply wopsD_nil
  refine ⟨?_,?_⟩
  ·simp only [footOk,List.all_cons,List.all_nil,List.getElem?_cons_zero,List.getElem?_cons_succ,Bool.and_true]
   simp only [footOf]
   simp only [go_sem,hl1,i5]
   have hq : clash st1.heap.length Foot.quiet = false := rfl
   simp only [List.all_cons,List.all_nil,List.getElem?_cons_zero,List.getElem?_cons_succ,hq,hft _ (Nat.lt_succ_self _),Bool.not_false,Bool.and_self]
  ·refine go hl1 fnil ?_
   refine ⟨fs ++ [figOf ms],v',?_,by rw [hp_setVar,if_pos rfl,if_pos n0],by rw [hp_setVar,if_neg (by omega)];exact L9,?_,by simp [hfl],by rw [len_setVar];omega,?_,by rw [lo_setVar];omega,by rw [lo_setVar,len_setVar];omega⟩
   ·rw [htk,figsL_snoc,hfs,hm];rfl
   ·have hO3 := hO2.setVar (l := st1.heap.length) (o := .var [iv ns[0],iv ns[1],v']) (by rw [C9];simp)
    have e1 : (fs ++ [figOf ms]).length = fs.length + 1 := by simp
    have e3 : (fs ++ [figOf ms]).flatMap encF = fs.flatMap encF ++ [iv ms[0],iv ms[1],iv ms[2]] := by simp [figOf,List.getElem?_eq_getElem hk0,List.getElem?_eq_getElem hk1,List.getElem?_eq_getElem hk2]
    rw [e1,e3]
    simpa [share_int] using hO3
   ·exact ((hx8.trans (HExt.push S1 _)).fr (hFr.mono (by omega))).setVar (by omega)
 ·rintro tm1 S ⟨fs,v,hfs,hC,hL,hO,hfl,hge,hx,hlo,hwf⟩ hS
  have hl1 : tm1.length = 62 := (by rw [hS.1];simp only [put_len,hl]);have i2 : tg tm1 2 = .ptr st.heap.length 0 := (by rw [hS.2 2 (by decide)];simp only [go_sem,hl,h0]);have i5 : tg tm1 5 = .ptr st1.heap.length 0 := (by rw [hS.2 5 (by decide)];simp only [go_sem,hl,h0]);have i0 : tg tm1 0 = .str (toB s) := (by rw [hS.2 0 (by decide)];simp only [go_sem,hl,h0]);clear hS
  rw [List.take_length] at hfs
  simp only [hfs,Option.map_some,Option.bind_some,getD_get hq0,getD_get hq1] at hpar
  have hfo := figsL_ok hfs
  have hOk : OkW ⟨ns[0],ns[1],fs⟩ := ⟨hnb _ (List.getElem_mem hq0),hnb _ (List.getElem_mem hq1),hfo.2,by show fs.length ≤ 150;omega⟩
  have hSF : SlOf 3 encF v fs := SlOf.of_sl hO.sl rfl rfl (fun _ => rfl)
  have hFc := hSF.cells
  have hFi := hSF.isCell
  have mC := hp_lt hC
  have mL := hp_lt hL
  cases hE : (textL ⟨ns[0],ns[1],fs⟩ == s)
  ·have hno : parsedL s = none := by rw [hpar,hE];rfl
   refine go (bw5 hl1 i0 i5 hC hE) (bw (c115 ⟨ns[0],ns[1],fs⟩ v hSF hOk) fnil) ?_
   refine wops_callA rfl rfl (by simp only [go_sem,hl1];first | done | rfl) (by simp only [go_sem,hl1,i0];exact c140 false (toB s) _ hwf) ?_ ?_
   ·rintro v9 st9 ⟨_,⟨h,_⟩ | ⟨_,h⟩⟩
    ·cases h
    ·cases h
   ·rintro v9 st9 ⟨rfl,⟨h,_⟩ | ⟨_,h⟩⟩
    ·cases h
    ·cases h
     refine go fnil fnil ?_
     exact par_panic hwf0 hx hlo hno
  ·have hyes : parsedL s = some ⟨ns[0],ns[1],fs⟩ := by rw [hpar,hE];rfl
   refine go (bw9 hl1 i0 i2 i5 hC hL hE hFc hFi) (bw3 (c115 ⟨ns[0],ns[1],fs⟩ v hSF hOk) c140_ok fnil) ?_
   obtain ⟨F',e1,hW⟩ := finish_agg (st := st) (st1 := setVar S st.heap.length (.var [iv ns[0],iv ns[1],v])) (a := ns[0]) (b := ns[1]) hO.sl (by rw [lo_setVar];omega) (fun m => lowL_of (encF_low fs m))
   refine fna_ret (v := .agg [iv ns[0],iv ns[1],v]) (results_one ?_) ?_
   ·rw [rdRes_hp (l := st.heap.length) (off := 0) (by simp only [go_sem,hl1,i2])]
    simp only [go_sem,hl1,mL,hFc,hFi]
    first | done | rfl
   ·rw [e1]
    exact ⟨hW.hext,hW.lo,_,F',hyes,rfl,hW.own_sl (fun _ => rfl)⟩
def ClosP (o : Option CL) (b : Nat) (st : St) (r : CR) (st' : St) : Prop := match r with
 | .ret v => v = .tuple [] ∧ (∃ c F,o = some c ∧ SlOf 3 encF F c.figs ∧ hp st' b = some (.var [iv c.room,iv c.depth,F])) ∧ (∀ l,l < st.heap.length → l ≠ b → hp st' l = hp st l) ∧ st.heap.length ≤ st'.heap.length ∧ st'.lo = min st.lo b
 | .panic v => o = none ∧ (∃ x,v = noneX x) ∧ HExt st.heap st'.heap ∧ st'.lo = st.lo
theorem finish_low {st S : St} {v : PV} (h : S.lo < st.heap.length) : finishCall st S v = (v,{ heap := S.heap,lo := min st.lo S.lo }) := by
 unfold finishCall
 rw [if_neg (by omega)]
theorem par_ret {o : Option CL} {st st' : St} {v : PV} (h : ParP o st (.ret v) st') : HExt st.heap st'.heap ∧ st'.lo = st.lo ∧ ∃ c F,o = some c ∧ v = clPV c F ∧ SlOf 3 encF F c.figs := h
theorem par_no {o : Option CL} {st st' : St} {v : PV} (h : ParP o st (.panic v) st') : HExt st.heap st'.heap ∧ st'.lo = st.lo ∧ o = none ∧ ∃ x,v = noneX x := h
set_option maxHeartbeats 2000000 in
theorem c116 (s : List UInt8) (hs : s.length ≤ 150) (a b : Nat) (st : St) (hwf : st.lo ≤ st.heap.length) (ha : hp st a = some (.var [.str (toB s)])) (hb : hp st b = some (.var [iv 0,iv 0,.nilslice])) : ClA EE (.func 116 [] [.ptr a 0,.ptr b 0]) [] st (ClosP (parsedL s) b st) := by
 have mb := hp_lt hb
 refine cla_fn (pr116 · _ _) fn116 2 rfl (by decide) (fun tm hl hg => ?_);have h0 : tg tm 0 = .ptr a 0 := (hg 0 (by decide));have h1 : tg tm 1 = .ptr b 0 := (hg 1 (by decide));clear hg
 have ha' : hp { heap := st.heap,lo := st.heap.length } a = some (.var [.str (toB s)]) := ha
 refine go (bw4 hl h0 h1 ha') fnil ?_
 refine wops_callA rfl rfl (by simp only [go_sem,hl];first | done | rfl) (by simp only [go_sem,hl];exact c117 s hs _ (Nat.le_refl _)) ?_ ?_
 ·intro v S hP
  obtain ⟨hx,hlo,c,F,ho,rfl,hF⟩ := par_ret hP
  have hFc := hF.cells
  have hFi := hF.isCell
  have hb' : hp S b = some (.var [iv 0,iv 0,.nilslice]) := (hx.2 b mb).trans hb
  have mS := hp_lt hb'
  simp only at hlo
  have hx1 := hx.1
  simp only at hx1
  refine go (bw5 hl h1 hb' hFc hFi) fnil ?_
  refine fna_normal (v := .tuple []) results_nil ?_
  rw [finish_low (by rw [lo_setVar];omega)]
  refine ⟨rfl,⟨c,F,ho,hF,?_⟩,fun l hl hne => ?_,?_,?_⟩
  ·show hp (setVar S b _) b = _
   rw [hp_setVar,if_pos rfl,if_pos mS]
  ·show hp (setVar S b _) l = _
   rw [hp_setVar,if_neg hne];exact hx.2 l hl
  ·show st.heap.length ≤ (setVar S b _).heap.length
   rw [len_setVar];exact hx1
  ·show min st.lo (setVar S b _).lo = _
   rw [lo_setVar];omega
 ·intro v S hP
  obtain ⟨hx,hlo,ho,x,rfl⟩ := par_no hP
  refine go fnil fnil ?_
  refine fna_panic ⟨ho,⟨x,rfl⟩,hx,?_⟩
  show min st.lo S.lo = st.lo
  simp only at hlo
  omega
def readR (s : List UInt8) : CL × Int := if s.length > 150 then (⟨0,0,[]⟩,3) else match parsedL s with
 | none => (⟨0,0,[]⟩,4)
 | some c => if listB c then (c,0) else (⟨0,0,[]⟩,2)
def ReadP (s : List UInt8) (st : St) (v : PV) (st' : St) : Prop := ∃ F,v = .tuple [clPV (readR s).1 F,iv (readR s).2] ∧ SlOf 3 encF F (readR s).1.figs ∧ HExt st.heap st'.heap ∧ st'.lo = st.lo
theorem readP_none {s : List UInt8} {st S : St} {e : Int} (h : readR s = (⟨0,0,[]⟩,e)) (hlo : st.heap.length ≤ S.lo) : ReadP s st (finishCall st S (.tuple [.agg [iv 0,iv 0,.nilslice],iv e])).1 (finishCall st S (.tuple [.agg [iv 0,iv 0,.nilslice],iv e])).2 := by
 rw [finish_tuple hlo (by rfl)]
 unfold ReadP
 rw [h]
 exact ⟨.nilslice,rfl,⟨rfl,fun _ h => by cases h⟩,.refl _,rfl⟩
set_option maxHeartbeats 4000000 in
theorem c70 (s : List UInt8) (st : St) : ClR EE (.func 70 [] []) [.str (toB s)] st (ReadP s st) := by
 refine clr_fn (pr70 · _ _) fn70 1 rfl (by decide) (fun tm hl hg => ?_);have h0 : tg tm 0 = .str (toB s) := (hg 0 (by decide));clear hg
 by_cases h150 : s.length > 150
 ·have d1 : decide ((s.length : Int) > 150) = true := by simp;omega
  have e : readR s = (⟨0,0,[]⟩,3) := by simp [readR,h150]
  refine go (bw3 hl h0 d1) fnil ?_
  refine fnr_ret (v := .tuple [.agg [iv 0,iv 0,.nilslice],iv 3]) (results_two ?_ ?_) (readP_none e (by simp only [lo_push,lo_setVar];omega))
  ·rw [rdRes_hp (l := st.heap.length + 1) (off := 0) (by simp only [go_sem,hl])]
   simp only [go_sem,hl];first | done | rfl
  ·rw [rdRes_tmp];simp only [go_sem,hl];first | done | rfl
 ·have d1 : decide ((s.length : Int) > 150) = false := by simp;omega
  refine go (bw3 hl h0 d1) fnil ?_
  obtain ⟨r,S,hcl,hP⟩ := c116 s (by omega) st.heap.length (st.heap.length + 1 + 1) (((({ heap := st.heap,lo := st.heap.length } : St).push (.var [.str (toB s)])).push (.var [iv 0,iv 0,.nilslice])).push (.var [iv 0,iv 0,.nilslice])) (by simp only [lo_push,len_push];omega) (by simp only [go_sem]) (by simp only [go_sem])
  cases r with
  | panic v =>
   obtain ⟨ho,⟨x,rfl⟩,hx,hlo⟩ := hP
   have e : readR s = (⟨0,0,[]⟩,4) := by simp [readR,h150,ho]
   have b1 : hp S (st.heap.length + 1) = some (.var [iv 0,iv 0,.nilslice]) := (hx.2 _ (by simp only [len_push];omega)).trans (by have h : ∀ (S : St) l,S.heap[l]? = hp S l := fun _ _ => rfl;rw [h];simp only [go_sem])
   have m1 := hp_lt b1
   simp only [lo_push] at hlo
   refine wops_call' rfl rfl (by simp only [go_sem,hl];first | done | rfl) (by simp only [go_sem,hl];exact c79_none hcl) ?_
   refine go (bw7 hl b1 (neL m1) (neA m1) (ltL m1) (ltA m1) zeroF_e) fnil ?_
   refine fnr_ret (v := .tuple [.agg [iv 0,iv 0,.nilslice],iv 4]) (results_two ?_ ?_) (readP_none e (by simp only [lo_push,lo_setVar];omega))
   ·rw [rdRes_hp (l := st.heap.length + 1) (off := 0) (by simp only [go_sem,hl])]
    simp only [go_sem,hl,m1,neL m1,neA m1,ltL m1,ltA m1];first | done | rfl
   ·rw [rdRes_tmp];simp only [go_sem,hl];first | done | rfl
  | ret v =>
   obtain ⟨rfl,⟨c,F,ho,hF,hbc⟩,hk,hln,hlo⟩ := hP
   have hFc := hF.cells
   have hFi := hF.isCell
   have b1 : hp S (st.heap.length + 1) = some (.var [iv 0,iv 0,.nilslice]) := (hk _ (by simp only [len_push];omega) (by omega)).trans (by simp only [go_sem])
   have m1 := hp_lt b1
   have m2 := hp_lt hbc
   simp only [lo_push,len_push] at hlo hln
   refine wops_call' rfl rfl (by simp only [go_sem,hl];first | done | rfl) (by simp only [go_sem,hl];exact c79_ret hcl) ?_
   cases hA : listB c
   ·have e : readR s = (⟨0,0,[]⟩,2) := by simp [readR,h150,ho,hA]
    refine go (bw13 hl b1 (neL m1) (neA m1) (ltL m1) (ltA m1) hbc (neL m2) (neA m2) (ltL m2) (ltA m2) zeroF_e hA) (bw (c77 c F hF) fnil) ?_
    refine fnr_ret (v := .tuple [.agg [iv 0,iv 0,.nilslice],iv 2]) (results_two ?_ ?_) (readP_none e (by simp only [lo_push,lo_setVar];omega))
    ·rw [rdRes_hp (l := st.heap.length + 1) (off := 0) (by simp only [go_sem,hl])]
     simp only [go_sem,hl,m1,neL m1,neA m1,ltL m1,ltA m1];first | done | rfl
    ·rw [rdRes_tmp];simp only [go_sem,hl];first | done | rfl
   ·have e : readR s = (c,0) := by simp [readR,h150,ho,hA]
    refine go (bw15 hl b1 (neL m1) (neA m1) (ltL m1) (ltA m1) hbc (neL m2) (neA m2) (ltL m2) (ltA m2) zeroF_e hA hFc hFi) (bw (c77 c F hF) fnil) ?_
    refine fnr_ret (v := .tuple [clPV c F,iv 0]) (results_two ?_ ?_) ?_
    ·rw [rdRes_hp (l := st.heap.length + 1) (off := 0) (by simp only [go_sem,hl])]
     simp only [go_sem,hl,m1,neL m1,neA m1,ltL m1,ltA m1,hFc,hFi];first | done | rfl
    ·rw [rdRes_tmp];simp only [go_sem,hl];first | done | rfl
    ·have hxS : HExt st.heap S.heap := ⟨by omega,fun l hl => by
      have h1 := hk l (by simp only [len_push];omega) (by omega)
      have n1 : (l = st.heap.length) = False := by simp;omega
      have n2 : ∀ k,(l = st.heap.length + k) = False := by simp;omega
      exact h1.trans (by simp only [go_sem,n1,n2];rfl)⟩
     have key : ∀ S' : St,HExt st.heap S'.heap → st.heap.length ≤ S'.lo → ReadP s st (finishCall st S' (.tuple [clPV c F,iv 0])).1 (finishCall st S' (.tuple [clPV c F,iv 0])).2 := by
      intro S' hx' hl'
      obtain ⟨k1,k2,k3⟩ := finish_keep (st := st) (st1 := S') (vs := [clPV c F,iv 0]) (by rfl) hl'
      rw [k1]
      refine ⟨F,by rw [e],by rw [e];exact hF,?_,k2⟩
      rcases k3 with h | h <;> rw [h] <;> first | exact .refl _ | exact hx'
     exact key _ (((hxS.trans (HExt.push S _)).setVar (by omega)).setVar (by omega)) (by simp only [lo_push,lo_setVar];omega)
end Go.Den.Ch
end
section
namespace Go.Den.Ch
theorem c74 (x lo hi : Int) (st : St) : Cl EE (.func 74 [] []) [iv x,iv lo,iv hi] st (.ret (.bool (inB x lo hi))) st := by
 refine cl_fn (pr74 · _ _) fn74 3 rfl (by decide) (fun tm hl hg => ?_);have h0 : tg tm 0 = iv x := (hg 0 (by decide));have h1 : tg tm 1 = iv lo := (hg 1 (by decide));have h2 : tg tm 2 = iv hi := (hg 2 (by decide));clear hg
 have e : inB x lo hi = (decide (x ≥ lo) && decide (x ≤ hi)) := rfl
 rw [e]
 cases hd : decide (x ≥ lo)
 ·refine go (bw5 hl h0 h1 h2 hd) fnil ?_
  refine fnq_flat (results_one (by rw [rdRes_tmp];simp only [go_sem,hl];first | done | rfl)) (by first | exact Nat.le_refl _ | omega | (simp only [lo_push,lo_setVar];omega)) (by rfl)
 ·refine go (bw5 hl h0 h1 h2 hd) fnil ?_
  refine fnq_flat (results_one (by rw [rdRes_tmp];simp only [go_sem,hl];first | done | rfl)) (by first | exact Nat.le_refl _ | omega | (simp only [lo_push,lo_setVar];omega)) (by rfl)
theorem c54 (f : Fig) (st : St) : Cl EE (.func 54 [] []) [figPV f] st (.ret (.bool (figB f))) st := by
 refine cl_fn (pr54 · _ _) fn54 1 rfl (by decide) (fun tm hl hg => ?_);have h0 : tg tm 0 = figPV f := (hg 0 (by decide));clear hg
 cases hA : inB f.size 1 9
 ·have e : figB f = false := by simp [figB,hA]
  rw [e]
  refine go (bw3 hl h0 hA) (bw c74 fnil) ?_
  refine fnq_flat (results_one (by rw [rdRes_tmp];simp only [go_sem,hl];first | done | rfl)) (by first | exact Nat.le_refl _ | omega | (simp only [lo_push,lo_setVar];omega)) (by rfl)
 ·cases hB : inB f.rank 1 5
  ·have e : figB f = false := by simp [figB,hB]
   rw [e]
   refine go (bw4 hl h0 hA hB) (bw c74 fnil) ?_
   refine fnq_flat (results_one (by rw [rdRes_tmp];simp only [go_sem,hl];first | done | rfl)) (by first | exact Nat.le_refl _ | omega | (simp only [lo_push,lo_setVar];omega)) (by rfl)
  ·have e : figB f = inB f.eve 0 5 := by simp [figB,hA,hB]
   rw [e]
   refine go (bw4 hl h0 hA hB) (bw c74 fnil) ?_
   refine fnq_flat (results_one (by rw [rdRes_tmp];simp only [go_sem,hl];first | done | rfl)) (by first | exact Nat.le_refl _ | omega | (simp only [lo_push,lo_setVar];omega)) (by rfl)
theorem c30 (c : CL) (F : PV) (hF : SlOf 3 encF F c.figs) (st : St) : Cl EE (.func 30 [] []) [clPV c F] st (.ret (.bool (decide (c.figs.length ≤ 8)))) st := by
 have hFs := hF.slen
 have hFc := hF.cells
 refine cl_fn (pr30 · _ _) fn30 1 rfl (by decide) (fun tm hl hg => ?_);have h0 : tg tm 0 = clPV c F := (hg 0 (by decide));clear hg
 have e : decide (c.figs.length ≤ 8) = decide ((c.figs.length : Int) ≤ 8) := by rw [decide_eq_decide];omega
 rw [e]
 refine go (bw3 hl h0 hFs) fnil ?_
 refine fnq_flat (results_one (by rw [rdRes_tmp];simp only [go_sem,hl];first | done | rfl)) (by first | exact Nat.le_refl _ | omega | (simp only [lo_push,lo_setVar];omega)) (by rfl)
theorem all_take {fs : List Fig} {i : Nat} (hi : i < fs.length) (h : ∀ f ∈ fs.take i,figB f = true) (hx : figB fs[i] = true) : ∀ f ∈ fs.take (i + 1),figB f = true := by
 intro f hf
 rw [List.take_succ_eq_append_getElem hi] at hf
 rcases List.mem_append.1 hf with h1 | h1
 ·exact h f h1
 ·rw [List.mem_singleton.1 h1];exact hx
set_option maxHeartbeats 1000000 in
theorem c33 (c : CL) (F : PV) (hF : SlOf 3 encF F c.figs) (hN : c.figs.length < 1000000) (st : St) : Cl EE (.func 33 [] []) [clPV c F] st (.ret (.bool (listB c))) st := by
 have hFs := hF.slen
 have hFc := hF.cells
 refine cl_fn (pr33 · _ _) fn33 1 rfl (by decide) (fun tm hl hg => ?_);have h0 : tg tm 0 = clPV c F := (hg 0 (by decide));clear hg
 refine go (bw hl h0) fnil ?_
 refine wp_for [3] (fun i vs st1 => vs = [iv i] ∧ i ≤ c.figs.length ∧ (∀ f ∈ c.figs.take i,figB f = true) ∧ st1 = ({ heap := st.heap,lo := st.heap.length } : St).push (.var [iv c.room,iv c.depth,F])) (fun i => c.figs.length - i) ⟨by simp only [go_sem,hl];first | done | rfl,Nat.zero_le _,by simp,by first | done | rfl⟩ ?_
 rintro i tm1 st1 ⟨hv,hi,hall,rfl⟩ hS
 simp only [List.map_cons,List.map_nil,List.cons.injEq,and_true] at hv
 have hl1 : tm1.length = 32 := (by rw [hS.1];simp only [put_len,hl]);have i1 : tg tm1 1 = .ptr st.heap.length 0 := (by rw [hS.2 1 (by decide)];simp only [go_sem,hl]);clear hS
 refine go (bw4 hl1 hv i1 hFs) fnil ?_
 refine ⟨decide ((i : Int) < c.figs.length),by simp only [go_sem,hl1],fun hb => ?_,fun hb => ?_⟩
 ·have hlt := of_decide_eq_false hb
  have hin : i = c.figs.length := by omega
  rw [hin,List.take_length] at hall
  have e6 : decide (c.figs.length ≤ 6) = decide ((c.figs.length : Int) ≤ 6) := by rw [decide_eq_decide];omega
  have e : listB c = (inB c.room 1 20 && (inB c.depth 1 5 && decide ((c.figs.length : Int) ≤ 6))) := by
   have : c.figs.all figB = true := List.all_eq_true.2 hall
   unfold listB
   rw [this,e6,Bool.and_true]
  rw [e]
  cases hA : inB c.room 1 20
  ·refine go (bw3 hl1 i1 hA) (bw c74 fnil) ?_
   refine fnq_flat (results_one (by rw [rdRes_tmp];simp only [go_sem,hl1];first | done | rfl)) (by first | exact Nat.le_refl _ | omega | (simp only [lo_push,lo_setVar];omega)) (by rfl)
  ·cases hB : inB c.depth 1 5
   ·refine go (bw4 hl1 i1 hA hB) (bw c74 fnil) ?_
    refine fnq_flat (results_one (by rw [rdRes_tmp];simp only [go_sem,hl1];first | done | rfl)) (by first | exact Nat.le_refl _ | omega | (simp only [lo_push,lo_setVar];omega)) (by rfl)
   ·refine go (bw5 hl1 i1 hA hB hFs) (bw c74 fnil) ?_
    refine fnq_flat (results_one (by rw [rdRes_tmp];simp only [go_sem,hl1];first | done | rfl)) (by first | exact Nat.le_refl _ | omega | (simp only [lo_push,lo_setVar];omega)) (by rfl)
 ·have hlt : i < c.figs.length := by have := of_decide_eq_true hb;omega
  have hw : IntKind.wrap .i64 ((i : Int) + 1) = ((i + 1 : Nat) : Int) := wrap_nat (n := i + 1) (by omega)
  refine ⟨by omega,?_⟩
  cases hx : figB c.figs[i]
  ·have e : listB c = false := by
    have : c.figs.all figB = false := List.all_eq_false.2 ⟨_,List.getElem_mem hlt,by rw [hx];simp⟩
    simp [listB,this]
   rw [e]
   refine go (bw4 hl1 hv i1 hx) (bw c54 fnil) ?_
   refine fnq_flat (results_one (by rw [rdRes_tmp];simp only [go_sem,hl1];first | done | rfl)) (by first | exact Nat.le_refl _ | omega | (simp only [lo_push,lo_setVar];omega)) (by rfl)
  ·refine go (bw5 hl1 hv i1 hx hw) (bw c54 fnil) ?_
   refine ⟨by simp only [go_sem,hl1],by omega,all_take hlt hall hx,rfl⟩
theorem eq_of_take {α : Type} {l m : List α} (hlm : l.length = m.length) (h : l.take l.length = m.take l.length) : l = m := by
 rw [List.take_length,hlm,List.take_length] at h
 exact h
theorem take_snoc_eq {α : Type} {l m : List α} {i : Nat} (hi : i < l.length) (hj : i < m.length) (h : l.take i = m.take i) (hx : l[i] = m[i]) : l.take (i + 1) = m.take (i + 1) := by
 rw [List.take_succ_eq_append_getElem hi,List.take_succ_eq_append_getElem hj,h,hx]
set_option maxHeartbeats 1000000 in
theorem c36 (F G : PV) (l m : List Int) (hF : SlOf 1 encI F l) (hG : SlOf 1 encI G m) (hN : l.length < 1000000) (st : St) : Cl EE (.func 36 [] []) [F,G] st (.ret (.bool (l == m))) st := by
 have hFs := hF.slen
 have hGs := hG.slen
 refine cl_fn (pr36 · _ _) fn36 2 rfl (by decide) (fun tm hl hg => ?_);have h0 : tg tm 0 = F := (hg 0 (by decide));have h1 : tg tm 1 = G := (hg 1 (by decide));clear hg
 cases hd : ((l.length : Int) != (m.length : Int))
 ·have hlm : l.length = m.length := by have := bne_eq_false_iff_eq.1 hd;omega
  refine go (bw6 hl h0 h1 hFs hGs hd) fnil ?_
  refine wp_for [5] (fun i vs st1 => vs = [iv i] ∧ i ≤ l.length ∧ l.take i = m.take i ∧ st1 = { heap := st.heap,lo := st.heap.length }) (fun i => l.length - i) ⟨by simp only [go_sem,hl];first | done | rfl,Nat.zero_le _,rfl,rfl⟩ ?_
  rintro i tm1 st1 ⟨hv,hi,ht,rfl⟩ hS
  simp only [List.map_cons,List.map_nil,List.cons.injEq,and_true] at hv
  have hl1 : tm1.length = 26 := (by rw [hS.1];simp only [put_len,hl]);have i0 : tg tm1 0 = F := (by rw [hS.2 0 (by decide)];simp only [go_sem,hl,h0,h1]);have i1 : tg tm1 1 = G := (by rw [hS.2 1 (by decide)];simp only [go_sem,hl,h0,h1]);clear hS
  refine go (bw4 hl1 hv i0 hFs) fnil ?_
  refine ⟨decide ((i : Int) < l.length),by simp only [go_sem,hl1],fun hb => ?_,fun hb => ?_⟩
  ·have hlt := of_decide_eq_false hb
   have hin : i = l.length := by omega
   have e : (l == m) = true := by rw [beq_iff_eq];exact eq_of_take hlm (by rw [← hin];exact ht)
   rw [e]
   refine go hl1 fnil ?_
   refine fnq_flat (results_one (by rw [rdRes_tmp];simp only [go_sem,hl1];first | done | rfl)) (by first | exact Nat.le_refl _ | omega | (simp only [lo_push,lo_setVar];omega)) (by rfl)
  ·have hlt : i < l.length := by have := of_decide_eq_true hb;omega
   have hlt2 : i < m.length := by omega
   have hw1 : IntKind.wrap .i64 ((i : Int) + 1) = ((i + 1 : Nat) : Int) := wrap_nat (n := i + 1) (by omega)
   refine ⟨by omega,?_⟩
   cases hx : (l[i] != m[i])
   ·refine go (bw6 hl1 hv i0 i1 hw1 hx) fnil ?_
    exact ⟨by simp only [go_sem,hl1],by omega,take_snoc_eq hlt hlt2 ht (bne_eq_false_iff_eq.1 hx),rfl⟩
   ·have e : (l == m) = false := by
     rw [beq_eq_false_iff_ne]
     intro e
     subst e
     simp at hx
    rw [e]
    refine go (bw5 hl1 hv i0 i1 hx) fnil ?_
    refine fnq_flat (results_one (by rw [rdRes_tmp];simp only [go_sem,hl1];first | done | rfl)) (by first | exact Nat.le_refl _ | omega | (simp only [lo_push,lo_setVar];omega)) (by rfl)
 ·have e : (l == m) = false := by
   rw [beq_eq_false_iff_ne]
   intro e
   subst e
   simp at hd
  rw [e]
  refine go (bw6 hl h0 h1 hFs hGs hd) fnil ?_
  refine fnq_flat (results_one (by rw [rdRes_tmp];simp only [go_sem,hl];first | done | rfl)) (by first | exact Nat.le_refl _ | omega | (simp only [lo_push,lo_setVar];omega)) (by rfl)
set_option maxHeartbeats 1000000 in
theorem c88 (F G : PV) (l m : List (Int × Int)) (hF : SlOf 2 enc2 F l) (hG : SlOf 2 enc2 G m) (hN : l.length < 1000000) (st : St) : Cl EE (.func 88 [] []) [F,G] st (.ret (.bool (l == m))) st := by
 have hFs := hF.slen
 have hGs := hG.slen
 refine cl_fn (pr88 · _ _) fn88 2 rfl (by decide) (fun tm hl hg => ?_);have h0 : tg tm 0 = F := (hg 0 (by decide));have h1 : tg tm 1 = G := (hg 1 (by decide));clear hg
 cases hd : ((l.length : Int) != (m.length : Int))
 ·have hlm : l.length = m.length := by have := bne_eq_false_iff_eq.1 hd;omega
  refine go (bw6 hl h0 h1 hFs hGs hd) fnil ?_
  refine wp_for [5] (fun i vs st1 => vs = [iv i] ∧ i ≤ l.length ∧ l.take i = m.take i ∧ st1 = { heap := st.heap,lo := st.heap.length }) (fun i => l.length - i) ⟨by simp only [go_sem,hl];first | done | rfl,Nat.zero_le _,rfl,rfl⟩ ?_
  rintro i tm1 st1 ⟨hv,hi,ht,rfl⟩ hS
  simp only [List.map_cons,List.map_nil,List.cons.injEq,and_true] at hv
  have hl1 : tm1.length = 26 := (by rw [hS.1];simp only [put_len,hl]);have i0 : tg tm1 0 = F := (by rw [hS.2 0 (by decide)];simp only [go_sem,hl,h0,h1]);have i1 : tg tm1 1 = G := (by rw [hS.2 1 (by decide)];simp only [go_sem,hl,h0,h1]);clear hS
  refine go (bw4 hl1 hv i0 hFs) fnil ?_
  refine ⟨decide ((i : Int) < l.length),by simp only [go_sem,hl1],fun hb => ?_,fun hb => ?_⟩
  ·have hlt := of_decide_eq_false hb
   have hin : i = l.length := by omega
   have e : (l == m) = true := by rw [beq_iff_eq];exact eq_of_take hlm (by rw [← hin];exact ht)
   rw [e]
   refine go hl1 fnil ?_
   refine fnq_flat (results_one (by rw [rdRes_tmp];simp only [go_sem,hl1];first | done | rfl)) (by first | exact Nat.le_refl _ | omega | (simp only [lo_push,lo_setVar];omega)) (by rfl)
  ·have hlt : i < l.length := by have := of_decide_eq_true hb;omega
   have hlt2 : i < m.length := by omega
   have hw1 : IntKind.wrap .i64 ((i : Int) + 1) = ((i + 1 : Nat) : Int) := wrap_nat (n := i + 1) (by omega)
   refine ⟨by omega,?_⟩
   cases hx : ([l[i].1,l[i].2] == [m[i].1,m[i].2])
   ·have e : (l == m) = false := by
     rw [beq_eq_false_iff_ne]
     intro e
     subst e
     simp at hx
    rw [e]
    refine go (bw5 hl1 hv i0 i1 hx) fnil ?_
    refine fnq_flat (results_one (by rw [rdRes_tmp];simp only [go_sem,hl1];first | done | rfl)) (by first | exact Nat.le_refl _ | omega | (simp only [lo_push,lo_setVar];omega)) (by rfl)
   ·have hpe : l[i] = m[i] := by
     have := eq_of_beq hx
     simp only [List.cons.injEq,and_true] at this
     exact Prod.ext this.1 this.2
    refine go (bw6 hl1 hv i0 i1 hw1 hx) fnil ?_
    exact ⟨by simp only [go_sem,hl1],by omega,take_snoc_eq hlt hlt2 ht hpe,rfl⟩
 ·have e : (l == m) = false := by
   rw [beq_eq_false_iff_ne]
   intro e
   subst e
   simp at hd
  rw [e]
  refine go (bw6 hl h0 h1 hFs hGs hd) fnil ?_
  refine fnq_flat (results_one (by rw [rdRes_tmp];simp only [go_sem,hl];first | done | rfl)) (by first | exact Nat.le_refl _ | omega | (simp only [lo_push,lo_setVar];omega)) (by rfl)
theorem c41 (F G : PV) (l m : List (Int × Int)) (hF : SlOf 2 enc2 F l) (hG : SlOf 2 enc2 G m) (hN : l.length < 1000000) (st : St) : Cl EE (.func 41 [] []) [F,G] st (.ret (.bool (l == m))) st := by
 refine cl_fn (pr41 · _ _) fn41 2 rfl (by decide) (fun tm hl hg => ?_);have h0 : tg tm 0 = F := (hg 0 (by decide));have h1 : tg tm 1 = G := (hg 1 (by decide));clear hg
 refine go (bw3 hl h0 h1) (bw (c88 F G l m hF hG hN) fnil) ?_
 refine fnq_flat (results_one (by rw [rdRes_tmp];simp only [go_sem,hl];first | done | rfl)) (by first | exact Nat.le_refl _ | omega | (simp only [lo_push,lo_setVar];omega)) (by rfl)
end Go.Den.Ch
end

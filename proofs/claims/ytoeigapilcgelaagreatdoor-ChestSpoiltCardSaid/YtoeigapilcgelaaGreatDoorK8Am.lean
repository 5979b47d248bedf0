/- Part of the proofs of laws of the package chest. Texts: ChD, ChE, ChF, ChG, ChH. -/
import Derived.Test.YtoeigapilcgelaaGreatDoorK8Al
import Derived.Test.YtoeigapilcgelaaGreatDoorK8Ai
set_option linter.unusedSimpArgs false
set_option linter.unusedVariables false
section
namespace Go.Den.Ch
structure OkL (c : CL) : Prop where
 len : c.figs.length ≤ 6
 figs : ∀ f ∈ c.figs,figB f = true
 d0 : 0 ≤ c.depth
 d1 : c.depth ≤ 5
structure OkP (c : CL) (p : List Int) : Prop where
 len : p.length = c.figs.length
 rng : ∀ x ∈ p,0 ≤ x ∧ x < c.depth
theorem OkL.of {c : CL} (h : listB c = true) : OkL c := by
 simp only [listB,inB,Bool.and_eq_true,decide_eq_true_eq,List.all_eq_true] at h
 exact ⟨h.2.2.1,h.2.2.2,by omega,by omega⟩
theorem OkP.of {c : CL} {p : List Int} (h : packB c p = true) : OkP c p := by
 simp only [packB,inB,Bool.and_eq_true,decide_eq_true_eq,List.all_eq_true] at h
 exact ⟨h.1,fun x hx => ⟨(h.2 x hx).1,by have := (h.2 x hx).2;omega⟩⟩
theorem layerL_mem : ∀ {fs : List Fig} {p : List Int} {n x : Int},x ∈ layerL fs p n → ∃ f ∈ fs,x = f.size
 | [],p,n,x,h => by simp [layerL] at h
 | f :: fs,[],n,x,h => by simp [layerL] at h
 | f :: fs,y :: p,n,x,h => by
  simp only [layerL] at h
  split at h
  ·simp only [List.mem_cons] at h
   rcases h with rfl | h
   ·exact ⟨f,by simp,rfl⟩
   ·obtain ⟨g,hg,e⟩ := layerL_mem h;exact ⟨g,by simp [hg],e⟩
  ·obtain ⟨g,hg,e⟩ := layerL_mem h;exact ⟨g,by simp [hg],e⟩
theorem sum_bound {l : List Int} {b : Int} (hb : 0 ≤ b) (h : ∀ x ∈ l,0 ≤ x ∧ x ≤ b) : 0 ≤ l.sum ∧ l.sum ≤ b * l.length := by
 induction l with
 | nil => simp
 | cons x l ih =>
  have h1 := ih (fun y hy => h y (by simp [hy]))
  have h2 := h x (by simp)
  simp only [List.sum_cons,List.length_cons]
  have : b * ((l.length + 1 : Nat) : Int) = b * l.length + b := by rw [Int.natCast_add,Int.mul_add];simp
  omega
theorem sum_inI {l : List Int} (hl : l.length ≤ 1000) (h : ∀ x ∈ l,0 ≤ x ∧ x ≤ 1000) (k : Nat) : inI (l.take k).sum := by
 have h1 := sum_bound (l := l.take k) (b := 1000) (by omega) (fun x hx => h x (List.mem_of_mem_take hx))
 have h2 : (l.take k).length ≤ 1000 := by simp;omega
 unfold inI
 omega
theorem OkL.size {c : CL} (h : OkL c) {f : Fig} (hf : f ∈ c.figs) : 1 ≤ f.size ∧ f.size ≤ 9 := by
 have := h.figs f hf
 simp only [figB,inB,Bool.and_eq_true,decide_eq_true_eq] at this
 omega
theorem OkL.layer {c : CL} (h : OkL c) (p : List Int) (n : Int) : (layerL c.figs p n).length ≤ 6 ∧ ∀ x ∈ layerL c.figs p n,1 ≤ x ∧ x ≤ 9 := by
 refine ⟨layerL_len _ _ _ _ h.len,fun x hx => ?_⟩
 obtain ⟨f,hf,rfl⟩ := layerL_mem hx
 exact h.size hf
theorem c110' {c : CL} (h : OkL c) (p : List Int) (n : Int) (v : PV) (hv : SlOf 1 encI v (layerL c.figs p n)) (st : St) : Cl EE (.func 110 [] []) [v] st (.ret (iv (layerL c.figs p n).sum)) st :=
 c110 v _ hv (by have := (h.layer p n).1;omega) (sum_inI (by have := (h.layer p n).1;omega) (fun x hx => by have := (h.layer p n).2 x hx;omega)) st
set_option maxHeartbeats 4000000 in
theorem c128 (c : CL) (F P : PV) (p : List Int) (hF : SlOf 3 encF F c.figs) (hP : SlOf 1 encI P p) (hc : OkL c) (hp0 : OkP c p) (st : St) : Cl EE (.func 128 [] []) [paPV c F P] st (.ret (.tuple [fltO (fault c p),.bool (fault c p).isSome])) st := by
 have hs := hF.slen
 have hFc := hF.cells
 have hPc := hP.cells
 have hlen := hc.len
 have hpl := hp0.len
 obtain ⟨d,hd⟩ : ∃ d : Nat,c.depth = d := ⟨c.depth.toNat,by have := hc.d0;omega⟩
 have hd5 : d ≤ 5 := by have := hc.d1;omega
 refine cl_fn (pr128 · _ _) fn128 1 rfl (by decide) (fun tm hl hg => ?_);have h0 : tg tm 0 = paPV c F P := (hg 0 (by decide));clear hg
 refine go (bw hl h0) fnil ?_
 refine wp_range d [] (fun i vs st' => (∀ k,k < i → ¬ (layerL c.figs p (k : Nat)).sum > c.room) ∧ st.heap.length ≤ st'.lo ∧ st'.lo ≤ st'.heap.length ∧ hp st' st.heap.length = some (.var [iv c.room,iv c.depth,F,P]) ∧ hp st' (st.heap.length + 1) = some (.var [iv 0,iv 0,iv 0])) (by omega) (by simp only [go_sem,hl]) (by simp only [go_sem,hl,hd]) (by simp only [go_sem,hl]) (by decide) ⟨fun k hk => absurd hk (by omega),by simp [lo_push],by simp [lo_push,len_push];omega,by simp only [go_sem,hl],by simp only [go_sem,hl]⟩ ?_ ?_
 ·rintro i hi tm1 st1 ⟨hno,hlo,hwf,hb,hr⟩ hS hia
  have hl1 : tm1.length = 40 := (by rw [hS.1];simp only [put_len,hl]);have i1 : tg tm1 1 = .ptr st.heap.length 0 := (by rw [hS.2 1 (by decide)];simp only [go_sem,hl,h0]);have i2 : tg tm1 2 = .ptr (st.heap.length + 1) 0 := (by rw [hS.2 2 (by decide)];simp only [go_sem,hl,h0]);clear hS
  have lb := hp_lt hb
  have lr := hp_lt hr
  refine go (bw15 hl1 i1 i2 hia hb hr hs (neL lb) (neA lb) (ltL lb) (ltA lb) (neL lr) (neA lr) (ltL lr) (ltA lr)) fnil ?_
  refine wopsD_callS (by first | omega | (simp only [lo_push,lo_setVar,len_push,len_setVar];omega)) rfl rfl (by simp only [go_sem,hl1];first | done | rfl) (fun st1 he => by simp only [go_sem,hl1];exact c111 c F P p i hF hP (by omega) hpl _) ?_
  intro v st2 hR
  have hb2 := hR.hp hb
  have hr2 := hR.hp hr
  have hlo2 := hR.lo
  have hln2 := hR.len
  have lb2 := hp_lt hb2
  have lr2 := hp_lt hr2
  have hsl := slI hR
  by_cases hf : (layerL c.figs p (i : Nat)).sum > c.room
  ·have hdd : decide ((layerL c.figs p (i : Nat)).sum > c.room) = true := by simp [hf]
   have hft : fault c p = some ⟨1,i,0⟩ := by
    have : fullL c p = some ⟨1,i,0⟩ := by
     refine range_some (by omega) (fun k hk => if_neg (hno k hk)) (if_pos hf)
    simp [fault,this]
   rw [hft]
   refine go (bw15 hl1 i1 i2 hia hb2 hr2 (neL lb2) (neA lb2) (ltL lb2) (ltA lb2) (neL lr2) (neA lr2) (ltL lr2) (ltA lr2) hdd) (bw (c110' hc p i v hsl) fnil) ?_
   refine fnq_tuple (results_two (v := fltPV ⟨1,i,0⟩) (u := .bool true) ?_ ?_) (by simp only [lo_push,lo_setVar];omega) (by rfl)
   ·rw [rdRes_hp (l := st.heap.length + 1) (off := 0) (by simp only [go_sem,hl1,i2])]
    simp only [go_sem,hl1,i1,i2,hia,hb2,hr2,neL lb2,neA lb2,ltL lb2,ltA lb2,neL lr2,neA lr2,ltL lr2,ltA lr2]
   ·rw [rdRes_tmp];simp only [go_sem,hl1]
  ·have hdd : decide ((layerL c.figs p (i : Nat)).sum > c.room) = false := by simp [hf]
   refine go (bw15 hl1 i1 i2 hia hb2 hr2 (neL lb2) (neA lb2) (ltL lb2) (ltA lb2) (neL lr2) (neA lr2) (ltL lr2) (ltA lr2) hdd) (bw (c110' hc p i v hsl) fnil) ?_
   refine ⟨fun k hk => ?_,by omega,by omega,hb2,hr2⟩
   by_cases hki : k = i
   ·subst hki;exact hf
   ·exact hno k (by omega)
 ·rintro tm1 st1 ⟨hno,hlo,hwf,hb,hr⟩ hS
  have hl1 : tm1.length = 40 := (by rw [hS.1];simp only [put_len,hl]);have i1 : tg tm1 1 = .ptr st.heap.length 0 := (by rw [hS.2 1 (by decide)];simp only [go_sem,hl,h0]);have i2 : tg tm1 2 = .ptr (st.heap.length + 1) 0 := (by rw [hS.2 2 (by decide)];simp only [go_sem,hl,h0]);clear hS
  have hfull : fullL c p = none := range_none (fun k hk => if_neg (hno k (by omega)))
  have lb := hp_lt hb
  have lr := hp_lt hr
  obtain ⟨L,hL⟩ : ∃ L : Nat,layersL p = L := ⟨(layersL p).toNat,by have := layersL_nonneg p;omega⟩
  have hL5 : L ≤ 5 := by
   have := layersL_bound (p := p) (d := c.depth) hc.d0 (fun x hx => (hp0.rng x hx).2)
   omega
  have cl := c84 c F P p hFc hP (by omega) (fun x hx => by have := hp0.rng x hx;unfold inI;omega)
  rw [hL] at cl
  refine go (bw14 hl1 i1 i2 hb hr hs (neL lb) (neA lb) (ltL lb) (ltA lb) (neL lr) (neA lr) (ltL lr) (ltA lr)) (bw cl fnil) ?_
  refine wp_range L [] (fun i vs st' => (∀ k,k < i → ¬ (layerL c.figs p (k : Nat)).length = 0) ∧ st.heap.length ≤ st'.lo ∧ st'.lo ≤ st'.heap.length ∧ hp st' st.heap.length = some (.var [iv c.room,iv c.depth,F,P]) ∧ hp st' (st.heap.length + 1) = some (.var [iv 0,iv 0,iv 0])) (by omega) (by simp only [go_sem,hl1]) (by simp only [go_sem,hl1]) (by simp only [go_sem,hl1]) (by decide) ⟨fun k hk => absurd hk (by omega),hlo,hwf,hb,hr⟩ ?_ ?_
  ·clear hb hr hlo hwf
   rintro i hi tm2 st2 ⟨hno2,hlo,hwf,hb,hr⟩ hS hia
   have hl2 : tm2.length = 40 := (by rw [hS.1];simp only [put_len,hl1]);have j1 : tg tm2 1 = .ptr st.heap.length 0 := (by rw [hS.2 1 (by decide)];simp only [go_sem,hl1,i1,i2]);have j2 : tg tm2 2 = .ptr (st.heap.length + 1) 0 := (by rw [hS.2 2 (by decide)];simp only [go_sem,hl1,i1,i2]);clear hS
   have lb := hp_lt hb
   have lr := hp_lt hr
   refine go (bw15 hl2 j1 j2 hia hb hr hs (neL lb) (neA lb) (ltL lb) (ltA lb) (neL lr) (neA lr) (ltL lr) (ltA lr)) fnil ?_
   refine wops_callR rfl rfl (by simp only [go_sem,hl2];first | done | rfl) (by simp only [go_sem,hl2];exact c111 c F P p i hF hP (by omega) hpl _) ?_
   intro v st3 hR
   have hb2 := hR.hp hb
   have hr2 := hR.hp hr
   have hlo2 := hR.lo
   have hln2 := hR.len
   have lb2 := hp_lt hb2
   have lr2 := hp_lt hr2
   have hsl := (slI hR).slen
   by_cases hf : (layerL c.figs p (i : Nat)).length = 0
   ·have hdd : (((layerL c.figs p (i : Nat)).length : Int) == 0) = true := by simp [hf]
    have hft : fault c p = some ⟨2,i,0⟩ := by
     have : gapL c p = some ⟨2,i,0⟩ := by
      refine range_some (by omega) (fun k hk => if_neg (hno2 k hk)) (if_pos hf)
     simp [fault,hfull,this]
    rw [hft]
    refine go (bw16 hl2 j1 j2 hia hb2 hr2 (neL lb2) (neA lb2) (ltL lb2) (ltA lb2) (neL lr2) (neA lr2) (ltL lr2) (ltA lr2) hsl hdd) fnil ?_
    refine fnq_tuple (results_two (v := fltPV ⟨2,i,0⟩) (u := .bool true) ?_ ?_) (by simp only [lo_push,lo_setVar];omega) (by rfl)
    ·rw [rdRes_hp (l := st.heap.length + 1) (off := 0) (by simp only [go_sem,hl2,j2])]
     simp only [go_sem,hl2,j1,j2,hia,hb2,hr2,neL lb2,neA lb2,ltL lb2,ltA lb2,neL lr2,neA lr2,ltL lr2,ltA lr2]
    ·rw [rdRes_tmp];simp only [go_sem,hl2]
   ·have hdd : (((layerL c.figs p (i : Nat)).length : Int) == 0) = false := by simp;intro e;apply hf;simp [e]
    refine go (bw16 hl2 j1 j2 hia hb2 hr2 (neL lb2) (neA lb2) (ltL lb2) (ltA lb2) (neL lr2) (neA lr2) (ltL lr2) (ltA lr2) hsl hdd) fnil ?_
    refine ⟨fun k hk => ?_,by omega,by omega,hb2,hr2⟩
    by_cases hki : k = i
    ·subst hki;exact hf
    ·exact hno2 k (by omega)
  ·clear hb hr hlo hwf
   rintro tm2 st2 ⟨hno2,hlo,hwf,hb,hr⟩ hS
   have hl2 : tm2.length = 40 := (by rw [hS.1];simp only [put_len,hl1]);have j1 : tg tm2 1 = .ptr st.heap.length 0 := (by rw [hS.2 1 (by decide)];simp only [go_sem,hl1,i1,i2]);have j2 : tg tm2 2 = .ptr (st.heap.length + 1) 0 := (by rw [hS.2 2 (by decide)];simp only [go_sem,hl1,i1,i2]);clear hS
   have hgap : gapL c p = none := range_none (fun k hk => if_neg (hno2 k (by omega)))
   have lb := hp_lt hb
   have lr := hp_lt hr
   have hft : fault c p = disorder c p := by simp [fault,hfull,hgap]
   rw [hft]
   have hflt : ∃ a b e,fltO (disorder c p) = .agg [iv a,iv b,iv e] := by
    cases disorder c p with
    | none => exact ⟨0,0,0,rfl⟩
    | some f => exact ⟨f.rule,f.one,f.other,rfl⟩
   obtain ⟨ra,rb,re,hflt⟩ := hflt
   have c1 := c131 c F P p hF hP (by omega) hpl hc.figs
   rw [hflt] at c1 ⊢
   refine go (bw14 hl2 j1 j2 hb hr hs (neL lb) (neA lb) (ltL lb) (ltA lb) (neL lr) (neA lr) (ltL lr) (ltA lr)) (bw c1 fnil) ?_
   refine fnq_tuple (results_two (v := .agg [iv ra,iv rb,iv re]) (u := .bool (disorder c p).isSome) ?_ ?_) (by simp only [lo_push,lo_setVar];omega) (by rfl)
   ·rw [rdRes_hp (l := st.heap.length + 1) (off := 0) (by simp only [go_sem,hl2,j2])]
    simp only [go_sem,hl2,j1,j2,hb,hr,neL lb,neA lb,ltL lb,ltA lb,neL lr,neA lr,ltL lr,ltA lr]
   ·rw [rdRes_tmp];simp only [go_sem,hl2]
end Go.Den.Ch
end
section
namespace Go.Den.Ch
theorem fltO_cells (o : Option Flt) : ∃ a b e,fltO o = .agg [iv a,iv b,iv e] := by
 cases o with
 | none => exact ⟨0,0,0,rfl⟩
 | some f => exact ⟨f.rule,f.one,f.other,rfl⟩
theorem c90 (c : CL) (F P : PV) (p : List Int) (hF : SlOf 3 encF F c.figs) (hP : SlOf 1 encI P p) (hc : OkL c) (hp0 : OkP c p) (st : St) : Cl EE (.func 90 [] []) [paPV c F P] st (.ret (.bool (fault c p).isNone)) st := by
 have hFc := hF.cells
 have hPc := hP.cells
 obtain ⟨a,b,e,he⟩ := fltO_cells (fault c p)
 have c1 := c128 c F P p hF hP hc hp0
 rw [he] at c1
 have e2 : (fault c p).isNone = !(fault c p).isSome := by cases fault c p <;> rfl
 rw [e2]
 refine cl_fn (pr90 · _ _) fn90 1 rfl (by decide) (fun tm hl hg => ?_);have h0 : tg tm 0 = paPV c F P := (hg 0 (by decide));clear hg
 refine go (bw hl h0) (bw c1 fnil) ?_
 refine fnq_flat (results_one (by rw [rdRes_tmp];simp only [go_sem,hl];first | done | rfl)) (by first | exact Nat.le_refl _ | omega | (simp only [lo_push,lo_setVar];omega)) (by rfl)
theorem c80_ok (c : CL) (F P : PV) (p : List Int) (hF : SlOf 3 encF F c.figs) (hP : SlOf 1 encI P p) (hc : OkL c) (hp0 : OkP c p) (h : fault c p = none) (st : St) : Cl EE (.func 80 [paPV c F P] []) [] st (.ret (.tuple [])) st := by
 have hFc := hF.cells
 have hPc := hP.cells
 have c1 := c128 c F P p hF hP hc hp0
 rw [h] at c1
 refine cl_fn (pr80 · _ _) fn80 1 rfl (by decide) (fun tm hl hg => ?_);have h0 : tg tm 0 = paPV c F P := (hg 0 (by decide));clear hg
 refine go (bw7 hl h0 fltO_none fltO_some zeroF_e @isS @isN) (bw c1 fnil) ?_
 exact fnq_tuple' results_nil (by simp only [lo_push,lo_setVar];omega) (by rfl)
theorem c80_no (c : CL) (F P : PV) (p : List Int) (hF : SlOf 3 encF F c.figs) (hP : SlOf 1 encI P p) (hc : OkL c) (hp0 : OkP c p) (f : Flt) (h : fault c p = some f) (st : St) : ClX EE (.func 80 [paPV c F P] []) [] st (.iface 133 (fltPV f)) (fun st' => Fr st.heap.length st st') := by
 have hFc := hF.cells
 have hPc := hP.cells
 have c1 := c128 c F P p hF hP hc hp0
 rw [h] at c1
 refine clx_fn (pr80 · _ _) fn80 1 rfl (by decide) (fun tm hl hg => ?_)
 have h0 : tg tm 0 = paPV c F P := hg 0 (by decide)
 clear hg
 refine go (bw6 hl h0 fltO_none fltO_some @isS @isN) (bw c1 fnil) ?_
 refine fnx_panic ⟨by simp only [len_push,len_setVar];omega,by simp only [lo_push,lo_setVar,len_push];omega,fun l hl => ?_,by simp only [lo_push,lo_setVar,len_push];omega⟩
 have h1 : (l = st.heap.length) = False := by simp;omega
 have h2 : ∀ k,(l = st.heap.length + k) = False := by simp;omega
 have : ∀ st1 : St,hp { heap := st1.heap,lo := min st.lo st1.lo } l = hp st1 l := fun _ => rfl
 rw [this]
 simp only [go_sem,h1,h2]
 rfl
theorem c79 {dg : Nat} {da dc : List PV} {st st' : St} {r : CR} {v : PV} (h : Cl EE (.func dg da dc) [] st r st') (hr : ∀ rec : Rec,rec.call (.func dg da dc) [] st = some (r,st') → tryR rec (.func dg da dc) st = some (some (.ret v,st'))) : Cl EE (.func 79 [] []) [.func dg da dc] st (.ret v) st' := by
 obtain ⟨N,hN⟩ := h
 refine ⟨N + 1,fun n hn => ?_⟩
 obtain ⟨m,rfl⟩ : ∃ m,n = m + 1 := ⟨n - 1,by omega⟩
 have h1 := hr (run EE m) (hN m (by omega))
 show stepCall EE (run EE m) (.func 79 [] []) [.func dg da dc] st = _
 have h2 : EE.prim 79 (run EE m) ([] ++ [.func dg da dc] ++ []) st = tryR (run EE m) (.func dg da dc) st := rfl
 simp only [stepCall,enter,h2,h1]
theorem c79_ret {dg : Nat} {da dc : List PV} {st st' : St} {v : PV} (h : Cl EE (.func dg da dc) [] st (.ret v) st') : Cl EE (.func 79 [] []) [.func dg da dc] st (.ret (.tuple [zeroF,iv 0])) st' :=
 c79 h (fun rec hr => by simp only [tryR,hr])
theorem c79_found {dg : Nat} {da dc : List PV} {st st' : St} {f : Flt} (h : Cl EE (.func dg da dc) [] st (.panic (.iface 133 (fltPV f))) st') : Cl EE (.func 79 [] []) [.func dg da dc] st (.ret (.tuple [fltPV f,iv 7])) st' :=
 c79 h (fun rec hr => by simp only [tryR,hr])
theorem c79_none {dg : Nat} {da dc : List PV} {st st' : St} {s : ByteArray} (h : Cl EE (.func dg da dc) [] st (.panic (.iface 135 (.agg [.str s]))) st') : Cl EE (.func 79 [] []) [.func dg da dc] st (.ret (.tuple [zeroF,iv 4])) st' :=
 c79 h (fun rec hr => by simp only [tryR,hr])
def wrongR (c : CL) (p : List Int) : Option Flt × Int := if listB c && packB c p then (match fault c p with | some f => (some f,0) | none => (none,5)) else (none,2)
set_option maxHeartbeats 1000000 in
theorem c27 (c : CL) (F P : PV) (p : List Int) (hF : SlOf 3 encF F c.figs) (hP : SlOf 1 encI P p) (st : St) : Cl EE (.func 27 [] []) [clPV c F,P] st (.ret (.tuple [fltO (wrongR c p).1,iv (wrongR c p).2])) st := by
 have hFc := hF.cells
 have hPc := hP.cells
 refine cl_fn (pr27 · _ _) fn27 2 rfl (by decide) (fun tm hl hg => ?_);have h0 : tg tm 0 = clPV c F := (hg 0 (by decide));have h1 : tg tm 1 = P := (hg 1 (by decide));clear hg
 cases hA : listB c
 ·have e : wrongR c p = (none,2) := by simp [wrongR,hA]
  rw [e]
  refine go (bw4 hl h0 h1 hA) (bw (c77 c F hF) fnil) ?_
  refine fnq_tuple (results_two (v := zeroF) (u := iv 2) ?_ ?_) (by simp only [lo_push,lo_setVar];omega) (by rfl)
  ·rw [rdRes_hp (l := st.heap.length + 1) (off := 0) (by simp only [go_sem,hl])]
   simp only [go_sem,hl];rfl
  ·rw [rdRes_tmp];simp only [go_sem,hl]
 ·cases hB : packB c p
  ·have e : wrongR c p = (none,2) := by simp [wrongR,hA,hB]
   rw [e]
   refine go (bw5 hl h0 h1 hA hB) (bw3 (c77 c F hF) (c78 c F P p hF hP hA) fnil) ?_
   refine fnq_tuple (results_two (v := zeroF) (u := iv 2) ?_ ?_) (by simp only [lo_push,lo_setVar];omega) (by rfl)
   ·rw [rdRes_hp (l := st.heap.length + 1) (off := 0) (by simp only [go_sem,hl])]
    simp only [go_sem,hl];rfl
   ·rw [rdRes_tmp];simp only [go_sem,hl]
  ·have hc := OkL.of hA
   have hp0 := OkP.of hB
   cases hf : fault c p with
   | none =>
    have e : wrongR c p = (none,5) := by simp [wrongR,hA,hB,hf]
    rw [e]
    refine go (bw7 hl h0 h1 hA hB hPc zeroF_e) (bw4 (c77 c F hF) (c78 c F P p hF hP hA) (fun st => c79_ret (c80_ok c F P p hF hP hc hp0 hf st)) fnil) ?_
    refine fnq_tuple (results_two (v := zeroF) (u := iv 5) ?_ ?_) (by simp only [lo_push,lo_setVar];omega) (by rfl)
    ·rw [rdRes_hp (l := st.heap.length + 1) (off := 0) (by simp only [go_sem,hl])]
     simp only [go_sem,hl];rfl
    ·rw [rdRes_tmp];simp only [go_sem,hl]
   | some f =>
    have e : wrongR c p = (some f,0) := by simp [wrongR,hA,hB,hf]
    rw [e]
    refine go (bw6 hl h0 h1 hA hB hPc) (bw3 (c77 c F hF) (c78 c F P p hF hP hA) fnil) ?_
    obtain ⟨st2,hx,hFr⟩ := c80_no c F P p hF hP hc hp0 f hf ((({ heap := st.heap,lo := st.heap.length } : St).push (.var [iv c.room,iv c.depth,F])).push (.var [iv 0,iv 0,iv 0]))
    have f1 := hFr.len
    have f2 := hFr.lo
    simp only [len_push,lo_push] at f1 f2
    have h4 : hp st2 (st.heap.length + 1) = some (.var [iv 0,iv 0,iv 0]) := by
     rw [hFr.old _ (by simp only [len_push];omega)];simp only [go_sem]
    have l4 := hp_lt h4
    refine go (bw6 hl h4 (neL l4) (neA l4) (ltL l4) (ltA l4)) (bw (c79_found hx) fnil) ?_
    refine fnq_tuple (results_two (v := fltPV f) (u := iv 0) ?_ ?_) (by simp only [lo_push,lo_setVar];omega) (by rfl)
    ·rw [rdRes_hp (l := st.heap.length + 1) (off := 0) (by simp only [go_sem,hl])]
     simp only [go_sem,hl,h4,neL l4,neA l4,ltL l4,ltA l4]
    ·rw [rdRes_tmp];simp only [go_sem,hl]
theorem c109 (F : PV) (l : List Int) (hF : SlOf 1 encI F l) (hN : l.length < 1000) (st : St) : ClR EE (.func 109 [] []) [F] st (RetS st 1 l.length (l.flatMap encI)) := by
 have h := hF.sl
 refine clr_fn (pr109 · _ _) fn109 1 rfl (by decide) (fun tm hl hg => ?_);have h0 : tg tm 0 = F := (hg 0 (by decide));clear hg
 cases F with
 | nilslice =>
  simp only [PV.sl,Option.some.injEq,Prod.mk.injEq] at h
  have : l = [] := by simpa using h.1.symm
  subst this
  refine go (bw hl h0) fnil ?_
  exact fnr_ret (results_one (v := .nilslice) (by rw [rdRes_tmp];simp only [go_sem,hl])) (OwnS.nil.finish (by simp) (fun m c hc => by cases hc))
 | slice o n cs =>
  simp only [PV.sl,Option.some.injEq,Prod.mk.injEq] at h
  obtain ⟨rfl,rfl⟩ := h
  refine go (bw hl h0) fnil ?_
  have hO : OwnS st.heap.length ((⟨st.heap,st.heap.length⟩ : St).push (.tag true)) 1 (.slice (.tag st.heap.length 1) 0 []) 0 [] := ⟨by simp,.inr ⟨_,rfl,Nat.le_refl _,by rw [hp_push,if_pos rfl]⟩⟩
  refine wops_append rfl rfl (by simp only [go_sem,hl];first | done | rfl) (by simp only [go_sem,hl,h0];first | done | rfl) hO rfl (by simp only [len_push];omega) (by rw [flatMap_len (sz := 1) (fun _ _ => rfl)]) (by simp [encI_map,PV.isCell]) (by simp only [maxList];omega) ?_
  intro v' st2 hO' hFr hk
  refine go hl fnil ?_
  refine fnr_ret (results_one (v := v') (by rw [rdRes_tmp];simp only [go_sem,hl])) (OwnS.finish (n := l.length) (cs := l.flatMap encI) ?_ ?_ (fun m c hc => encI_low l m c hc))
  ·have : List.map PV.share (List.flatMap encI l) = List.flatMap encI l := by simp [encI_map,PV.share]
   simpa [this] using hO'
  ·have := hFr.lo
   simp only [lo_push] at this
   omega
 | _ => simp [PV.sl] at h
end Go.Den.Ch
end
section
namespace Go.Den.Ch
def searchL (c : CL) : Nat → List Int → List (List Int)
 | 0,now => if (fault c now).isNone then [now] else []
 | k + 1,now => (List.range c.depth.toNat).flatMap fun (n : Nat) => if (disorder { c with figs := c.figs.take (now.length + 1) } (now ++ [(n : Int)])).isSome then [] else searchL c k (now ++ [(n : Int)])
def rightsL (c : CL) : List (List Int) := searchL c c.figs.length []
def RepP (c : CL) (F : PV) (v : PV) (p : List Int) : Prop := ∃ P,v = paPV c F P ∧ SlOf 1 encI P p
theorem prefix_drop {α : Type} {a b c l : List α} (h : a ++ (b ++ c) <+: l) : b <+: l.drop a.length := by
 obtain ⟨t,rfl⟩ := h
 exact ⟨c ++ t,by simp [List.append_assoc]⟩
theorem flatMap_range_split {α : Type} (g : Nat → List α) {n d : Nat} (h : n < d) : ∃ r,(List.range d).flatMap g = (List.range n).flatMap g ++ (g n ++ r) := by
 obtain ⟨e,rfl⟩ : ∃ e,d = n + 1 + e := ⟨d - (n + 1),by omega⟩
 rw [List.range_add,List.flatMap_append,List.range_succ,List.flatMap_append,List.append_assoc]
 exact ⟨_,by rw [List.flatMap_singleton]⟩
theorem flatMap_range_succ {α : Type} (g : Nat → List α) (n : Nat) : ((List.range (n + 1)).flatMap g).length = ((List.range n).flatMap g).length + (g n).length := by
 rw [List.range_succ,List.flatMap_append];simp
def Left (W : Nat → Prop) (e w : Nat) (I : Nat → List HObj → Prop) (S : List HObj → Prop) (i n : Nat) (st : St) (r : Bool) (st' : St) : Prop :=
 (r = true → I (i + n) st'.heap) ∧ (r = false → S st'.heap) ∧ KeepV W st.heap st'.heap ∧ e ≤ st'.lo ∧ st'.lo ≤ st'.heap.length ∧ ((n = 0 ∧ r = true ∧ st' = st) ∨ st'.lo ≤ w)
theorem left_fin {W : Nat → Prop} {e w : Nat} {I : Nat → List HObj → Prop} {S : List HObj → Prop} {i n : Nat} {st st1 : St} {r : Bool} (h0 : I i st.heap) (he : e ≤ st.lo) (hwf : st.lo ≤ st.heap.length) (hw : w < st.heap.length) (hk : KeepV W st.heap st1.heap) (he1 : e ≤ st1.lo)
  (h : (st.heap.length ≤ st1.lo ∧ n = 0 ∧ r = true) ∨ (st1.lo ≤ w ∧ (r = true → I (i + n) st1.heap) ∧ (r = false → S st1.heap))) :
  ∃ r',(finishCall st st1 (.bool r)).1 = .bool r' ∧ Left W e w I S i n st r' (finishCall st st1 (.bool r)).2 := by
 rcases h with ⟨h1,rfl,rfl⟩ | ⟨h1,h2,h3⟩
 ·rw [finish_flat h1 rfl]
  exact ⟨true,rfl,(fun _ => h0),(fun h => by cases h),.refl _ _,he,hwf,.inl ⟨rfl,rfl,rfl⟩⟩
 ·unfold finishCall
  rw [if_neg (by omega)]
  exact ⟨r,rfl,h2,h3,hk,by show e ≤ min st.lo st1.lo;omega,by show min st.lo st1.lo ≤ st1.heap.length;have := hk.1;omega,.inr (by show min st.lo st1.lo ≤ w;omega)⟩
section
variable {c : CL} {F y : PV} {b mY mS e w : Nat} {X : List (List Int)} {W : Nat → Prop} {I : Nat → List HObj → Prop} {S : List HObj → Prop}
set_option maxHeartbeats 4000000 in
theorem c130 (hF : SlOf 3 encF F c.figs) (hc : OkL c) (Y : Yld EE y X (RepP c F) W e w I S) (hWb : ¬ W b) (hWy : ¬ W mY) (hWs : ¬ W mS) (hWw : ∀ l,W l → l ≤ w) :
  ∀ (k : Nat) (now : List Int) (v : PV) (st : St) (i : Nat),SlOf 1 encI v now → now.length + k = c.figs.length → (∀ x ∈ now,0 ≤ x ∧ x < c.depth) → searchL c k now <+: X.drop i → I i st.heap → e ≤ st.lo → st.lo ≤ st.heap.length → w < st.heap.length →
   hp st b = some (.var [iv c.room,iv c.depth,F]) → hp st mY = some (.var [y]) → hp st mS = some (.var [.func 130 [] [.ptr b 0,.ptr mY 0,.ptr mS 0]]) →
   ClR EE (.func 130 [] [.ptr b 0,.ptr mY 0,.ptr mS 0]) [v] st (fun u st' => ∃ r,u = .bool r ∧ Left W e w I S i (searchL c k now).length st r st')
 | 0,now,v,st,i,hv,hlen,hrng,hX,hI,helo,hwf,hw,hb,hy,hs => by
  have hFc := hF.cells
  have hFi := hF.isCell
  have hvc := hv.cells
  have hvi := hv.isCell
  have hFs := hF.slen
  have hvs := hv.slen
  have hp0 : OkP c now := ⟨by omega,hrng⟩
  have lb := hp_lt hb
  have ly := hp_lt hy
  have hb' : hp { heap := st.heap,lo := st.heap.length } b = some (.var [iv c.room,iv c.depth,F]) := hb
  have hy' : hp { heap := st.heap,lo := st.heap.length } mY = some (.var [y]) := hy
  have hbe : ((now.length : Int) == (c.figs.length : Int)) = true := by simp;omega
  refine clr_fn (pr130 · _ _) fn130 4 rfl (by decide) (fun tm hl hg => ?_);have h0 : tg tm 0 = v := (hg 0 (by decide));have h1 : tg tm 1 = .ptr b 0 := (hg 1 (by decide));have h2 : tg tm 2 = .ptr mY 0 := (hg 2 (by decide));have h3 : tg tm 3 = .ptr mS 0 := (hg 3 (by decide));clear hg
  cases hf : (fault c now).isNone
  ·refine go (bw23 hl h0 h1 h2 h3 hb' hy' hFc hFi hvc hvi hFs hvs (neL lb) (neA lb) (ltL lb) (ltA lb) (neL ly) (neA ly) (ltL ly) (ltA ly) hbe hf) (bw (c90 c F v now hF hv hc hp0) fnil) ?_
   refine fnr_ret (v := .bool true) (results_one (by rw [rdRes_tmp];simp only [go_sem,hl])) ?_
   refine left_fin hI helo hwf hw (HExt.keep W ?_) (by simp only [lo_push,lo_setVar];omega) (.inl ⟨by simp only [lo_push,lo_setVar];omega,by simp [searchL,hf],rfl⟩)
   exact (show HExt ({ heap := st.heap,lo := st.heap.length } : St).heap _ from (((Fr.refl st.heap.length { heap := st.heap,lo := st.heap.length }).push (Nat.le_refl _)).setVar (Nat.le_refl _)).hext)
  ·refine go (bw23 hl h0 h1 h2 h3 hb' hy' hFc hFi hvc hvi hFs hvs (neL lb) (neA lb) (ltL lb) (ltA lb) (neL ly) (neA ly) (ltL ly) (ltA ly) hbe hf) (bw (c90 c F v now hF hv hc hp0) fnil) ?_
   have hx0 : HExt st.heap (setVar (({ heap := st.heap,lo := st.heap.length } : St).push (.var [iv 0,iv 0,.nilslice,.nilslice])) st.heap.length (.var [iv c.room,iv c.depth,F,v])).heap :=
    (show HExt ({ heap := st.heap,lo := st.heap.length } : St).heap _ from (((Fr.refl st.heap.length { heap := st.heap,lo := st.heap.length }).push (Nat.le_refl _)).setVar (Nat.le_refl _)).hext)
   have hX1 : searchL c 0 now = [now] := by simp [searchL,hf]
   rw [hX1] at hX ⊢
   obtain ⟨t,ht⟩ := hX
   have hi : i < X.length := by
    rcases Nat.lt_or_ge i X.length with h | h
    ·exact h
    ·rw [List.drop_eq_nil_of_le h] at ht;cases ht
   have hXi : X[i] = now := by
    rw [List.drop_eq_getElem_cons hi] at ht
    simp only [List.singleton_append,List.cons.injEq] at ht
    exact ht.1.symm
   obtain ⟨r,st',hcl,hk,he',hw',hT,hS'⟩ := Y.step i hi (paPV c F v) (setVar (({ heap := st.heap,lo := st.heap.length } : St).push (.var [iv 0,iv 0,.nilslice,.nilslice])) st.heap.length (.var [iv c.room,iv c.depth,F,v])) (by rw [hXi];exact ⟨v,rfl,hv⟩) (Y.stab _ _ _ hI hx0) (by simp only [lo_setVar,lo_push];omega) (by simp only [lo_setVar,lo_push,len_setVar,len_push];omega) (by simp only [len_setVar,len_push];omega)
   refine go (bw23 hl h0 h1 h2 h3 hb' hy' hFc hFi hvc hvi hFs hvs (neL lb) (neA lb) (ltL lb) (ltA lb) (neL ly) (neA ly) (ltL ly) (ltA ly) hbe hf) (bw hcl fnil) ?_
   refine fnr_ret (v := .bool r) (results_one (by rw [rdRes_tmp];simp only [go_sem,hl])) ?_
   exact left_fin hI helo hwf hw ((HExt.keep W hx0).trans hk) he' (.inr ⟨hw',hT,hS'⟩)
 | k + 1,now,v,st,i,hv,hlen,hrng,hX,hI,helo,hwf,hw,hb,hy,hs => by
  have hFc := hF.cells
  have hFi := hF.isCell
  have hFs := hF.slen
  have hvs := hv.slen
  have hlen6 := hc.len
  have lb := hp_lt hb
  have ls := hp_lt hs
  have hb' : hp { heap := st.heap,lo := st.heap.length } b = some (.var [iv c.room,iv c.depth,F]) := hb
  have hbe : ((now.length : Int) == (c.figs.length : Int)) = false := by simp;omega
  have hwr : IntKind.wrap .i64 ((now.length : Int) + 1) = ((now.length + 1 : Nat) : Int) := wrap_in (by unfold inI;omega)
  refine clr_fn (pr130 · _ _) fn130 4 rfl (by decide) (fun tm hl hg => ?_);have h0 : tg tm 0 = v := (hg 0 (by decide));have h1 : tg tm 1 = .ptr b 0 := (hg 1 (by decide));have h2 : tg tm 2 = .ptr mY 0 := (hg 2 (by decide));have h3 : tg tm 3 = .ptr mS 0 := (hg 3 (by decide));clear hg
  refine go (bw16 hl h0 h1 h2 h3 hb' hFc hFi hFs hvs (neL lb) (neA lb) (ltL lb) (ltA lb) hbe hwr) fnil ?_
  refine wops_slice rfl rfl (by simp only [go_sem,hl];first | done | rfl) hF (m := now.length + 1) (n := 0) (by simp only [bound];simp only [go_sem,hl];simp;omega) (by rfl) (by omega) (by omega) ?_
  intro F2 hF2
  have e2 : List.take (now.length + 1 - 0) (List.drop 0 c.figs) = c.figs.take (now.length + 1) := by simp
  rw [e2] at hF2
  have hF2c := hF2.cells
  have hF2i := hF2.isCell
  obtain ⟨d,hd⟩ : ∃ d : Nat,c.depth = d := ⟨c.depth.toNat,by have := hc.d0;omega⟩
  have hd5 : d ≤ 5 := by have := hc.d1;omega
  have hW7 : ¬ W st.heap.length := fun h => by have := hWw _ h;omega
  refine go (bw16 hl h0 h1 h2 h3 hb' hFc hFi hFs hvs hF2c hF2i (neL lb) (neA lb) (ltL lb) (ltA lb)) fnil ?_
  let g : Nat → List (List Int) := fun n => if (disorder { c with figs := c.figs.take (now.length + 1) } (now ++ [(n : Int)])).isSome then [] else searchL c k (now ++ [(n : Int)])
  have hsg : searchL c (k + 1) now = (List.range d).flatMap g := by simp only [searchL,hd,Int.toNat_natCast];rfl
  have hx0 : HExt st.heap (setVar (setVar (({ heap := st.heap,lo := st.heap.length } : St).push (.var [iv 0,iv 0,.nilslice])) st.heap.length (.var [iv c.room,iv c.depth,F])) st.heap.length (.var [iv c.room,iv c.depth,F2])).heap :=
   (show HExt ({ heap := st.heap,lo := st.heap.length } : St).heap _ from ((((Fr.refl st.heap.length { heap := st.heap,lo := st.heap.length }).push (Nat.le_refl _)).setVar (Nat.le_refl _)).setVar (Nat.le_refl _)).hext)
  refine wp_range d [] (fun n vs st1 => I (i + ((List.range n).flatMap g).length) st1.heap ∧ KeepV W st.heap st1.heap ∧ e ≤ st1.lo ∧ st1.lo ≤ st1.heap.length ∧ hp st1 st.heap.length = some (.var [iv c.room,iv c.depth,F2]) ∧ ((st.heap.length ≤ st1.lo ∧ ((List.range n).flatMap g).length = 0) ∨ st1.lo ≤ w)) (by omega) (by simp only [go_sem,hl]) (by simp only [go_sem,hl,hd]) (by simp only [go_sem,hl]) (by decide) ⟨Y.stab _ _ _ hI hx0,hx0.keep W,by simp only [lo_push,lo_setVar];omega,by simp only [lo_push,lo_setVar,len_push,len_setVar];omega,by simp only [go_sem],.inl ⟨by simp only [lo_push,lo_setVar];omega,rfl⟩⟩ ?_ ?_
  ·clear hx0
   rintro n hn tm1 st1 ⟨hI1,hk1,he1,hwf1,h7,hlo1⟩ hS hia
   have hl1 : tm1.length = 60 := (by rw [hS.1];simp only [put_len,hl]);have i0 : tg tm1 0 = v := (by rw [hS.2 0 (by decide)];simp only [go_sem,hl,h0,h3]);have i3 : tg tm1 3 = .ptr mS 0 := (by rw [hS.2 3 (by decide)];simp only [go_sem,hl,h0,h3]);have i7 : tg tm1 7 = .ptr st.heap.length 0 := (by rw [hS.2 7 (by decide)];simp only [go_sem,hl,h0,h3]);clear hS
   have hs1 : hp st1 mS = some (.var [.func 130 [] [.ptr b 0,.ptr mY 0,.ptr mS 0]]) := hk1.hp hs hWs
   have l7 := hp_lt h7
   refine go (bw3 hl1 i0 hia) fnil ?_
   refine wops_callR rfl rfl (by simp only [go_sem,hl1,i0];first | done | rfl) (by simp only [go_sem,hl1,i0];exact c109 v now hv (by omega) _) ?_
   intro v1 st2 hR
   have hlen2 := hR.len
   have hlo2 := hR.lo
   refine go (bw hl1 hia) fnil ?_
   refine wops_append rfl rfl (by simp only [go_sem,hl1];first | done | rfl) (by simp only [go_sem,hl1];first | done | rfl) ((hR.own (Nat.le_refl _)).push) rfl (by first | omega | (simp only [len_push,len_setVar];omega)) (by rfl) (by rfl) (by simp only [maxList];omega) ?_
   intro v' st3 hO' hFr hk3
   have hv' : SlOf 1 encI v' (now ++ [(n : Int)]) := SlOf.of_sl hO'.sl (by simp) (by simp [encI_map,share_int]) (fun _ => rfl)
   have hv'c := hv'.cells
   have hFr3 : Fr st1.heap.length st1 st3 := (hR.fr.push (by omega)).trans (hFr.mono (Nat.le_refl _))
   have h73 : hp st3 st.heap.length = some (.var [iv c.room,iv c.depth,F2]) := hFr3.hext.hp h7
   have hs3 : hp st3 mS = some (.var [.func 130 [] [.ptr b 0,.ptr mY 0,.ptr mS 0]]) := hFr3.hext.hp hs1
   have l73 := hp_lt h73
   have ls3 := hp_lt hs3
   have hl13 := hFr3.len
   have hlo13 := hFr3.lo
   have hlen3 : st1.heap.length < st3.heap.length := by have := hFr.len;simp only [len_push] at this;omega
   have hwf3 : st3.lo ≤ st3.heap.length := by have := hFr3.up;omega
   obtain ⟨ra,rb,re,hflt⟩ := fltO_cells (disorder { c with figs := c.figs.take (now.length + 1) } (now ++ [(n : Int)]))
   have c1 := c131 { c with figs := c.figs.take (now.length + 1) } F2 v' (now ++ [(n : Int)]) hF2 hv' (by simp;omega) (by simp;omega) (fun f hf => hc.figs f (List.mem_of_mem_take hf))
   rw [hflt] at c1
   cases hdis : (disorder { c with figs := c.figs.take (now.length + 1) } (now ++ [(n : Int)])).isSome
   ·have hgn : g n = searchL c k (now ++ [(n : Int)]) := by simp only [g,hdis,Bool.false_eq_true,if_false]
    refine go (bw15 hl1 i7 i3 h73 hs3 hv'c (neL l73) (neA l73) (ltL l73) (ltA l73) (neL ls3) (neA ls3) (ltL ls3) (ltA ls3) hdis) (bw c1 fnil) ?_
    have hxA : Fr st3.heap.length st3 (setVar (st3.push (.var [iv 0,iv 0,iv 0])) st3.heap.length (.var [iv ra,iv rb,iv re])) := ((Fr.refl _ _).push (Nat.le_refl _)).setVar (Nat.le_refl _)
    have hx4 : HExt st1.heap (setVar (st3.push (.var [iv 0,iv 0,iv 0])) st3.heap.length (.var [iv ra,iv rb,iv re])).heap := hFr3.hext.trans hxA.hext
    have hXn : searchL c k (now ++ [(n : Int)]) <+: X.drop (i + ((List.range n).flatMap g).length) := by
     obtain ⟨r,hr⟩ := flatMap_range_split g hn
     rw [hsg,hr] at hX
     rw [← hgn,← List.drop_drop]
     exact prefix_drop hX
    have hk4 := hk1.trans (hx4.keep W)
    have hrec := c130 hF hc Y hWb hWy hWs hWw k (now ++ [(n : Int)]) v' (setVar (st3.push (.var [iv 0,iv 0,iv 0])) st3.heap.length (.var [iv ra,iv rb,iv re])) (i + ((List.range n).flatMap g).length) hv' (by simp;omega) (by
     intro x hx
     rcases List.mem_append.1 hx with h | h
     ·exact hrng x h
     ·simp only [List.mem_singleton] at h;subst h;omega) hXn (Y.stab _ _ _ hI1 hx4) (by simp only [lo_setVar,lo_push];omega) (by simp only [lo_setVar,lo_push,len_setVar,len_push];omega) (by simp only [len_setVar,len_push];omega)
     (hk4.hp hb hWb) (hk4.hp hy hWy) (hk4.hp hs hWs)
    refine wops_callR rfl rfl (by simp only [go_sem,hl1];first | done | rfl) (by simp only [go_sem,hl1];exact hrec) ?_
    rintro u st5 ⟨r,rfl,hT,hS',hk5,he5,hwf5,hlo5⟩
    have h75 : hp st5 st.heap.length = some (.var [iv c.room,iv c.depth,F2]) := hk5.hp (hx4.hp h7) hW7
    have hcnt := flatMap_range_succ g n
    rw [hgn] at hcnt
    cases r
    ·refine go hl1 fnil ?_
     refine fnr_ret (v := .bool false) (results_one (by rw [rdRes_tmp];simp only [go_sem,hl1])) ?_
     refine left_fin hI helo hwf hw (hk4.trans hk5) he5 (.inr ⟨?_,(fun h => by cases h),hS'⟩)
     rcases hlo5 with ⟨_,h2,_⟩ | h2
     ·cases h2
     ·exact h2
    ·refine go hl1 fnil ?_
     refine ⟨by rw [hcnt,← Nat.add_assoc];exact hT rfl,hk4.trans hk5,he5,hwf5,h75,?_⟩
     rcases hlo5 with ⟨h1,_,rfl⟩ | h2
     ·rcases hlo1 with ⟨h3,h4⟩ | h3
      ·exact .inl ⟨by simp only [lo_setVar,lo_push];omega,by omega⟩
      ·exact .inr (by have := hFr3.up;simp only [lo_setVar,lo_push];omega)
     ·exact .inr h2
   ·have hgn : g n = [] := by simp only [g,hdis,if_true]
    have hcnt := flatMap_range_succ g n
    rw [hgn,List.length_nil,Nat.add_zero] at hcnt
    refine go (bw15 hl1 i7 i3 h73 hs3 hv'c (neL l73) (neA l73) (ltL l73) (ltA l73) (neL ls3) (neA ls3) (ltL ls3) (ltA ls3) hdis) (bw c1 fnil) ?_
    have hxA : Fr st3.heap.length st3 (setVar (st3.push (.var [iv 0,iv 0,iv 0])) st3.heap.length (.var [iv ra,iv rb,iv re])) := ((Fr.refl _ _).push (Nat.le_refl _)).setVar (Nat.le_refl _)
    have hx4 : HExt st1.heap (setVar (st3.push (.var [iv 0,iv 0,iv 0])) st3.heap.length (.var [iv ra,iv rb,iv re])).heap := hFr3.hext.trans hxA.hext
    rw [hcnt]
    refine ⟨Y.stab _ _ _ hI1 hx4,hk1.trans (hx4.keep W),by simp only [lo_setVar,lo_push];omega,by simp only [lo_setVar,lo_push,len_setVar,len_push];omega,hx4.hp h7,?_⟩
    rcases hlo1 with ⟨h1,h2⟩ | h1
    ·exact .inl ⟨by simp only [lo_setVar,lo_push];omega,h2⟩
    ·exact .inr (by have := hFr3.up;simp only [lo_setVar,lo_push];omega)
  ·rintro tm1 st1 ⟨hI1,hk1,he1,hwf1,h7,hlo1⟩ hS
   have hl1 : tm1.length = 60 := (by rw [hS.1];simp only [put_len,hl]);clear hS
   refine go hl1 fnil ?_
   rw [hsg]
   refine fnr_ret (v := .bool true) (results_one (by rw [rdRes_tmp];simp only [go_sem,hl1])) ?_
   refine left_fin hI helo hwf hw hk1 he1 ?_
   rcases hlo1 with ⟨h1,h2⟩ | h1
   ·exact .inl ⟨h1,h2,rfl⟩
   ·exact .inr ⟨h1,fun _ => hI1,fun h => by cases h⟩
end
end Go.Den.Ch
end
section
namespace Go.Den.Ch
theorem c82 (c : CL) (F : PV) (st : St) : Cl EE (.func 82 [] []) [clPV c F] st (.ret (.func 129 [] [.ptr st.heap.length 0])) (st.push (.var [iv c.room,iv c.depth,F])) := by
 refine cl_fn (pr82 · _ _) fn82 1 rfl (by decide) (fun tm hl hg => ?_);have h0 : tg tm 0 = clPV c F := (hg 0 (by decide));clear hg
 refine go (bw hl h0) fnil ?_
 unfold FnQ
 refine ⟨.func 129 [] [.ptr st.heap.length 0],results_one (by rw [rdRes_tmp];simp only [go_sem,hl]),_,?_,rfl⟩
 unfold finishCall
 rw [if_pos (by simp only [lo_push];omega)]
 have : letGo st.heap.length (({ heap := st.heap,lo := st.heap.length } : St).push (.var [iv c.room,iv c.depth,F])).heap (.func 129 [] [.ptr st.heap.length 0]) = none := by
  simp [letGo,freeze1,retag1,PV.low,lowL]
 rw [this]
 rfl
set_option maxHeartbeats 1000000 in
theorem iter129 {c : CL} {F : PV} {b : Nat} {st : St} (hF : SlOf 3 encF F c.figs) (hc : OkL c) (hb : hp st b = some (.var [iv c.room,iv c.depth,F])) : Iter EE (.func 129 [] [.ptr b 0]) st (rightsL c) (RepP c F) (fun l => l = b) := by
 intro y W e w I S Y hWp hWw hI he hwf hw hew hyi hyc
 have hWb : ¬ W b := hWp b rfl
 have hWy : ¬ W st.heap.length := fun h => by have := hWw _ h;omega
 have hWs : ¬ W (st.heap.length + 1) := fun h => by have := hWw _ h;omega
 have hx0 : HExt st.heap (setVar ((({ heap := st.heap,lo := st.heap.length } : St).push (.var [y])).push (.var [.nilfunc])) (st.heap.length + 1) (.var [.func 130 [] [.ptr b 0,.ptr st.heap.length 0,.ptr (st.heap.length + 1) 0]])).heap :=
  (show HExt ({ heap := st.heap,lo := st.heap.length } : St).heap _ from ((((Fr.refl st.heap.length { heap := st.heap,lo := st.heap.length }).push (Nat.le_refl _)).push (by simp only [len_push];omega)).setVar (by omega)).hext)
 have hrec := c130 (X := rightsL c) (mY := st.heap.length) (mS := st.heap.length + 1) hF hc Y hWb hWy hWs hWw c.figs.length [] .nilslice (setVar ((({ heap := st.heap,lo := st.heap.length } : St).push (.var [y])).push (.var [.nilfunc])) (st.heap.length + 1) (.var [.func 130 [] [.ptr b 0,.ptr st.heap.length 0,.ptr (st.heap.length + 1) 0]])) 0 .nil (by simp) (by simp) (by simp only [List.drop_zero];exact List.prefix_refl _) (Y.stab _ _ _ hI hx0) (by simp only [lo_setVar,lo_push];omega) (by simp only [lo_setVar,lo_push,len_setVar,len_push];omega) (by simp only [len_setVar,len_push];omega)
  (hx0.hp hb) (by simp only [go_sem]) (by simp only [go_sem])
 have hgoal : ClR EE (.func 129 [] [.ptr b 0]) [y] st (fun v st' => KeepV W st.heap st'.heap ∧ e ≤ st'.lo ∧ st'.lo ≤ st'.heap.length ∧ (I (rightsL c).length st'.heap ∨ S st'.heap)) := by
  refine clr_fn (pr129 · _ _) fn129 2 rfl (by decide) (fun tm hl hg => ?_);have h0 : tg tm 0 = y := (hg 0 (by decide));have h1 : tg tm 1 = .ptr b 0 := (hg 1 (by decide));clear hg
  refine go (bw5 hl h0 h1 hyi hyc) fnil ?_
  refine wops_callR rfl rfl (by simp only [go_sem,hl,h0,h1];first | done | rfl) (by simp only [go_sem,hl,h0,h1];exact hrec) ?_
  rintro u st5 ⟨r,rfl,hT,hS',hk5,he5,hwf5,hlo5⟩
  rw [Nat.zero_add] at hT
  refine go hl fnil ?_
  refine fnr_normal results_nil ?_
  rcases hlo5 with ⟨h1,rfl,rfl⟩ | h1
  ·rw [finish_tuple (by simp only [lo_setVar,lo_push];omega) (by rfl)]
   have : (rightsL c).length = 0 := h1
   rw [this]
   exact ⟨.refl _ _,he,hwf,.inl hI⟩
  ·unfold finishCall
   rw [if_neg (by omega)]
   refine ⟨(hx0.keep W).trans hk5,?_,?_,?_⟩
   ·show e ≤ min st.lo st5.lo;omega
   ·show min st.lo st5.lo ≤ st5.heap.length;omega
   ·cases r
    ·exact .inr (hS' rfl)
    ·exact .inl (hT rfl)
 obtain ⟨v,st',h1,h2⟩ := hgoal
 exact ⟨v,st',h1,h2⟩
end Go.Den.Ch
end
section
namespace Go.Den.Ch
def OutP (c : CL) (F : PV) (o : Option (List Int)) (cs : List PV) : Prop := match o with
 | none => cs = [iv 0,iv 0,.nilslice,.nilslice]
 | some p => ∃ P,cs = [iv c.room,iv c.depth,F,P] ∧ SlOf 1 encI P p
theorem keep_low2 {a : List HObj} {s2 : St} {m : Nat} {x y : HObj} (hm : a.length ≤ m) (h : KeepA a s2.heap) : KeepA a (setVar (setVar s2 m x) (m + 1) y).heap := by
 have h1 : KeepA a (s2.heap.set m x) := KeepV.set h hm
 exact KeepV.set h1 (by omega)
set_option maxHeartbeats 4000000 in
theorem c81 (c : CL) (F : PV) (hFc : F.cells = [F]) (hFi : F.isCell = true) (g : Nat) (fa fc : List PV) (bf : PV) (hbc : bf.cells = [bf]) (X : List (List Int)) (bt : List Int → List Int → Bool) (priv : Nat → Prop) (st : St) (hpriv : ∀ l,priv l → l < st.heap.length)
  (hIt : ∀ st',HExt st.heap st'.heap → Iter EE (.func g fa fc) st' X (RepP c F) priv)
  (hbt : ∀ st',KeepA st.heap st'.heap → ∀ x,x ∈ X → ∀ o,o ∈ X → ∀ vx vo,RepP c F vx x → RepP c F vo o → Cl EE bf [vx,vo] st' (.ret (.bool (bt x o))) st') :
  ClR EE (.func 81 [] []) [.func g fa fc,bf] st (fun v st' => ∃ cs,v = .tuple [.agg cs,.bool (bestF bt X).isSome] ∧ OutP c F (bestF bt X) cs ∧ KeepA st.heap st'.heap ∧ st'.lo = st.lo) := by
 refine clr_fn (pr81 · _ _) fn81 2 rfl (by decide) (fun tm hl hg => ?_);have h0 : tg tm 0 = .func g fa fc := (hg 0 (by decide));have h1 : tg tm 1 = bf := (hg 1 (by decide));clear hg
 refine go (bw4 hl h0 h1 hbc) fnil ?_
 apply wp_block
 refine wp_gen (fun tm1 s1 => tm1.length = 22 ∧ tg tm1 3 = .ptr st.heap.length 0 ∧ tg tm1 4 = .ptr (st.heap.length + 1) 0 ∧ tg tm1 6 = .ptr (st.heap.length + 2) 0 ∧ tg tm1 7 = .ptr (st.heap.length + 3) 0 ∧ tg tm1 9 = .func g fa fc ∧ HExt st.heap s1.heap ∧ s1.heap.length = st.heap.length + 4 ∧ st.heap.length ≤ s1.lo ∧ s1.lo ≤ s1.heap.length ∧ hp s1 st.heap.length = some (.var [bf]) ∧ hp s1 (st.heap.length + 1) = some (.var [iv 0,iv 0,.nilslice,.nilslice]) ∧ hp s1 (st.heap.length + 2) = some (.var [iv 0,iv 0,.nilslice,.nilslice]) ∧ hp s1 (st.heap.length + 3) = some (.var [.bool false]))
  ⟨by simp only [go_sem,hl],by simp only [go_sem,hl],by simp only [go_sem,hl],by simp only [go_sem,hl],by simp only [go_sem,hl],by simp only [go_sem,hl],(show HExt ({ heap := st.heap,lo := st.heap.length } : St).heap _ from ((((((Fr.refl st.heap.length { heap := st.heap,lo := st.heap.length }).push (Nat.le_refl _)).push (by simp only [len_push];omega)).push (by simp only [len_push];omega)).push (by simp only [len_push];omega)).setVar (by omega)).hext),by simp only [go_sem],by simp only [lo_push,lo_setVar];omega,by simp only [lo_push,lo_setVar,len_push,len_setVar];omega,by simp only [go_sem],by simp only [go_sem],by simp only [go_sem],by simp only [go_sem]⟩ ?_
 rintro tm1 s1 ⟨hl1,q3,q4,q6,q7,q9,hx,hsl,hlo,hwf,z0,z1,z2,z3⟩
 refine wp_rangeF (X := X) (Rep := RepP c F) (priv := priv) (fun l => l = st.heap.length + 2 ∨ l = st.heap.length + 3) st.heap.length
  (fun i h => h[st.heap.length]? = some (.var [bf]) ∧ h[st.heap.length + 1]? = some (.var [iv 0,iv 0,.nilslice,.nilslice]) ∧ (∃ cs,h[st.heap.length + 2]? = some (.var cs) ∧ OutP c F (bestF bt (X.take i)) cs) ∧ h[st.heap.length + 3]? = some (.var [.bool (bestF bt (X.take i)).isSome]) ∧ KeepA st.heap h)
  (fun _ _ => False) (by simp only [go_sem,q9]) (hIt _ (hx.trans (HExt.push _ _))) (fun l hl => by have := hpriv l hl;omega) (fun l hl => by omega) hlo hwf
  (fun i h h' ⟨a0,a1,⟨cs,a2,a3⟩,a4,a5⟩ hx => ⟨hx.var a0,hx.var a1,⟨cs,hx.var a2,a3⟩,hx.var a4,a5.trans (hx.keep _)⟩) (fun _ _ _ h _ => h)
  (fun i h s p s' p' ⟨a0,a1,⟨cs,a2,a3⟩,a4,a5⟩ hL => ⟨set_var a0 hL,set_var a1 hL,⟨cs,set_var a2 hL,a3⟩,set_var a4 hL,a5.set (by omega)⟩) (fun _ _ _ _ _ _ h _ => h)
  ⟨z0,z1,⟨_,z2,rfl⟩,z3,hx.keep _⟩ ?_ ?_ (fun _ _ h => h.elim)
 ·rintro i hi v st1 ⟨P,rfl,hP⟩ ⟨a0,a1,⟨cs,a2,a3⟩,a4,a5⟩ he1 hwf1 hL
  refine ⟨_,setParams_one,?_⟩
  have hPc := hP.cells
  have hPi := hP.isCell
  have lL := hp_lt hL
  refine go (bw3 hl1 hFi hPi) fnil ?_
  have hx1 : HExt st1.heap (setVar (st1.push (.var [iv 0,iv 0,.nilslice,.nilslice])) st1.heap.length (.var [iv c.room,iv c.depth,F,P])).heap := (((Fr.refl st1.heap.length st1).push (Nat.le_refl _)).setVar (Nat.le_refl _)).hext
  refine ⟨rfl,hx1,by simp only [lo_push,lo_setVar];omega,by simp only [lo_push,lo_setVar,len_push,len_setVar];omega,?_⟩
  refine wp_gen (fun tm2 s2 => tm2.length = 22 ∧ tg tm2 3 = .ptr st.heap.length 0 ∧ tg tm2 6 = .ptr (st.heap.length + 2) 0 ∧ tg tm2 7 = .ptr (st.heap.length + 3) 0 ∧ tg tm2 8 = .ptr st1.heap.length 0 ∧ s2.heap.length = st1.heap.length + 1 ∧ st.heap.length ≤ s2.lo ∧ s2.lo ≤ s2.heap.length ∧ hp s2 st.heap.length = some (.var [bf]) ∧ hp s2 (st.heap.length + 1) = some (.var [iv 0,iv 0,.nilslice,.nilslice]) ∧ hp s2 (st.heap.length + 2) = some (.var cs) ∧ hp s2 (st.heap.length + 3) = some (.var [.bool (bestF bt (X.take i)).isSome]) ∧ hp s2 st1.heap.length = some (.var [iv c.room,iv c.depth,F,P]) ∧ hp s2 s1.heap.length = some (.loop tm1 [10] _ _ .busy none) ∧ KeepV (fun l => l = s1.heap.length) (setVar (st1.push (.var [iv 0,iv 0,.nilslice,.nilslice])) st1.heap.length (.var [iv c.room,iv c.depth,F,P])).heap s2.heap ∧ KeepA st.heap s2.heap)
   ⟨by simp only [go_sem,hl1],by simp only [go_sem,hl1,q3],by simp only [go_sem,hl1,q6],by simp only [go_sem,hl1,q7],by simp only [go_sem,hl1],by simp only [go_sem],by simp only [lo_push,lo_setVar];omega,by simp only [lo_push,lo_setVar,len_push,len_setVar];omega,hp_set_other (hx1.hp a0) (by omega),hp_set_other (hx1.hp a1) (by omega),hp_set_other (hx1.hp a2) (by omega),hp_set_other (hx1.hp a4) (by omega),hp_set_other (by simp only [go_sem]) (by omega),by simp only [go_sem,neL lL,neA lL,ltL lL,ltA lL];rfl,⟨by simp only [len_push,len_setVar];omega,fun l o ho _ hn => hp_set_other ho hn⟩,?_⟩ ?_
  ·exact KeepV.set (a5.trans (hx1.keep _)) (by omega)
  rintro tm2 s2 ⟨hl2,p3,p6,p7,p8,hsl2,hlo2,hwf2,b0,b1,b2,b3,b8,bL,hk2,hk2'⟩
  have m0 := hp_lt b0
  have m1 := hp_lt b1
  have m2 := hp_lt b2
  have m3 := hp_lt b3
  have m8 := hp_lt b8
  have mL := hp_lt bL
  have htk := bestF_take bt X hi
  have hout : ∀ (met : Bool),hp s2 (st.heap.length + 3) = some (.var [.bool met]) → bestF bt (X.take (i + 1)) = some X[i] → ∀ Z,hp s2 s1.heap.length = Z → (hp (setVar (setVar s2 (st.heap.length + 2) (.var [iv c.room,iv c.depth,F,P])) (st.heap.length + 3) (.var [.bool true])) s1.heap.length = Z ∧ KeepV (fun l => (l = st.heap.length + 2 ∨ l = st.heap.length + 3) ∨ l = s1.heap.length) (setVar (st1.push (.var [iv 0,iv 0,.nilslice,.nilslice])) st1.heap.length (.var [iv c.room,iv c.depth,F,P])).heap (setVar (setVar s2 (st.heap.length + 2) (.var [iv c.room,iv c.depth,F,P])) (st.heap.length + 3) (.var [.bool true])).heap ∧ st.heap.length ≤ (setVar (setVar s2 (st.heap.length + 2) (.var [iv c.room,iv c.depth,F,P])) (st.heap.length + 3) (.var [.bool true])).lo ∧ (setVar (setVar s2 (st.heap.length + 2) (.var [iv c.room,iv c.depth,F,P])) (st.heap.length + 3) (.var [.bool true])).lo ≤ (setVar (setVar s2 (st.heap.length + 2) (.var [iv c.room,iv c.depth,F,P])) (st.heap.length + 3) (.var [.bool true])).heap.length ∧ (fun i h => h[st.heap.length]? = some (.var [bf]) ∧ h[st.heap.length + 1]? = some (.var [iv 0,iv 0,.nilslice,.nilslice]) ∧ (∃ cs,h[st.heap.length + 2]? = some (.var cs) ∧ OutP c F (bestF bt (X.take i)) cs) ∧ h[st.heap.length + 3]? = some (.var [.bool (bestF bt (X.take i)).isSome]) ∧ KeepA st.heap h) (i + 1) (setVar (setVar s2 (st.heap.length + 2) (.var [iv c.room,iv c.depth,F,P])) (st.heap.length + 3) (.var [.bool true])).heap) := by
   intro met hmet hbn Z hZ
   refine ⟨by rw [hp_setVar,if_neg (by omega),hp_setVar,if_neg (by omega)];exact hZ,hk2.mono (fun l h => .inr h) |>.trans ⟨by simp only [len_setVar];exact Nat.le_refl _,fun l o ho _ hn => ?_⟩,by simp only [lo_setVar];omega,by simp only [lo_setVar,len_setVar];omega,hp_set_other (hp_set_other b0 (by omega)) (by omega),hp_set_other (hp_set_other b1 (by omega)) (by omega),⟨[iv c.room,iv c.depth,F,P],hp_set_other (by simp only [go_sem,m2]) (by omega),?_⟩,?_,keep_low2 (by omega) hk2'⟩
   ·exact hp_set_other (hp_set_other ho (fun h => hn (.inl (.inl h)))) (fun h => hn (.inl (.inr h)))
   ·rw [hbn];exact ⟨P,rfl,hP⟩
   ·rw [hbn]
    have : hp (setVar (setVar s2 (st.heap.length + 2) (.var [iv c.room,iv c.depth,F,P])) (st.heap.length + 3) (.var [.bool true])) (st.heap.length + 3) = some (.var [.bool true]) := by simp only [go_sem,m3]
    exact this
  have hno : bestF bt (X.take (i + 1)) = bestF bt (X.take i) → ∀ Z,hp s2 s1.heap.length = Z → (hp s2 s1.heap.length = Z ∧ KeepV (fun l => (l = st.heap.length + 2 ∨ l = st.heap.length + 3) ∨ l = s1.heap.length) (setVar (st1.push (.var [iv 0,iv 0,.nilslice,.nilslice])) st1.heap.length (.var [iv c.room,iv c.depth,F,P])).heap s2.heap ∧ st.heap.length ≤ s2.lo ∧ s2.lo ≤ s2.heap.length ∧ (fun i h => h[st.heap.length]? = some (.var [bf]) ∧ h[st.heap.length + 1]? = some (.var [iv 0,iv 0,.nilslice,.nilslice]) ∧ (∃ cs,h[st.heap.length + 2]? = some (.var cs) ∧ OutP c F (bestF bt (X.take i)) cs) ∧ h[st.heap.length + 3]? = some (.var [.bool (bestF bt (X.take i)).isSome]) ∧ KeepA st.heap h) (i + 1) s2.heap) := by
   intro hbn Z hZ
   refine ⟨hZ,hk2.mono (fun l h => .inr h),by omega,hwf2,b0,b1,⟨cs,b2,by rw [hbn];exact a3⟩,by rw [hbn];exact b3,hk2'⟩
  cases hbf : bestF bt (X.take i) with
  | none =>
   rw [hbf] at a3 b3 htk
   dsimp only at htk
   simp only [OutP] at a3
   subst a3
   refine go (bw29 hl2 p3 p6 p7 p8 b0 b2 b3 b8 @isS @isN hFi hPi (neL m0) (neA m0) (ltL m0) (ltA m0) (neL m2) (neA m2) (ltL m2) (ltA m2) (neL m3) (neA m3) (ltL m3) (ltA m3) (neL m8) (neA m8) (ltL m8) (ltA m8)) fnil ?_
   exact hout false b3 htk _ bL
  | some o =>
   rw [hbf] at a3 b3 htk
   dsimp only at htk
   obtain ⟨P0,rfl,hP0⟩ := a3
   have hcall := hbt s2 hk2' X[i] (List.getElem_mem _) o (bestF_mem bt X (by omega) hbf) (paPV c F P) (paPV c F P0) ⟨P,rfl,hP⟩ ⟨P0,rfl,hP0⟩
   cases hb : bt X[i] o
   ·rw [hb] at hcall htk
    refine go (bw29 hl2 p3 p6 p7 p8 b0 b2 b3 b8 @isS @isN hFi hPi (neL m0) (neA m0) (ltL m0) (ltA m0) (neL m2) (neA m2) (ltL m2) (ltA m2) (neL m3) (neA m3) (ltL m3) (ltA m3) (neL m8) (neA m8) (ltL m8) (ltA m8)) (bw hcall fnil) ?_
    exact hno (by rw [htk,hbf];rfl) _ bL
   ·rw [hb] at hcall htk
    refine go (bw29 hl2 p3 p6 p7 p8 b0 b2 b3 b8 @isS @isN hFi hPi (neL m0) (neA m0) (ltL m0) (ltA m0) (neL m2) (neA m2) (ltL m2) (ltA m2) (neL m3) (neA m3) (ltL m3) (ltA m3) (neL m8) (neA m8) (ltL m8) (ltA m8)) (bw hcall fnil) ?_
    exact hout true b3 (by rw [htk];rfl) _ bL
 ·rintro s2 ⟨a0,a1,⟨cs,a2,a3⟩,a4,a5⟩ hk2 he2 hwf2
  rw [List.take_length] at a3 a4
  have b1 : hp s2 (st.heap.length + 1) = _ := a1
  have b2 : hp s2 (st.heap.length + 2) = _ := a2
  have b3 : hp s2 (st.heap.length + 3) = _ := a4
  have m1 := hp_lt b1
  have m2 := hp_lt b2
  have m3 := hp_lt b3
  have hcs : ∃ x0 x1 x2 x3,cs = [x0,x1,x2,x3] ∧ cs.all PV.isCell = true ∧ [PV.agg cs,.bool (bestF bt X).isSome].all notSl = true := by
   cases hb : bestF bt X with
   | none => rw [hb] at a3;simp only [OutP] at a3;subst a3;exact ⟨_,_,_,_,rfl,rfl,rfl⟩
   | some o => rw [hb] at a3;obtain ⟨P,rfl,hP⟩ := a3;exact ⟨_,_,_,_,rfl,by simp only [List.all_cons,List.all_nil,isCell_int,hFi,hP.isCell,Bool.and_self],rfl⟩
  obtain ⟨x0,x1,x2,x3,rfl,hall,hns⟩ := hcs
  simp only [List.all_cons,List.all_nil,Bool.and_true,Bool.and_eq_true] at hall
  obtain ⟨i0,i1,i2,i3⟩ := hall
  apply inBlock_normal
  refine go (bw23 hl1 q4 q6 q7 b1 b2 b3 i0 i1 i2 i3 (neL m1) (neA m1) (ltL m1) (ltA m1) (neL m2) (neA m2) (ltL m2) (ltA m2) (neL m3) (neA m3) (ltL m3) (ltA m3)) fnil ?_
  refine wopsD_set (v := undef) (l := st.heap.length + 1) (ob := .var [x0,x1,x2,x3]) (by omega) (by omega) rfl rfl (fun rec st1 he hh => by simp only [go_sem,hl1,q4,hh,he,b1,i0,i1,i2,i3,neL m1,neA m1,ltL m1,ltA m1]) ?_
  refine go hl1 fnil ?_
  apply wopsD_nil
  refine ⟨?_,?_⟩
  ·simp only [footOk,footOf,List.all_cons,List.all_nil,List.getElem?_cons_zero,List.getElem?_cons_succ,ev_t,tg_put,put_len,hl1,q4,q6,q7,clash]
   simp [hl1,q4,q6,q7,tg_put,put_len,clash]
  refine go hl1 fnil ?_
  refine fnr_ret (v := .tuple [.agg [x0,x1,x2,x3],.bool (bestF bt X).isSome]) (results_two (by rw [rdRes_hp (l := st.heap.length + 1) (off := 0) (by simp only [go_sem,hl1,q4])];simp only [go_sem,b1,neL m1,neA m1,ltL m1,ltA m1]) (by rw [rdRes_tmp];simp only [go_sem,hl1])) ?_
  obtain ⟨f1,f2,f3⟩ := finish_keep (st := st) (st1 := setVar s2 (st.heap.length + 1) (.var [x0,x1,x2,x3])) hns (by rw [lo_setVar];omega)
  refine ⟨_,f1,a3,?_,f2⟩
  rcases f3 with f3 | f3
  ·rw [f3];exact KeepV.refl _ _
  ·rw [f3];exact KeepV.set a5 (by omega)
end Go.Den.Ch
end

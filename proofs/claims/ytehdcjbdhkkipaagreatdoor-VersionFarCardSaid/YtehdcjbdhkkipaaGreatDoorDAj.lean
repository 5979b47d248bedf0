/- Part of the proofs of laws of the package version. Texts: DenDrawF, DenDrawG, DenWp, DenTac. -/
import Derived.Test.YtehdcjbdhkkipaaGreatDoorDAi
import Derived.Test.YtehdcjbdhkkipaaGreatDoorDAc
set_option linter.unusedSimpArgs false
set_option linter.unusedVariables false
section
namespace Go.Den
section
variable {P : Program} {B0 : Nat} {w0 : World} {B : Nat} {ds : List DOper} {pl : List (List Nat)} {tm tm2 : List PV} {st : St} {K : Nat} {tms : Nat → List PV} {sts : Nat → St} {vs : Nat → PV} {GS : Gh} {wS : World} {E : Env} {rec : Rec} {fo : Nat → Foot} {mu : TypeId → Bool} {ops : Array Oper} {free : List (Nat × List Nat)}
 {listed : Array Bool} {a : Act} {w : World} {c : Nat} {G : Gh} {tmS : List PV} {pb : Nat → Nat} {e : Ex} {tm' : List PV} {st' : St} {fs : List Foot}
theorem foot_congr {d : DOp} (h : Agree tm tm2 d.reads) (hw : weight d = 1) (m lo m' lo' : Nat) : footOf tm d m lo = footOf tm2 d m' lo' := by
 cases d <;> simp only [weight] at hw <;> first | (cases hw;done) | skip
 all_goals simp only [DOp.reads,Agree.append] at h
 all_goals simp only [footOf]
 ·rw [h.ev]
 ·rw [h.ev]
 ·rw [h.1.ev]
theorem look_some {d : DOp} {m lo l : Nat} {r : OpR} (h : stepOp E rec tm st d = some r) (hf : footOf tm d m lo = .ld l) : l < st.heap.length := by
 have hw := foot_ld hf
 cases d <;> simp only [weight] at hw <;> first | (cases hw;done) | skip
 all_goals
  simp only [footOf] at hf
  simp only [stepOp] at h
  split at hf
 all_goals first | (cases hf;done) | skip
 all_goals
  rename_i hev
  cases hf
  rw [hev] at h
  try simp only at h
  repeat' (split at h)
 all_goals first
  | (cases h;done)
  | (rename_i hh _;exact (List.getElem?_eq_some_iff.1 hh).1)
  | (rename_i hh _ _;exact (List.getElem?_eq_some_iff.1 hh).1)
  | (simp only [reduceCtorEq] at h;done)
  | skip
 all_goals
  injections
  subst_vars
 all_goals exact (List.getElem?_eq_some_iff.1 ‹st.heap[_]? = some (HObj.map _)›).1
theorem ordered_lt (C : Checked P mu ops ds pl free) (hpl : pl.length = ops.size) {i j : Nat} (h : ordered (masks pl []) i j = true) : i < j := by
 have key : ∀ j,∀ p ∈ pl.getD j [],p < j := fun j p hp => by
  by_cases hj : j < ops.size
  ·exact C.preds j hj p hp
  ·rw [List.getD_eq_getElem?_getD,List.getElem?_eq_none (by omega)] at hp
   simp at hp
 exact ordered_closed (S := fun y => y < j) (fun y hy p hp => Nat.lt_trans (key y p hp) hy) h (fun p hp => key j p hp)
theorem step_ok (hE : EnvOK P E) (hgr : GrowCall rec) (hrec : SoundCall P B0 w0 rec) (T : Trace E rec ds tm st K tms sts vs fo) (C : Checked P mu ops ds pl free) (hpl : pl.length = ops.size) (hend : TEnd E rec ds K tms sts e tm' st') (hfo : footOk fs free = true) (hfs : ∀ j,j < K → fs[j]? = some (fo j)) (hlo : st.lo ≤ st.heap.length)
  {F : Fence} {n : Nat} (hF : IsWide F) (I : Inv P B0 w0 B ds pl tm st K tms sts vs GS wS st'.lo listed a w c G tmS pb) {i : Nat} (hi : i ∈ Region.ready .any ops listed) :
  wpOpIn F n P ops (Post P B0 w0 B GS st wS e tm' st') i (fun a' w' => ∃ c' G' tmS' pb',Inv P B0 w0 B ds pl tm st K tms sts vs GS wS st'.lo (listed.setIfInBounds i true) a' w' c' G' tmS' pb') a w := by
 obtain ⟨hl0,o,ho,hpr⟩ := mem_ready.1 hi
 obtain ⟨d,hd,hdst,hgd,hop⟩ := C.op i o ho
 have hiS : i < ops.size := (Array.getElem?_eq_some_iff.1 ho).1
 have hilt : i < listed.size := by rw [I.sz,C.len];exact hiS
 have hn : ¬ Don listed i := by
  unfold Don
  rw [Array.getD_eq_getD_getElem?,Array.getElem?_eq_getElem hilt] at hl0 ⊢
  simp only [Option.getD_some] at hl0 ⊢
  rw [hl0];simp
 have hp : ∀ p ∈ pl.getD i [],Don listed p := by
  intro p hp
  rw [C.plOf i o ho] at hp
  unfold preds at hp
  obtain ⟨ed,h1,rfl⟩ := List.mem_map.1 hp
  obtain ⟨h2,h3⟩ := List.mem_filter.1 h1
  exact hpr ed (by simpa using h2) h3
 have hiK : i ≤ K := by
  rcases hend with ⟨h1,_⟩ | ⟨h1,_⟩
  ·have := C.len;omega
  ·have := C.len;omega
 have hag := I.agree T C hd hiK hn hp
 have hag1 : Agree tmS (tms i) d.op.reads := (Agree.append.1 hag).1
 have hwt : wants tmS d.guard = wants (tms i) d.guard := wants_congr (Agree.append.1 hag).2
 have hlen0 : ∀ {x},x ≤ K → (sts x).lo ≤ (sts x).heap.length := fun hx => by
  have := T.grow hgr (Nat.zero_le _) hx
  rw [T.z2] at this
  exact this.hlo hlo
 have hloK : st'.lo ≤ (sts K).lo := by
  rcases hend with ⟨_,_,_,h⟩ | ⟨_,_,_,_,_,_,_,_,_,h⟩
  ·rw [h];exact Nat.le_refl _
  ·rw [h];exact Nat.min_le_left _ _
 have hlox : ∀ {x},x ≤ K → st'.lo ≤ (sts x).lo := fun hx => Nat.le_trans hloK (T.grow hgr hx (Nat.le_refl _)).1
 have hholelt : ∀ {x : Nat} {dx : DOper},x < K → ds[x]? = some dx → weight dx.op = 3 → wants (tms x) dx.guard = true → (sts (x + 1)).heap.length = (sts x).heap.length + 1 := by
  intro x dx hx hdx hwx hwtx
  rcases T.made hx hdx hwx with ⟨_,z,_,h,_⟩ | ⟨h,_⟩
  ·rw [h];simp
  ·rw [hwtx] at h;cases h
 have hholec : ∀ {x : Nat} {dx : DOper},x < c → ds[x]? = some dx → weight dx.op = 3 → wants (tms x) dx.guard = true → (sts x).heap.length < (sts c).heap.length := by
  intro x dx hx hdx hwx hwtx
  have h1 := hholelt (Nat.lt_of_lt_of_le hx I.cK) hdx hwx hwtx
  have h2 := (T.grow hgr (show x + 1 ≤ c by omega) I.cK).2.1
  omega
 unfold wpOpIn
 rw [ho]
 simp only
 rw [← wants_ok I.tv hgd,hwt]
 by_cases hwant : wants (tms i) d.guard = true
 ·rw [if_pos hwant]
  rcases Nat.lt_or_ge i K with hlt | hge
  · -- it runs,in the text
   rcases (T.step i d hlt hd).1 with ⟨_,st2,hs,hst,hfoi⟩ | ⟨h,_⟩
   ·have hs' := hs
    rw [← stepOp_congr hag1] at hs'
    have hlo2 : st'.lo ≤ st2.lo := by
     have := hlox (show i + 1 ≤ K by omega)
     rw [hst] at this
     exact Nat.le_trans this (Nat.min_le_right _ _)
    by_cases h2 : weight d.op = 2
    · -- it writes
     have hic := I.turn C hd hlt h2 hn hp
     subst hic
     have hopc : opC P mu o = some d.op := by
      rcases hop with h | ⟨_,_,_,_,_,h⟩
      ·exact h
      ·rw [h] at h2;cases h2
     obtain ⟨_,h7⟩ := oper_ok (st := { sts i with lo := (sts i).heap.length }) hE hrec hopc (Nat.le_refl _) I.wr I.tv hs'
     refine h7 F n hF _ _ (fun G1 w1 u hw1 hx hv => ?_)
     have hh : (sts (i + 1)).heap = st2.heap := by rw [hst]
     rw [← hdst]
     exact I.advance T C hd hlt h2 hn hp (by rw [hh];exact hw1) (by rw [hh];exact I.ext.trans (hx.lo hlo2)) hx.pres (fun z b h => h.ext hx) hv ((I.df.ext hx (Nat.le_refl _)).le hx.size) hgr
    ·by_cases h3 : weight d.op = 3
     · -- a variable
      rcases Nat.lt_or_ge i c with hic | hci
      rotate_left
      ·have hip : IsP tms c i d := ⟨hci,h3,hwant⟩
       rcases T.made hlt hd h3 with ⟨_,z,hz,_,_⟩ | ⟨h,_⟩
       ·have hopc : opC P mu o = some (.alloc z) := by
         rcases hop with h | ⟨_,_,_,_,_,h⟩
         ·rw [h,hz]
         ·rw [h] at h3;cases h3
        obtain ⟨u,t,hrun,hzu⟩ := alloc_run (a := a) (w := w) hopc
        refine ⟨fun f _ => hF.fn f,?_⟩
        rw [Oper.semAt_eq _ _ _ (opC_defer hopc)]
        have hrun' : (execOp a.eval o).run P w = _ := hrun
        rw [hrun']
        show ∃ c' G' tmS' pb',_
        rw [← hdst]
        exact I.ahead C hd hlt hn hp hip hz hzu
       ·rw [hwant] at h;cases h
      rcases T.made hlt hd h3 with ⟨_,z,hz,hhp,hvi⟩ | ⟨h,_⟩
      ·have hopc : opC P mu o = some (.alloc z) := by
        rcases hop with h | ⟨_,_,_,_,_,h⟩
        ·rw [h,hz]
        ·rw [h] at h3;cases h3
       obtain ⟨hb0,ht0⟩ := I.hole i d hic hd h3 hwant hn
       obtain ⟨ex,hex⟩ := T.ext (i + 1) (show i + 1 ≤ c by omega) I.cK (fun x dx h4 h5 h6 h7 => by
        have h8 := I.cD x dx h5 h6 h7
        exact hn (ordered_in I.closed (C.heavy i x d dx (by omega) hd h6 (by unfold isHeavy;simp [h3]) (by unfold isHeavy;simp [h7]) (by omega)) h8))
       have hget : (sts c).heap[(sts i).heap.length]? = some (.var z) := by rw [hex,hhp];simp
       obtain ⟨u,t,hrun,hzu⟩ := alloc_run (a := a) (w := w) hopc
       obtain ⟨k1,k2,k3⟩ := hole_ok I.wr hb0 ht0 (.var z) hget (.cells u t) (fun G' w' _ hh _ => ⟨_,_,hh,hzu _ _⟩)
       refine ⟨fun f _ => hF.fn f,?_⟩
       rw [Oper.semAt_eq _ _ _ (opC_defer hopc)]
       have hrun' : (execOp a.eval o).run P w = _ := hrun
       rw [hrun']
       show ∃ c' G' tmS' pb',_
       rw [← hdst]
       refine I.stay C hd hlt h2 hn hp (fun h => by have := h.1;omega) k1 (fun x dx hx hxi hdx hwx hwtx q1 q2 => ⟨?_,q2⟩) (k3 _ _ _ _ I.ext (by have := (T.grow hgr (Nat.zero_le i) hiK).2.1;rw [T.z2] at this;exact this)) k2 (fun z b h => h.upd (by have := h.lt;omega) (heap_alloc_lt _ _ h.lt)) ?_ ((I.df.hole (Nat.le_refl _)).le (by rw [size_alloc];omega))
       ·show upd _ _ _ _ = _
        rw [upd_ne]
        ·exact q1
        ·have e1 := hholelt (Nat.lt_of_lt_of_le hx I.cK) hdx hwx hwtx
         have e2 := hholelt hlt hd h3 hwant
         rcases Nat.lt_or_ge x i with h | h
         ·have := (T.grow hgr (show x + 1 ≤ i by omega) hiK).2.1;omega
         ·have := (T.grow hgr (show i + 1 ≤ x by omega) (Nat.le_trans (Nat.le_of_lt hx) I.cK)).2.1;omega
       ·rw [hvi]
        simp only [VR]
        exact ⟨_,upd_same _ _ _,rfl⟩
      ·rw [hwant] at h;cases h
     · -- it does not write
      have hH : ∀ {st3 : St},st3.heap = (sts c).heap → stepOp E rec tmS st3 d.op = some (.val (vs i) st3) := by
       intro st3 hst3
       have hlt01 : weight d.op = 0 ∨ weight d.op = 1 := by
        have : weight d.op ≤ 3 := by cases d.op <;> simp [weight]
        omega
       rcases hlt01 with h | h
       ·obtain ⟨v,h4,h5⟩ := light_val h hs'
        cases h4
        exact h5 _
       ·obtain ⟨v,h4,h5⟩ := look_val h hs'
        cases h4
        refine h5 _ (fun l m lo hfl => ?_)
        have hopc : opC P mu o = some d.op := by
         rcases hop with h' | ⟨_,_,_,_,_,h'⟩
         ·exact h'
         ·rw [h'] at h;cases h
        have hlc := ld_live hopc I.wr I.tv hfl
        have hli : l < (sts i).heap.length := look_some (st := { sts i with lo := (sts i).heap.length }) hs' hfl
        have hfi : fo i = .ld l := by rw [hfoi,← foot_congr hag1 h m lo _ _,hfl];exact fine_ld'
        rw [hst3]
        show (sts c).heap[l]? = (sts i).heap[l]?
        rcases Nat.lt_or_ge i c with hic | hic
        ·refine T.same hgr hli (Nat.le_of_lt hic) I.cK (fun x dx h6 h7 h8 h9 => ?_)
         refine C.free fs hfo i x d dx l (fo x) hd h8 h h9 ?_ ?_ (by rw [hfs i hlt,hfi]) (hfs x (Nat.lt_of_lt_of_le h7 I.cK))
         ·cases hor : ordered (masks pl []) i x with
          | false => rfl
          | true => exact absurd (ordered_in I.closed hor (I.cD x dx h7 h8 h9)) hn
         ·cases hor : ordered (masks pl []) x i with
          | false => rfl
          | true => have := ordered_lt C hpl hor;omega
        ·refine (T.same hgr hlc hic hiK (fun x dx h6 h7 h8 h9 => ?_)).symm
         have hx : ¬ Don listed x := by
          intro hx
          rcases I.cN with h10 | ⟨d',h10,h11,h12,h13⟩
          ·omega
          ·rcases Nat.lt_or_ge c x with h14 | h14
           ·exact h13 (ordered_in I.closed (C.heavy c x d' dx h14 h11 h8 (by unfold isHeavy;simp [h12]) (by unfold isHeavy;simp [h9]) (by omega)) hx)
           ·have : x = c := by omega
            subst this;exact h13 hx
         refine C.free fs hfo i x d dx l (fo x) hd h8 h h9 ?_ ?_ (by rw [hfs i hlt,hfi]) (hfs x (by omega))
         ·cases hor : ordered (masks pl []) i x with
          | false => rfl
          | true => have := ordered_lt C hpl hor;omega
         ·cases hor : ordered (masks pl []) x i with
          | false => rfl
          | true => exact absurd (ordered_closed I.closed hor hp) hx
      have fin : ∀ {G1 : Gh} {w1 : World} {u : Value},WR P B0 w0 G1 (sts c).heap w1 → Ext G (sts c).heap w G1 (sts c).heap w1 (sts c).heap.length → VR G1 w1 (vs i) u →
        ∃ c' G' tmS' pb',Inv P B0 w0 B ds pl tm st K tms sts vs GS wS st'.lo (listed.setIfInBounds i true) (a.put o.dst u) w1 c' G' tmS' pb' := by
       intro G1 w1 u hw1 hx hv
       rw [← hdst]
       refine I.stay C hd hlt h2 hn hp (fun h => h3 h.2.1) hw1 (fun x dx hx' hxi hdx hwx hwtx q1 q2 => ⟨?_,?_⟩) (I.ext.trans (hx.lo (Nat.le_trans (hlox I.cK) (hlen0 I.cK)))) hx.pres (fun z b h => h.ext hx) hv ((I.df.ext hx (Nat.le_refl _)).le hx.size)
       ·cases hb : G1.be (sts x).heap.length with
        | none => rfl
        | some b => have := (hx.nbe hb q1).1;have := hholec hx' hdx hwx hwtx;omega
       ·cases hb : G1.tg (sts x).heap.length with
        | none => rfl
        | some b => have := (hx.ntg hb q2).1;have := hholec hx' hdx hwx hwtx;omega
      rcases hop with hopc | ⟨sz,nn,z,ps,hopc,hsh⟩
      ·obtain ⟨_,h7⟩ := oper_ok (st := { heap := (sts c).heap,lo := (sts c).heap.length }) hE hrec hopc (Nat.le_refl _) I.wr I.tv (hH rfl)
       exact h7 F n hF _ _ (fun G1 w1 u hw1 hx hv => fin hw1 hx hv)
      ·have hs3 := hH (st3 := { heap := (sts c).heap,lo := (sts c).heap.length }) rfl
       rw [hsh] at hs3
       obtain ⟨_,G1,w1,u,hrun,q1,q2,q3⟩ := ok_buildSliceS (st := { heap := (sts c).heap,lo := (sts c).heap.length }) hopc I.wr I.tv hs3
       refine ⟨fun f _ => hF.fn f,?_⟩
       rw [Oper.semAt_eq _ _ _ (opC_defer hopc)]
       have hrun' : (execOp a.eval o).run P w = _ := hrun
       rw [hrun']
       exact fin q1 (q2 _) q3
   ·rw [hwant] at h;cases h
  · -- the panic
   have hik : i = K := by omega
   subst hik
   rcases hend with ⟨h1,_⟩ | ⟨h1,d',v,st2,h2,h3,h4,h5,h6,h7⟩
   ·have := C.len;omega
   ·rw [hd] at h2;cases h2
    have hw2 : weight d.op = 2 := by
     rcases stepOp_panic h4 with h | ⟨x,h⟩
     ·revert h;cases d.op <;> simp [DOp.isCall,weight]
     ·rw [h];rfl
    have hopc : opC P mu o = some d.op := by
     rcases hop with h | ⟨_,_,_,_,_,h⟩
     ·exact h
     ·rw [h] at hw2;cases hw2
    have hck : c = i := by
     rcases I.cN with h | ⟨d',h8,h9,h10,h11⟩
     ·exact h
     ·exact absurd (ordered_closed I.closed (C.heavy c i d' d h8 h9 hd (by unfold isHeavy;simp [h10]) (by unfold isHeavy;simp [hw2]) (by omega)) hp) h11
    subst hck
    rw [← stepOp_congr hag1] at h4
    obtain ⟨_,h8⟩ := oper_ok (st := { sts c with lo := (sts c).heap.length }) hE hrec hopc (Nat.le_refl _) I.wr I.tv h4
    refine h8 F n hF _ _ (fun G1 w1 u hw1 hx hv => ?_)
    have hlo2 : st'.lo ≤ st2.lo := by rw [h7];exact Nat.min_le_right _ _
    have hh : st'.heap = st2.heap := by rw [h7]
    subst h5
    exact ⟨G1,by rw [hh];exact hw1,by rw [hh];exact I.ext.trans (hx.lo hlo2),⟨u,rfl,hv⟩,.inl trivial,(I.df.ext hx (Nat.le_refl _)).le hx.size⟩
 · -- it is not wanted
  rw [if_neg hwant]
  refine ⟨fun f _ => hF.fn f,?_⟩
  have hlt : i < K := by
   rcases Nat.lt_or_ge i K with h | h
   ·exact h
   ·exfalso
    have hik : i = K := by omega
    subst hik
    rcases hend with ⟨h1,_⟩ | ⟨h1,d',v,st2,h2,h3,_⟩
    ·have := C.len;omega
    ·rw [hd] at h2;cases h2;exact hwant h3
  rcases (T.step i d hlt hd).1 with ⟨h,_⟩ | ⟨_,hvi,hst,_⟩
  ·exact absurd h hwant
  ·rw [← hdst]
   have hu : VR G w (vs i) Go.undef := by rw [hvi];exact VR.undef
   by_cases h2 : weight d.op = 2
   ·have hic := I.turn C hd hlt h2 hn hp
    subst hic
    exact I.advance T C hd hlt h2 hn hp (by rw [hst];exact I.wr) (by rw [hst];exact I.ext) (.refl _ _) (fun _ _ h => h) hu I.df hgr
   ·exact I.stay C hd hlt h2 hn hp (fun h => hwant h.2.2) I.wr (fun x dx _ _ _ _ _ q1 q2 => ⟨q1,q2⟩) I.ext (.refl _ _) (fun _ _ h => h) hu I.df
end
end Go.Den
end
section
namespace Go.Den
section
variable {P : Program} {B0 : Nat} {w0 : World} {B : Nat} {ds : List DOper} {pl : List (List Nat)} {tm : List PV} {st : St} {K : Nat} {tms : Nat → List PV} {sts : Nat → St} {vs : Nat → PV} {GS : Gh} {wS : World} {E : Env} {rec : Rec} {fo : Nat → Foot} {mu : TypeId → Bool} {ops : Array Oper} {free : List (Nat × List Nat)}
 {listed : Array Bool} {a : Act} {w : World} {c : Nat} {G : Gh} {tmS : List PV} {pb : Nat → Nat} {e : Ex} {tm' : List PV} {st' : St} {fs : List Foot}
theorem ready_nil (C : Checked P mu ops ds pl free) (hsz : listed.size = ds.length) (h : Region.ready .any ops listed = []) : ∀ j,j < ops.size → Don listed j := by
 intro j
 induction j using Nat.strongRecOn with
 | _ j ih =>
  intro hj
  by_cases hn : Don listed j
  ·exact hn
  ·exfalso
   have hjl : j < listed.size := by rw [hsz,C.len];exact hj
   have : j ∈ Region.ready .any ops listed := by
    refine mem_ready.2 ⟨?_,ops[j],Array.getElem?_eq_getElem hj,fun ed he hb => ?_⟩
    ·unfold Don at hn
     rw [Array.getD_eq_getD_getElem?,Array.getElem?_eq_getElem hjl] at hn ⊢
     simpa using hn
    ·have hm : ed.on ∈ pl.getD j [] := by
      rw [C.plOf j _ (Array.getElem?_eq_getElem hj)]
      unfold preds
      exact List.mem_map.2 ⟨ed,List.mem_filter.2 ⟨by simpa using he,hb⟩,rfl⟩
     have hlt := C.preds j hj _ hm
     exact ih _ hlt (by omega)
   rw [h] at this
   cases this
theorem done_ok (T : Trace E rec ds tm st K tms sts vs fo) (C : Checked P mu ops ds pl free) (hend : TEnd E rec ds K tms sts e tm' st') (I : Inv P B0 w0 B ds pl tm st K tms sts vs GS wS st'.lo listed a w c G tmS pb) (hr : Region.ready .any ops listed = []) :
  Post P B0 w0 B GS st wS e tm' st' .normal a w := by
 have hall := ready_nil C I.sz hr
 rcases hend with ⟨h1,h2,h3,h4⟩ | ⟨h1,_⟩
 ·have hcK : c = K := by
   rcases I.cN with h | ⟨d,h5,h6,h7,h8⟩
   ·exact h
   ·exact absurd (hall c (by have := C.len;omega)) h8
  subst hcK
  subst h2
  have htm : tmS = tm' := by
   rw [h3]
   refine List.ext_getElem? (fun t => ?_)
   by_cases hwr : ∃ (i : Nat) (di : DOper),ds[i]? = some di ∧ di.dst = some t
   ·obtain ⟨i,di,hi,hd⟩ := hwr
    have hil : i < ds.length := (List.getElem?_eq_some_iff.1 hi).1
    have uniq : ∀ (x : Nat) (dx : DOper),x ≠ i → ds[x]? = some dx → dx.dst ≠ some t := fun x dx hx hdx => C.once i x di dx t (Ne.symm hx) hi hdx hd
    by_cases htl : t < tm.length
    ·rw [I.tn i di t (hall i (by have := C.len;omega)) hi hd htl (fun h => by have := h.1;have := C.len;omega),T.new (by omega) hi hd htl uniq (by omega) (Nat.le_refl _)]
    ·rw [List.getElem?_eq_none (by rw [I.tl];omega),List.getElem?_eq_none (by rw [T.tlen (Nat.le_refl _)];omega)]
   ·have h : ∀ (x : Nat) (dx : DOper),ds[x]? = some dx → dx.dst ≠ some t := fun x dx h1 h2 => hwr ⟨x,dx,h1,h2⟩
    rw [I.told t (fun x dx _ h2 => h x dx h2),T.old (Nat.le_refl _) (fun x dx _ h2 => h x dx h2)]
  exact ⟨G,by rw [h4];exact I.wr,by have := I.ext;rw [h4] at this ⊢;exact this,rfl,.inr (htm ▸ I.tv),I.df⟩
 ·exact absurd (I.SK K (hall K (by have := C.len;omega))) (Nat.lt_irrefl _)
theorem any_ok (hE : EnvOK P E) (hgr : GrowCall rec) (hrec : SoundCall P B0 w0 rec) (T : Trace E rec ds tm st K tms sts vs fo) (C : Checked P mu ops ds pl free) (hpl : pl.length = ops.size) (hend : TEnd E rec ds K tms sts e tm' st') (hfo : footOk fs free = true) (hfs : ∀ j,j < K → fs[j]? = some (fo j)) (hlo : st.lo ≤ st.heap.length)
  {F : Fence} {n : Nat} (hF : IsWide F) : ∀ (fuel : Nat) {listed : Array Bool} {a : Act} {w : World} {c : Nat} {G : Gh} {tmS : List PV} {pb : Nat → Nat},Inv P B0 w0 B ds pl tm st K tms sts vs GS wS st'.lo listed a w c G tmS pb → listed.toList.count false ≤ fuel →
  wpAnyIn F n P .any ops (Post P B0 w0 B GS st wS e tm' st') fuel listed a w
 | 0,listed,a,w,c,G,tmS,pb,I,hc => by
  have hr : Region.ready .any ops listed = [] := by
   rw [List.eq_nil_iff_forall_not_mem]
   intro i hi
   obtain ⟨h1,o,ho,_⟩ := mem_ready.1 hi
   have hlt : i < listed.size := by rw [I.sz,C.len];exact (Array.getElem?_eq_some_iff.1 ho).1
   rw [Array.getD_eq_getD_getElem?,Array.getElem?_eq_getElem hlt] at h1
   have : false ∈ listed.toList := by
    rw [← (show listed[i] = false by simpa using h1)]
    exact Array.mem_toList_iff.2 (Array.getElem_mem hlt)
   have := List.count_pos_iff.2 this
   omega
  exact ⟨hr,done_ok T C hend I hr⟩
 | fuel + 1,listed,a,w,c,G,tmS,pb,I,hc => by
  refine ⟨fun hr => done_ok T C hend I hr,fun i hi => ?_⟩
  refine wpOpIn_mono (fun a' w' h => ?_) (step_ok hE hgr hrec T C hpl hend hfo hfs hlo hF I hi)
  obtain ⟨c',G',tmS',pb',I'⟩ := h
  refine any_ok hE hgr hrec T C hpl hend hfo hfs hlo hF fuel I' ?_
  obtain ⟨h1,o,ho,_⟩ := mem_ready.1 hi
  have hlt : i < listed.size := by rw [I.sz,C.len];exact (Array.getElem?_eq_some_iff.1 ho).1
  rw [Array.getD_eq_getD_getElem?,Array.getElem?_eq_getElem hlt] at h1
  have h2 : listed[i] = false := by simpa using h1
  rw [Array.toList_setIfInBounds,List.count_set (by simpa using hlt)]
  simp [h2]
  have : false ∈ listed.toList := by rw [← h2];exact Array.mem_toList_iff.2 (Array.getElem_mem hlt)
  have := List.count_pos_iff.2 this
  simp at this hc
  omega
theorem draw_ok (hm : P.follows .mixedOrders = true) (hE : EnvOK P E) (hgr : GrowCall rec) (hrec : SoundCall P B0 w0 rec) : SoundDraw P B0 w0 E rec := by
 intro mu id ops ds free hc tm st e tm' st' fs hs hfo hlo F n hF B G w a hw ht hd
 obtain ⟨K,tms,sts,vs,fo,T,hend,hfs⟩ := trace_of hs
 have C := checked hc
 refine wpIn_region_any hm ?_
 have hxs : ∀ lo,Ext G st.heap w G st.heap { w with drawn := w.drawn + 1 } lo := fun lo => Ext.same rfl
 have hD : ∀ i,¬ Don (Array.replicate ops.size false) i := fun i => by
  unfold Don
  rw [Array.getD_eq_getD_getElem?,Array.getElem?_replicate]
  split <;> simp
 have I0 : Inv0 P B0 w0 B ds (ops.toList.map preds) tm st K tms sts vs G w st'.lo (Array.replicate ops.size false) a { w with drawn := w.drawn + 1 } 0 G tm (fun _ => 0) :=
  ⟨by simp [C.len],fun j hj => absurd hj (hD j),Nat.zero_le _,fun i d h5 => absurd h5 (Nat.not_lt_zero _),fun i hi => absurd hi (hD i),by rw [T.z2];exact WR.same (w' := { w with drawn := w.drawn + 1 }) hw rfl,fun i d h5 => absurd h5 (Nat.not_lt_zero _),by rw [T.z2];exact hxs _,rfl,VRL.mono (hxs 0).pres ht,fun i d t hi => absurd hi (hD i),fun i d t hi => absurd hi (hD i),fun i d hi => absurd hi (hD i),fun i j d d' hi => absurd hi (hD i),fun t _ => rfl,hd.ext (hxs 0) (Nat.le_refl _)⟩
 obtain ⟨c,G',tmS',I⟩ := I0.to T C hgr (fun x d _ _ _ _ => hD x)
 refine any_ok (fs := fs) (free := free) hE hgr hrec T C (by simp) hend hfo hfs hlo hF _ I ?_
 simp
end
theorem run_ok {P : Program} {B0 : Nat} {w0 : World} {E : Env} (hm : P.follows .mixedOrders = true) (hE : EnvOK P E) (hF : EnvFn P E) (hP : PrimOK P B0 w0 E) (hPg : PrimGrows E) (N : Nat) : SoundCall P B0 w0 (run E N) ∧ SoundCode P B0 w0 (run E N) :=
 run_sound hE hF hP hPg (fun _ hgr hrec => draw_ok hm hE hgr hrec) N
end Go.Den
end
section
namespace Go.Den
section
variable {E : Env}
def Wp (E : Env) (c : DCode) (Q : Ex → List PV → St → Prop) (tm : List PV) (st : St) : Prop :=
 ∃ N e tm' st',(∀ n,N ≤ n → (run E n).code c tm st = some (e,tm',st')) ∧ Q e tm' st'
def Cl (E : Env) (f : PV) (args : List PV) (st : St) (r : CR) (st' : St) : Prop := ∃ N,∀ n,N ≤ n → (run E n).call f args st = some (r,st')
variable {Q : Ex → List PV → St → Prop} {tm : List PV} {st : St}
theorem Wp.mono {c : DCode} {Q' : Ex → List PV → St → Prop} (h : Wp E c Q tm st) (hq : ∀ e tm st,Q e tm st → Q' e tm st) : Wp E c Q' tm st := by
 obtain ⟨N,e,tm',st',h1,h2⟩ := h
 exact ⟨N,e,tm',st',h1,hq _ _ _ h2⟩
theorem Wp.of_step {c : DCode} {e : Ex} {tm' : List PV} {st' : St} (N : Nat) (h : ∀ n,N ≤ n → stepCode E (run E n) c tm st = some (e,tm',st')) (hq : Q e tm' st') : Wp E c Q tm st := by
 refine ⟨N + 1,e,tm',st',fun n hn => ?_,hq⟩
 obtain ⟨m,rfl⟩ : ∃ m,n = m + 1 := ⟨n - 1,by omega⟩
 exact h m (by omega)
theorem wp_skip (h : Q .normal tm st) : Wp E .skip Q tm st := .of_step 0 (fun _ _ => rfl) h
theorem wp_ret (h : Q .ret tm st) : Wp E .ret Q tm st := .of_step 0 (fun _ _ => rfl) h
theorem wp_exit {id : Nat} (h : Q (.exit id) tm st) : Wp E (.exit id) Q tm st := .of_step 0 (fun _ _ => rfl) h
def andThen (K : List PV → St → Prop) (Q : Ex → List PV → St → Prop) : Ex → List PV → St → Prop
 | .normal,tm,st => K tm st
 | e,tm,st => Q e tm st
theorem wp_seq {a b : DCode} (h : Wp E a (andThen (Wp E b Q) Q) tm st) : Wp E (.seq a b) Q tm st := by
 obtain ⟨N,e,tm1,st1,h1,h2⟩ := h
 cases e with
 | normal =>
  obtain ⟨M,e,tm2,st2,h3,h4⟩ := h2
  refine .of_step (max N M) (fun n hn => ?_) h4
  simp only [stepCode,h1 n (by omega),h3 n (by omega)]
 | ret => exact .of_step N (fun n hn => by simp only [stepCode,h1 n hn]) h2
 | exit id => exact .of_step N (fun n hn => by simp only [stepCode,h1 n hn]) h2
 | panic v => exact .of_step N (fun n hn => by simp only [stepCode,h1 n hn]) h2
theorem wp_cond {c : Opd} {a b : DCode} {t : Bool} (hc : c.ev tm = .bool t) (h : Wp E (if t then a else b) Q tm st) : Wp E (.cond c a b) Q tm st := by
 obtain ⟨N,e,tm1,st1,h1,h2⟩ := h
 refine .of_step N (fun n hn => ?_) h2
 simp only [stepCode,hc]
 cases t <;> exact h1 n hn
def inBlock (id : Nat) (Q : Ex → List PV → St → Prop) : Ex → List PV → St → Prop
 | .exit i,tm,st => if i = id then Q .normal tm st else Q (.exit i) tm st
 | e,tm,st => Q e tm st
theorem wp_block {id : Nat} {b : DCode} (h : Wp E b (inBlock id Q) tm st) : Wp E (.block id b) Q tm st := by
 obtain ⟨N,e,tm1,st1,h1,h2⟩ := h
 cases e with
 | exit i =>
  simp only [inBlock] at h2
  split at h2
  ·rename_i hi;exact .of_step N (fun n hn => by simp only [stepCode,h1 n hn,hi,if_true]) h2
  ·rename_i hi;exact .of_step N (fun n hn => by simp only [stepCode,h1 n hn,hi,if_false]) h2
 | normal => exact .of_step N (fun n hn => by simp only [stepCode,h1 n hn]) h2
 | ret => exact .of_step N (fun n hn => by simp only [stepCode,h1 n hn]) h2
 | panic v => exact .of_step N (fun n hn => by simp only [stepCode,h1 n hn]) h2
theorem wp_scope {b : DCode} (h : Wp E b Q tm st) : Wp E (.scope b) Q tm st := by
 obtain ⟨N,e,tm1,st1,h1,h2⟩ := h
 exact .of_step N (fun n hn => by simp only [stepCode,h1 n hn]) h2
theorem wp_loop {b : DCode} (J : Nat → List PV → St → Prop) (h : ∀ k tm st,J k tm st → Wp E b (andThen (fun tm st => ∃ j,j < k ∧ J j tm st) Q) tm st) : ∀ k {tm st},J k tm st → Wp E (.loop b) Q tm st := by
 intro k
 induction k using Nat.strongRecOn with
 | _ k ih =>
  intro tm st hJ
  obtain ⟨N,e,tm1,st1,h1,h2⟩ := h k tm st hJ
  cases e with
  | normal =>
   obtain ⟨j,hj,hJ1⟩ := h2
   obtain ⟨M,e,tm2,st2,h3,h4⟩ := ih j hj hJ1
   refine .of_step (max N M) (fun n hn => ?_) h4
   simp only [stepCode,h1 n (by omega),h3 n (by omega)]
  | ret => exact .of_step N (fun n hn => by simp only [stepCode,h1 n hn]) h2
  | exit id => exact .of_step N (fun n hn => by simp only [stepCode,h1 n hn]) h2
  | panic v => exact .of_step N (fun n hn => by simp only [stepCode,h1 n hn]) h2
theorem wp_region {ops : List DOper} {e : Ex} {tm' : List PV} {st' : St} (N : Nat) (h : ∀ n,stepOps E (run E (n + N)) ops tm st = some (e,tm',st')) (hq : Q e tm' st') : Wp E (.region ops) Q tm st :=
 .of_step N (fun n hn => by
  have := h (n - N)
  rw [Nat.sub_add_cancel hn] at this
  exact this) hq
theorem cl_of_wp {g : Nat} {a c args : List PV} {df : DFunc} {r : CR} {st' : St} (hp : ∀ rec,E.prim g rec (a ++ args ++ c) st = none) (hf : E.fn g = some df)
  (h : Wp E df.body (fun e tm1 st1 => match e with
   | .normal | .ret => ∃ v,results tm1 st1.heap df.results = some v ∧ ∃ v',finishCall st st1 v = (v',st') ∧ r = .ret v'
   | .panic v => r = .panic v ∧ st' = { heap := st1.heap,lo := min st.lo st1.lo }
   | .exit _ => False) ((a ++ args ++ c) ++ List.replicate (df.ntmps - (a ++ args ++ c).length) undef) { st with lo := st.heap.length }) : Cl E (.func g a c) args st r st' := by
 obtain ⟨N,e,tm1,st1,h1,h2⟩ := h
 refine ⟨N + 1,fun n hn => ?_⟩
 obtain ⟨m,rfl⟩ : ∃ m,n = m + 1 := ⟨n - 1,by omega⟩
 show stepCall E (run E m) (.func g a c) args st = _
 simp only [stepCall,enter,hp,hf,h1 m (by omega)]
 cases e with
 | normal => obtain ⟨v,h3,v',h4,h5⟩ := h2;simp only [h3,h4,h5]
 | ret => obtain ⟨v,h3,v',h4,h5⟩ := h2;simp only [h3,h4,h5]
 | panic v => obtain ⟨h3,h4⟩ := h2;rw [h3,h4]
 | exit id => exact h2.elim
end
theorem andThen_normal {K : List PV → St → Prop} {Q : Ex → List PV → St → Prop} {tm : List PV} {st : St} (h : K tm st) : andThen K Q .normal tm st := h
theorem andThen_ret {K : List PV → St → Prop} {Q : Ex → List PV → St → Prop} {tm : List PV} {st : St} (h : Q .ret tm st) : andThen K Q .ret tm st := h
theorem andThen_exit {K : List PV → St → Prop} {Q : Ex → List PV → St → Prop} {tm : List PV} {st : St} {i : Nat} (h : Q (.exit i) tm st) : andThen K Q (.exit i) tm st := h
theorem inBlock_normal {Q : Ex → List PV → St → Prop} {tm : List PV} {st : St} {id : Nat} (h : Q .normal tm st) : inBlock id Q .normal tm st := h
theorem inBlock_ret {Q : Ex → List PV → St → Prop} {tm : List PV} {st : St} {id : Nat} (h : Q .ret tm st) : inBlock id Q .ret tm st := h
theorem inBlock_same {Q : Ex → List PV → St → Prop} {tm : List PV} {st : St} {id : Nat} (h : Q .normal tm st) : inBlock id Q (.exit id) tm st := by simpa [inBlock] using h
theorem inBlock_other {Q : Ex → List PV → St → Prop} {tm : List PV} {st : St} {id i : Nat} (hn : i ≠ id) (h : Q (.exit i) tm st) : inBlock id Q (.exit i) tm st := by simpa [inBlock,hn] using h
attribute [irreducible] Wp andThen inBlock
end Go.Den
end
section
namespace Go.Den
def tg (tm : List PV) (i : Nat) : PV := tm.getD i undef
theorem ev_t (tm : List PV) (i : Nat) : (Opd.t i).ev tm = tg tm i := rfl
theorem ev_c (tm : List PV) (v : PV) : (Opd.c v).ev tm = v := rfl
theorem put_len (tm : List PV) (d : Option Nat) (v : PV) : (put tm d v).length = tm.length := by cases d <;> simp [put]
theorem tg_same {tm : List PV} {d : Nat} {v : PV} (h : d < tm.length) : tg (put tm (some d) v) d = v := by
 simp [tg,put,List.getD_eq_getElem?_getD,h]
theorem tg_ne {tm : List PV} {d i : Nat} {v : PV} (h : d ≠ i) : tg (put tm (some d) v) i = tg tm i := by
 simp [tg,put,List.getD_eq_getElem?_getD,List.getElem?_set_ne h]
theorem tg_none {tm : List PV} {i : Nat} {v : PV} : tg (put tm none v) i = tg tm i := rfl
theorem wants_none (tm : List PV) : wants tm none = true := rfl
theorem wants_tg (tm : List PV) (d : Nat) (b : Bool) : wants tm (some (d,b)) = match tg tm d with
  | .bool c => c == b
  | _ => false := by
 simp only [wants,tg,List.getD_eq_getElem?_getD]
 cases h : tm[d]? with
 | none => simp [undef]
 | some v => cases v <;> rfl
theorem evs_nil (tm : List PV) : evs tm [] = [] := rfl
theorem evs_cons (tm : List PV) (x : Opd) (xs : List Opd) : evs tm (x :: xs) = x.ev tm :: evs tm xs := rfl
section
variable {E : Env} {Q : Ex → List PV → St → Prop} {tm : List PV} {st : St}
def WOps (E : Env) (ops : List DOper) (Q : Ex → List PV → St → Prop) (tm : List PV) (st : St) : Prop :=
 ∃ N e tm' st',(∀ n,N ≤ n → stepOps E (run E n) ops tm st = some (e,tm',st')) ∧ Q e tm' st'
theorem wp_region_ops {ops : List DOper} (h : WOps E ops Q tm st) : Wp E (.region ops) Q tm st := by
 obtain ⟨N,e,tm',st',h1,h2⟩ := h
 exact .of_step N (fun n hn => h1 n hn) h2
theorem wops_nil (h : Q .normal tm st) : WOps E [] Q tm st := ⟨0,_,_,_,fun _ _ => rfl,h⟩
theorem wops_cons {o : DOp} {dst : Option Nat} {g : Option (Nat × Bool)} {os : List DOper} {v : PV} {st1 : St} (hw : wants tm g = true) (N : Nat) (ho : ∀ n,N ≤ n → stepOp E (run E n) tm st o = some (.val v st1)) (h : WOps E os Q (put tm dst v) st1) : WOps E (⟨o,dst,g⟩ :: os) Q tm st := by
 obtain ⟨M,e,tm',st',h1,h2⟩ := h
 refine ⟨max N M,e,tm',st',fun n hn => ?_,h2⟩
 simp only [stepOps,hw,if_true,ho n (by omega),h1 n (by omega)]
theorem wops_skip {o : DOp} {dst : Option Nat} {g : Option (Nat × Bool)} {os : List DOper} (hw : wants tm g = false) (h : WOps E os Q (put tm dst undef) st) : WOps E (⟨o,dst,g⟩ :: os) Q tm st := by
 obtain ⟨M,e,tm',st',h1,h2⟩ := h
 refine ⟨M,e,tm',st',fun n hn => ?_,h2⟩
 simp only [stepOps,hw,Bool.false_eq_true,if_false,h1 n hn]
theorem wops_one {o : DOp} {dst : Option Nat} {g : Option (Nat × Bool)} {os : List DOper} {v : PV} {st1 : St} (hw : wants tm g = true) (ho : ∀ rec,stepOp E rec tm st o = some (.val v st1)) (h : WOps E os Q (put tm dst v) st1) : WOps E (⟨o,dst,g⟩ :: os) Q tm st :=
 wops_cons hw 0 (fun n _ => ho _) h
theorem wops_call {f : Opd} {args : List Opd} {dst : Option Nat} {g : Option (Nat × Bool)} {os : List DOper} {fv : PV} {v : PV} {st1 : St} (hw : wants tm g = true) (hf : f.ev tm = fv) (hc : Cl E fv (evs tm args) st (.ret v) st1) (h : WOps E os Q (put tm dst v) st1) : WOps E (⟨.call f args,dst,g⟩ :: os) Q tm st := by
 obtain ⟨N,hN⟩ := hc
 refine wops_cons hw N (fun n hn => ?_) h
 simp only [stepOp,hf,hN n hn]
def Finer (fs' fs : List Foot) : Prop := fs'.length = fs.length ∧ ∀ (i : Nat) (f' f : Foot),fs'[i]? = some f' → fs[i]? = some f → (∀ l,clash l f' = true → clash l f = true) ∧ ∀ l,f' = .ld l → f = .ld l
theorem Finer.refl (fs : List Foot) : Finer fs fs := ⟨rfl,fun i f' f h1 h2 => by rw [h1] at h2;cases h2;exact ⟨fun _ h => h,fun _ h => h⟩⟩
theorem Finer.cons {fs' fs : List Foot} (h : Finer fs' fs) {f' f : Foot} (h1 : ∀ l,clash l f' = true → clash l f = true) (h2 : ∀ l,f' = .ld l → f = .ld l) : Finer (f' :: fs') (f :: fs) := by
 refine ⟨by simp [h.1],fun i g' g h3 h4 => ?_⟩
 cases i with
 | zero => simp at h3 h4;subst h3 h4;exact ⟨h1,h2⟩
 | succ i => exact h.2 i g' g (by simpa using h3) (by simpa using h4)
theorem Finer.ok {fs' fs : List Foot} (h : Finer fs' fs) {free : List (Nat × List Nat)} (ho : footOk fs free = true) : footOk fs' free = true := by
 simp only [footOk,List.all_eq_true] at ho ⊢
 intro p hp
 have h1 := ho p hp
 split
 ·rename_i l hl
  have hlt : p.1 < fs.length := by rw [← h.1];exact (List.getElem?_eq_some_iff.1 hl).1
  have h2 := (h.2 p.1 _ _ hl (List.getElem?_eq_getElem hlt)).2 l rfl
  have h3 : fs[p.1]? = some (.ld l) := by rw [List.getElem?_eq_getElem hlt,h2]
  rw [h3] at h1
  simp only [List.all_eq_true] at h1 ⊢
  intro j hj
  have h4 := h1 j hj
  split
  ·rename_i f' hf'
   have hjt : j < fs.length := by rw [← h.1];exact (List.getElem?_eq_some_iff.1 hf').1
   have h5 := (h.2 j _ _ hf' (List.getElem?_eq_getElem hjt)).1 l
   rw [List.getElem?_eq_getElem hjt] at h4
   simp only at h4
   cases hc : clash l f' with
   | false => rfl
   | true => rw [h5 hc] at h4;cases h4
  ·rfl
 ·rfl
def WOpsD (E : Env) (ops : List DOper) (Q : Ex → List PV → St → List Foot → Prop) (tm : List PV) (st : St) : Prop :=
 ∃ N e tm' st' fs' fs,(∀ n,N ≤ n → stepOpsD E (run E n) ops tm st = some (e,tm',st',fs')) ∧ Finer fs' fs ∧ Q e tm' st' fs
theorem wp_dregion_ops {ops : List DOper} {free : List (Nat × List Nat)} (h : WOpsD E ops (fun e tm st fs => footOk fs free = true ∧ Q e tm st) tm st) : Wp E (.dregion ops free) Q tm st := by
 obtain ⟨N,e,tm',st',fs',fs,h1,h4,h2,h3⟩ := h
 exact .of_step N (fun n hn => by simp only [stepCode,h1 n hn,h4.ok h2,if_true]) h3
variable {QD : Ex → List PV → St → List Foot → Prop}
theorem wopsD_nil (h : QD .normal tm st []) : WOpsD E [] QD tm st := ⟨0,_,_,_,_,_,fun _ _ => rfl,.refl _,h⟩
theorem wopsD_cons {o : DOp} {dst : Option Nat} {g : Option (Nat × Bool)} {os : List DOper} {v : PV} {st1 : St} (hw : wants tm g = true) (N : Nat) (ho : ∀ n,N ≤ n → stepOp E (run E n) tm { st with lo := st.heap.length } o = some (.val v st1))
  (h : WOpsD E os (fun e tm' st' fs => QD e tm' st' (footOf tm o st.heap.length st1.lo :: fs)) (put tm dst v) { st1 with lo := min st.lo st1.lo }) : WOpsD E (⟨o,dst,g⟩ :: os) QD tm st := by
 obtain ⟨M,e,tm',st',fs',fs,h1,h3,h2⟩ := h
 refine ⟨max N M,e,tm',st',_,_,fun n hn => ?_,h3.cons (f' := fineOf o (footOf tm o st.heap.length st1.lo) st.heap st1.heap) (fun l hc => fine_le hc) (fun l hc => fine_ld hc),h2⟩
 simp only [stepOpsD,hw,if_true,ho n (by omega),h1 n (by omega)]
theorem wopsD_fine {f : Opd} {args : List Opd} {dst : Option Nat} {g : Option (Nat × Bool)} {os : List DOper} {v : PV} {st1 : St} (hw : wants tm g = true) (N : Nat) (ho : ∀ n,N ≤ n → stepOp E (run E n) tm { st with lo := st.heap.length } (.call f args) = some (.val v st1))
  (h : WOpsD E os (fun e tm' st' fs => QD e tm' st' (.ch st1.lo st.heap st1.heap :: fs)) (put tm dst v) { st1 with lo := min st.lo st1.lo }) : WOpsD E (⟨.call f args,dst,g⟩ :: os) QD tm st := by
 obtain ⟨M,e,tm',st',fs',fs,h1,h3,h2⟩ := h
 refine ⟨max N M,e,tm',st',_,_,fun n hn => ?_,h3.cons (f' := fineOf (.call f args) (footOf tm (.call f args) st.heap.length st1.lo) st.heap st1.heap) (fun l hc => ?_) (fun l hc => ?_),h2⟩
 ·simp only [stepOpsD,hw,if_true,ho n (by omega),h1 n (by omega)]
 ·simp only [footOf] at hc
  split at hc
  ·simp [fineOf,clash] at hc
  ·exact hc
 ·simp only [footOf] at hc
  split at hc <;> simp [fineOf] at hc
theorem wopsD_skip {o : DOp} {dst : Option Nat} {g : Option (Nat × Bool)} {os : List DOper} (hw : wants tm g = false) (h : WOpsD E os (fun e tm' st' fs => QD e tm' st' (.quiet :: fs)) (put tm dst undef) st) : WOpsD E (⟨o,dst,g⟩ :: os) QD tm st := by
 obtain ⟨M,e,tm',st',fs',fs,h1,h3,h2⟩ := h
 refine ⟨M,e,tm',st',_,_,fun n hn => ?_,h3.cons (fun _ h => h) (fun _ h => h),h2⟩
 simp only [stepOpsD,hw,Bool.false_eq_true,if_false,h1 n hn]
theorem wopsD_pure {o : DOp} {dst : Option Nat} {g : Option (Nat × Bool)} {os : List DOper} {v : PV} (hlo : st.lo ≤ st.heap.length) (hw : wants tm g = true) (ho : ∀ rec (st1 : St),st1.heap = st.heap → stepOp E rec tm st1 o = some (.val v st1))
  (h : WOpsD E os (fun e tm' st' fs => QD e tm' st' (footOf tm o st.heap.length st.heap.length :: fs)) (put tm dst v) st) : WOpsD E (⟨o,dst,g⟩ :: os) QD tm st := by
 refine wopsD_cons hw 0 (fun n _ => ho _ _ rfl) ?_
 simp only [Nat.min_eq_left hlo]
 exact h
end
theorem wops_one' {E : Env} {Q : Ex → List PV → St → Prop} {tm : List PV} {st : St} {o : DOp} {dst : Option Nat} {g : Option (Nat × Bool)} {os : List DOper} {b : Bool} {r : Option OpR} {v : PV} {st1 : St} (hw : wants tm g = b) (hb : b = true) (ho : ∀ rec,stepOp E rec tm st o = r) (hr : r = some (.val v st1)) (h : WOps E os Q (put tm dst v) st1) : WOps E (⟨o,dst,g⟩ :: os) Q tm st :=
 wops_one (hw.trans hb) (fun rec => (ho rec).trans hr) h
def FnQ (rs : List DRes) (st : St) (r : CR) (st' : St) : Ex → List PV → St → Prop := fun e tm1 st1 => match e with
 | .normal | .ret => ∃ v,results tm1 st1.heap rs = some v ∧ ∃ v',finishCall st st1 v = (v',st') ∧ r = .ret v'
 | .panic v => r = .panic v ∧ st' = { heap := st1.heap,lo := min st.lo st1.lo }
 | .exit _ => False
theorem cl_fn {E : Env} {st : St} {g : Nat} {a c args : List PV} {n : Nat} {rs : List DRes} {b : DCode} {r : CR} {st' : St} (hp : ∀ rec,E.prim g rec (a ++ args ++ c) st = none) (hf : E.fn g = some ⟨n,rs,b⟩) (k : Nat) (hk : (a ++ args ++ c).length = k) (hkn : k ≤ n)
  (h : ∀ tm,tm.length = n → (∀ i,i < k → tg tm i = (a ++ args ++ c).getD i undef) → Wp E b (FnQ rs st r st') tm { heap := st.heap,lo := st.heap.length }) : Cl E (.func g a c) args st r st' := by
 refine cl_of_wp hp hf (h _ (by simp at hk ⊢;omega) (fun i hi => ?_))
 unfold tg
 rw [List.getD_eq_getElem?_getD,List.getD_eq_getElem?_getD,List.getElem?_append_left (by omega)]
def PV.scalar : PV → Bool
 | .bool _ | .int _ _ | .str _ | .nilptr | .nilslice | .nilmap | .nilfunc | .niliface => true
 | _ => false
def PV.plain : PV → Bool
 | .agg cs => cs.all PV.scalar
 | .tuple cs => cs.all fun p => p.scalar || (match p with | .agg cs => cs.all PV.scalar | _ => false)
 | v => v.scalar
theorem scalar_low {m : Nat} {p : PV} (h : p.scalar = true) : p.low m = true := by cases p <;> simp_all [PV.scalar,PV.low]
theorem scalars_low {m : Nat} : ∀ {cs : List PV},cs.all PV.scalar = true → lowL m cs = true
 | [],_ => rfl
 | c :: cs,h => by
  simp only [List.all_cons,Bool.and_eq_true] at h
  simp only [lowL,Bool.and_eq_true]
  exact ⟨scalar_low h.1,scalars_low h.2⟩
def PV.flat (p : PV) : Bool := p.scalar || (match p with | .agg cs => cs.all PV.scalar | _ => false)
theorem flat_low {m : Nat} {p : PV} (h : p.flat = true) : p.low m = true := by
 unfold PV.flat at h
 simp only [Bool.or_eq_true] at h
 rcases h with h | h
 ·exact scalar_low h
 ·cases p <;> simp at h
  rename_i cs
  simp only [PV.low]
  exact scalars_low (by simpa using h)
theorem flat_freeze {m : Nat} {h : List HObj} {p : PV} (hp : p.flat = true) : freeze1 m h p = (p,h) := by
 cases p <;> first | rfl | (simp [PV.flat,PV.scalar] at hp)
theorem flat_retag {m : Nat} {h : List HObj} {s : List Nat} {p : PV} (hp : p.flat = true) : retag1 h m s p = some (p,s) := by
 have := flat_low (m := m) hp
 cases p <;> first | (simp [retag1,this];done) | (simp [PV.flat,PV.scalar] at hp)
theorem flats_freeze {m : Nat} {h : List HObj} : ∀ {ps : List PV},ps.all PV.flat = true → freezeL m h ps = (ps,h)
 | [],_ => rfl
 | p :: ps,hp => by
  simp only [List.all_cons,Bool.and_eq_true] at hp
  simp only [freezeL,flat_freeze hp.1,flats_freeze hp.2]
theorem flats_retag {m : Nat} {h : List HObj} {s : List Nat} : ∀ {ps : List PV},ps.all PV.flat = true → retagL h m s ps = some (ps,s)
 | [],_ => rfl
 | p :: ps,hp => by
  simp only [List.all_cons,Bool.and_eq_true] at hp
  simp only [retagL,flat_retag hp.1,flats_retag hp.2]
theorem finish_flat {st st1 : St} {v : PV} (h : st.heap.length ≤ st1.lo) (hv : v.flat = true) : finishCall st st1 v = (v,st) := by
 unfold finishCall
 rw [if_pos h]
 have hl : letGo st.heap.length st1.heap v = some (v,0) := by
  cases v <;> simp only [letGo,flat_freeze hv,flat_retag hv,Option.map_some,List.length_nil]
  case agg cs =>
   have : cs.all PV.flat = true := by
    simp only [PV.flat,PV.scalar,Bool.false_or,List.all_eq_true] at hv ⊢
    intro x hx
    simp [hv x hx]
   simp [flats_freeze this,flats_retag this]
  case tuple cs => simp [PV.flat,PV.scalar] at hv
 rw [hl]
 simp
theorem finish_tuple {st st1 : St} {vs : List PV} (h : st.heap.length ≤ st1.lo) (hv : vs.all PV.flat = true) : finishCall st st1 (.tuple vs) = (.tuple vs,st) := by
 unfold finishCall
 rw [if_pos h]
 simp [letGo,flats_freeze hv,flats_retag hv]
theorem fnq_flat {rs : List DRes} {st : St} {tm1 : List PV} {st1 : St} {v : PV} (hr : results tm1 st1.heap rs = some v) (h : st.heap.length ≤ st1.lo) (hv : v.flat = true) : FnQ rs st (.ret v) st .ret tm1 st1 := ⟨v,hr,v,finish_flat h hv,rfl⟩
theorem fnq_tuple {rs : List DRes} {st : St} {tm1 : List PV} {st1 : St} {vs : List PV} (hr : results tm1 st1.heap rs = some (.tuple vs)) (h : st.heap.length ≤ st1.lo) (hv : vs.all PV.flat = true) : FnQ rs st (.ret (.tuple vs)) st .ret tm1 st1 := ⟨_,hr,_,finish_tuple h hv,rfl⟩
theorem rdRes_tmp (tm : List PV) (h : List HObj) (t : Nat) : rdRes tm h (.tmp t) = some (tg tm t) := rfl
theorem rdRes_cell {tm : List PV} {h : List HObj} {t l off : Nat} {agg : Bool} {sz : Nat} (ht : tg tm t = .ptr l off) : rdRes tm h (.cell t agg sz) = match h[l]? with
  | some (.var cs) => if off ≤ cs.length then rdPart agg sz (cs.drop off) else none
  | _ => none := by
 unfold tg at ht
 simp only [rdRes,ht]
 rfl
theorem results_one {tm : List PV} {h : List HObj} {r : DRes} {v : PV} (hr : rdRes tm h r = some v) : results tm h [r] = some v := by simp [results,rdResL,hr]
theorem results_two {tm : List PV} {h : List HObj} {r s : DRes} {v u : PV} (hr : rdRes tm h r = some v) (hs : rdRes tm h s = some u) : results tm h [r,s] = some (.tuple [v,u]) := by simp [results,rdResL,hr,hs]
attribute [irreducible] WOps WOpsD FnQ
end Go.Den
end

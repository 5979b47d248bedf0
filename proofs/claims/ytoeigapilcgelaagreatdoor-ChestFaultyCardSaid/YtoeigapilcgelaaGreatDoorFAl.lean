/- Part of the proof that for every input the function ChestFaulty returns true and each argument reads as it did. Texts: DenOpsH. -/
import Derived.Test.YtoeigapilcgelaaGreatDoorFAk
set_option linter.unusedSimpArgs false
set_option linter.unusedVariables false
section
namespace Go.Den
section
variable {P : Program} {B0 : Nat} {w0 : World} {G : Gh} {st : St} {w : World} {tm : List PV} {a : Act} {o : Oper} {E : Env} {rec : Rec} {v : PV} {st' : St}
theorem bytesOf_ok : ∀ {cs : List PV} {l : List UInt8} {vs : List Value}, bytesOf cs = some l → VRL G w cs vs → ∃ ns : List Int, vs = ns.map (Value.int .u8) ∧ l = ns.map (fun n => UInt8.ofNat n.toNat)
  | [], l, vs, h, hv => by simp only [bytesOf] at h; cases h; exact ⟨[], VRL.nil_iff.1 hv, rfl⟩
  | p :: ps, l, vs, h, hv => by
    obtain ⟨u, vs', rfl, h1, h2⟩ := VRL.cons_iff.1 hv
    unfold bytesOf at h
    split at h
    · rename_i h0; cases h0
    · rename_i n r h0
      cases h0
      obtain ⟨l', h3, h4⟩ := Option.map_eq_some_iff.1 h
      subst h4
      obtain ⟨ns, h5, h6⟩ := bytesOf_ok h3 h2
      exact ⟨n :: ns, by rw [h1.int_inv, h5]; rfl, by rw [h6]; rfl⟩
    · cases h
theorem bytesToString_run {b off n cap : Nat} {ns : List Int} (hn : ns.length = n) (h : ∀ j v, (ns.map (Value.int .u8))[j]? = some v → w.cell? ((⟨b, off, none⟩ : Addr).add j) = some v) :
    (Conv.bytesToString (.slice (some ⟨b, off, none⟩) n cap)).run P w = .ok (.string ⟨(ns.map (fun n => UInt8.ofNat n.toNat)).toArray⟩) w := by
  unfold Conv.bytesToString
  have hl := run_loadCells_list (P := P) w ⟨b, off, none⟩ (ns.map (Value.int .u8)) h
  rw [List.length_map, hn] at hl
  simp only [Sem.run_bind, hl, Result.andThen_ok]
  rw [← Array.forIn_toList]
  have key : ∀ (ns : List Int) (acc : ByteArray), List.foldl (fun (b : ByteArray) (a : Int) => b.push (UInt8.ofNat a.toNat)) acc ns = ⟨acc.data ++ (ns.map (fun n => UInt8.ofNat n.toNat)).toArray⟩ := by
    intro ns
    induction ns with
    | nil => intro acc; simp
    | cons n ns ih =>
      intro acc
      simp only [List.foldl_cons, ih]
      cases acc
      simp [ByteArray.push]
  have := key ns ⟨#[]⟩
  simp only [Array.empty_append] at this
  simp [ByteArray.empty, ByteArray.emptyWithCapacity]
  exact this
theorem ok_bytesToStr (hw : WR P B0 w0 G st.heap w) (ht : VRL G w tm a.tmps.toList) {s t e : TypeId} {x : Operand} {d : Opd} (ho : o.op = .convert s t x) (hsrc : P.underlying s = some (.slice e)) (he : P.underlying e = some (.int .u8)) (hdst : P.underlying t = some .string) (hd : opd x = some d)
    (hs : stepOp E rec tm st (.bytesToStr d) = some (.val v st')) : Yields P B0 w0 G st w v st' (OpRun P a o w) := by
  have hx := opd_ok ht hd
  have conv : ∀ {b : Option Addr} {n c : Nat} {u : Value}, a.eval x = .slice b n c → (Conv.bytesToString (.slice b n c)).run P w = .ok u w → OpRun P a o w = .ok (.value u) w := by
    intro b n c u h1 h2
    refine OpRun.val (by unfold execOp; rw [ho]) ?_
    cases b <;> simp [convert, run_underlying hsrc, run_underlying hdst, run_underlying he, h1, h2]
  simp only [stepOp] at hs
  split at hs
  · rename_i hev
    cases hs
    rw [hev] at hx
    simp only [VR] at hx
    exact .pure hw (conv hx (by simp [Conv.bytesToString])) VR.str_mk
  · rename_i oo n cs hev
    split at hs
    · rename_i hlen
      obtain ⟨l, h1, h2⟩ := Option.map_eq_some_iff.1 hs
      cases h2
      rw [hev] at hx
      simp only [VR] at hx
      obtain ⟨b, off, cap, h3, _, _, _, h4⟩ := hx
      obtain ⟨vs, h5, h6⟩ := h4.vals
      obtain ⟨ns, h7, h8⟩ := bytesOf_ok h1 h5
      subst h7; subst h8
      have hnl : ns.length = n := by have := h5.length; simp at this; omega
      exact .pure hw (conv h3 (bytesToString_run hnl h6)) VR.str_mk
    · cases hs
  · rename_i l0 sz n hev
    split at hs
    · rename_i cs hh
      split at hs
      · rename_i hlen
        obtain ⟨l, h1, h2⟩ := Option.map_eq_some_iff.1 hs
        cases h2
        rw [hev] at hx
        simp only [VR] at hx
        obtain ⟨b, e', cap, h3, h4, _⟩ := hx
        obtain ⟨_, _, _, h6⟩ := hw.arr h3 hh
        obtain ⟨vs, h5, h7⟩ := h6.vals
        obtain ⟨ns, h8, h9⟩ := bytesOf_ok h1 h5
        subst h8; subst h9
        have hnl : ns.length = n := by have := h5.length; simp at this; omega
        exact .pure hw (conv h4 (bytesToString_run hnl h7)) VR.str_mk
      · cases hs
    · cases hs
  · cases hs
def DOp.isCall : DOp → Bool
  | .call _ _ => true
  | .invoke _ _ _ => true
  | _ => false
theorem opds_one {xs : List Operand} {x : Opd} (h : opds xs = some [x]) : ∃ y, xs = [y] ∧ opd y = some x := by
  cases xs with
  | nil => simp [opds] at h
  | cons y ys =>
    simp only [opds] at h
    split at h
    · rename_i p ps h1 h2
      cases h
      cases ys with
      | nil => exact ⟨y, rfl, h1⟩
      | cons z zs =>
        simp only [opds] at h2
        split at h2 <;> cases h2
    · cases h
theorem opds_two {xs : List Operand} {x z : Opd} (h : opds xs = some [x, z]) : ∃ y u, xs = [y, u] ∧ opd y = some x ∧ opd u = some z := by
  cases xs with
  | nil => simp [opds] at h
  | cons y ys =>
    simp only [opds] at h
    split at h
    · rename_i p ps h1 h2
      cases h
      obtain ⟨u, h3, h4⟩ := opds_one h2
      subst h3
      exact ⟨y, u, rfl, h1, h4⟩
    · cases h
theorem arr_of_list {α : Type} {a : Array α} {l : List α} (h : a.toList = l) : a = l.toArray := by subst h; simp
theorem op_ok {mu : TypeId → Bool} {d : DOp} (hc : opC P mu o = some d) (hw : WR P B0 w0 G st.heap w) (ht : VRL G w tm a.tmps.toList) (hn : d.isCall = false) (hs : stepOp E rec tm st d = some (.val v st')) : Yields P B0 w0 G st w v st' (OpRun P a o w) := by
  unfold opC at hc
  split at hc
  · rename_i x ho; obtain ⟨d', h1, h2⟩ := Option.map_eq_some_iff.1 hc; subst h2; exact ok_move hw ht (.inl ho) h1 hs
  · rename_i x ho; obtain ⟨d', h1, h2⟩ := Option.map_eq_some_iff.1 hc; subst h2; exact ok_move hw ht (.inr ho) h1 hs
  · rename_i c x y ho
    split at hc
    · rename_i h1 h2 h3; cases hc; exact ok_pick hw ht ho h1 h2 h3 hs
    · cases hc
  · rename_i t x ho; obtain ⟨d', h1, h2⟩ := Option.map_eq_some_iff.1 hc; subst h2; exact ok_box hw ht ho h1 hs
  · rename_i t ho; obtain ⟨d', h1, h2⟩ := Option.map_eq_some_iff.1 hc; subst h2; exact ok_alloc hw ho h1 hs
  · rename_i t parts ho
    split at hc
    · rename_i fields hu
      split at hc
      · rename_i z ps h1 h2
        split at hc
        · rename_i h3; cases hc; exact ok_build hw ht ho h1 h2 (.inl ⟨_, hu, h3⟩) hs
        · cases hc
      · cases hc
    · rename_i n e hu
      split at hc
      · rename_i z ps h1 h2
        split at hc
        · rename_i h3; cases hc
          obtain ⟨s, h4⟩ := Option.isSome_iff_exists.1 h3
          exact ok_build hw ht ho h1 h2 (.inr ⟨_, _, _, hu, h4⟩) hs
        · cases hc
      · cases hc
    · cases hc
  · rename_i t n parts ho
    split at hc
    · rename_i e hu
      split at hc
      · rename_i s z ps h1 h2 h3
        split at hc
        · rename_i h4; cases hc
          simp only [Bool.and_eq_true, decide_eq_true_eq, beq_iff_eq] at h4
          exact ok_buildSlice hw ht ho hu h1 h2 h3 h4.1.1 h4.1.2 h4.2 hs
        · cases hc
      · cases hc
    · cases hc
  · rename_i t x ho
    split at hc
    · rename_i h0
      split at hc
      · rename_i s d' h1 h2; cases hc; exact ok_load hw ht ho h0 h1 h2 hs
      · cases hc
    · cases hc
  · rename_i t x y ho
    split at hc
    · rename_i s d' e' h1 h2 h3; cases hc; exact ok_store hw ht ho h1 h2 h3 hs
    · cases hc
  · rename_i x ho; obtain ⟨d', h1, h2⟩ := Option.map_eq_some_iff.1 hc; subst h2; exact ok_nilCheck hw ht ho h1 hs
  · rename_i op t x y u ho
    unfold binC at hc
    split at hc
    · rename_i d1 d2 h1 h2
      split at hc
      · cases hc; exact ok_binI hw ht ho h1 h2 hs
      · cases hc; exact ok_binS hw ht ho h1 h2 hs
      · rename_i hu
        split at hc
        · cases hc; exact ok_binB (neg := false) hw ht ho hu rfl h1 h2 hs
        · cases hc; exact ok_binB (neg := true) hw ht ho hu rfl h1 h2 hs
        · cases hc
      · rename_i fields hu
        split at hc
        · rename_i h3
          simp only [Bool.and_eq_true, Bool.not_eq_true'] at h3
          split at hc
          · cases hc; exact ok_eqAgg (neg := false) hw ht ho hu h3.1.1.1 h3.1.1.2 h3.1.2 h3.2 rfl h1 h2 hs
          · cases hc; exact ok_eqAgg (neg := true) hw ht ho hu h3.1.1.1 h3.1.1.2 h3.1.2 h3.2 rfl h1 h2 hs
          · cases hc
        · cases hc
      · rename_i e hu
        split at hc
        · cases hc; exact ok_isNilS (neg := false) hw ht ho hu rfl h1 h2 hs
        · cases hc; exact ok_isNilS (neg := true) hw ht ho hu rfl h1 h2 hs
        · cases hc
      · cases hc
    · cases hc
  · rename_i op t x ho
    split at hc
    · rename_i d' h1; cases hc; exact ok_not hw ht ho h1 hs
    · rename_i d' h1; cases hc; exact ok_neg hw ht ho h1 hs
    · cases hc
  · rename_i s t x ho
    split at hc
    · rename_i k0 k d' h1 h2 h3; cases hc; exact ok_toInt hw ht ho h1 h2 h3 hs
    · rename_i e d' h1 h2 h3
      split at hc
      · rename_i h4; cases hc; exact ok_bytesToStr hw ht ho h1 h4 h2 h3 hs
      · cases hc
    · cases hc
  · rename_i t x ho
    split at hc
    · cases hc
    · rename_i td d' h1 h2 h3; cases hc; exact ok_mkIface hw ht ho h2 (fun ms e => h1 ms e) h3 hs
    · cases hc
  · rename_i f fi ca ho
    split at hc
    · rename_i d1 d2 h1 h2; cases hc; exact ok_mkFunc hw ht ho h1 h2 hs
    · cases hc
  · rename_i t r ho
    split at hc
    · rename_i h1; cases hc; exact ok_mkMap hw ho h1 (.inl rfl) hs
    · rename_i h1; cases hc; exact ok_mkMap hw ho h1 (.inr ⟨_, _, rfl⟩) hs
    · cases hc
  · rename_i t x lo hi ho
    split at hc
    · rename_i e hu
      split at hc
      · rename_i s d' dl dh h1 h2 h3 h4
        split at hc
        · rename_i h5; cases hc; exact ok_slice hw ht ho hu h1 h5 h2 h3 h4 hs
        · cases hc
      · cases hc
    · rename_i hu
      split at hc
      · rename_i d' dl dh h2 h3 h4; cases hc; exact ok_sliceStr hw ht ho hu h2 h3 h4 hs
      · cases hc
    · cases hc
  · rename_i t x f ho
    split at hc
    · rename_i fields d' hu h1
      split at hc
      · rename_i fd hf
        split at hc
        · rename_i s h2
          split at hc
          · rename_i h3; cases hc; exact ok_fieldAddr hw ht ho hu hf h2 h3 h1 hs
          · cases hc
        · cases hc
      · cases hc
    · cases hc
  · rename_i t x f ho
    split at hc
    · rename_i fields d' hu h1
      split at hc
      · rename_i fd hf
        split at hc
        · rename_i h2
          split at hc
          · rename_i s h3; cases hc; exact ok_part hw ht ho hu hf h2 h3 h1 hs
          · cases hc
        · cases hc
      · cases hc
    · cases hc
  · rename_i t x i ho
    split at hc
    · rename_i e d1 d2 hu h1 h2
      obtain ⟨s, h3, h4⟩ := Option.map_eq_some_iff.1 hc
      subst h4; exact ok_indexAddr hw ht ho hu h3 h1 h2 hs
    · rename_i n e d1 d2 hu h1 h2
      split at hc
      · obtain ⟨s, h3, h4⟩ := Option.map_eq_some_iff.1 hc
        subst h4; exact ok_indexVar hw ht ho hu h3 h1 h2 hs
      · cases hc
    · cases hc
  · rename_i t x i ho
    split at hc
    · rename_i d1 d2 hu h1 h2; cases hc; exact ok_indexStr hw ht ho hu h1 h2 hs
    · rename_i n e d1 d2 hu h1 h2
      split at hc
      · rename_i h0
        obtain ⟨s, h3, h4⟩ := Option.map_eq_some_iff.1 hc
        subst h4; exact ok_indexArr hw ht ho hu h0 h3 h1 h2 hs
      · cases hc
    · cases hc
  · rename_i t m k ok ho
    split at hc
    · rename_i kt e d1 d2 hut h1 h2
      split at hc
      · rename_i fields zv hu hz
        split at hc
        · rename_i z hz2
          split at hc
          · rename_i h3
            simp only [Bool.and_eq_true, Bool.not_eq_true'] at h3
            cases hc; exact ok_lookup hw ht ho hut hu h3.1.1 h3.1.2 h3.2 hz hz2 h1 h2 hs
          · cases hc
        · cases hc
      · cases hc
    · cases hc
  · rename_i t m k x ho
    split at hc
    · rename_i kt e d1 d2 d3 hut h1 h2 h4
      split at hc
      · rename_i fields hu
        split at hc
        · rename_i h3
          simp only [Bool.and_eq_true, Bool.not_eq_true'] at h3
          cases hc; exact ok_mapUpdate hw ht ho hut hu h3.1.1 h3.1.2 h3.2 h1 h2 h4 hs
        · cases hc
      · cases hc
    · cases hc
  · rename_i t x ho
    split at hc
    · rename_i d' hu h1; cases hc; exact ok_rangeStr hw ht ho hu h1 hs
    · cases hc
  · rename_i x ho; obtain ⟨d', h1, h2⟩ := Option.map_eq_some_iff.1 hc; subst h2; exact ok_nextStr hw ht ho h1 hs
  · rename_i x xt t ho
    split at hc
    · cases hc
    · rename_i td zv d' h1 h2 h3 h4
      obtain ⟨z, h5, h6⟩ := Option.map_eq_some_iff.1 hc
      subst h6
      obtain ⟨i, h7, h8⟩ := Option.bind_eq_some_iff.1 h3
      exact ok_assertT hw ht ho h2 (fun ms e => h1 ms e) h7 h8 h5 h4 hs
    · cases hc
  · rename_i x i ho; obtain ⟨d', h1, h2⟩ := Option.map_eq_some_iff.1 hc; subst h2; exact ok_extract hw ht ho h1 hs
  · rename_i c ho
    split at hc
    · rename_i b hb
      split at hc
      · rename_i args hargs
        unfold builtinC at hc
        split at hc
        · rename_i t x hat
          obtain ⟨y, h1, h2⟩ := opds_one hargs
          split at hc
          · rename_i e hu; cases hc; exact ok_len hw ht ho hb (arr_of_list hat) (arr_of_list h1) hu h2 hs
          · rename_i hu; cases hc; exact ok_lenStr hw ht ho hb (arr_of_list hat) (arr_of_list h1) hu h2 hs
          · cases hc
        · rename_i t u x y hat
          obtain ⟨x1, y1, h1, h2, h3⟩ := opds_two hargs
          split at hc
          · rename_i e e2 hu hu2
            split at hc
            · rename_i i hi
              split at hc
              · rename_i z hz
                split at hc
                · rename_i h4
                  simp only [Bool.and_eq_true, decide_eq_true_eq, beq_iff_eq] at h4
                  obtain ⟨⟨⟨rfl, h5⟩, h6⟩, h7⟩ := h4
                  cases hc; exact ok_append hw ht ho hb (arr_of_list hat) (arr_of_list h1) hu hi hz h5 h6 h7 h2 h3 hs
                · cases hc
              · cases hc
            · cases hc
          · cases hc
        · rename_i x ys hat; cases hc; exact ok_minmax (mx := true) hw ht ho (by simpa using hb) hargs hs
        · rename_i x ys hat; cases hc; exact ok_minmax (mx := false) hw ht ho (by simpa using hb) hargs hs
        · cases hc
      · cases hc
    · rename_i f hf
      split at hc
      · cases hc; simp [DOp.isCall] at hn
      · cases hc
    · split at hc
      · cases hc; simp [DOp.isCall] at hn
      · cases hc
  · rename_i x ho
    obtain ⟨d', h1, h2⟩ := Option.map_eq_some_iff.1 hc; subst h2
    simp only [stepOp] at hs
    split at hs <;> cases hs
  · cases hc
end
end Go.Den
end

/- Part of the proofs of laws of the package chest. Texts: ChEntry, ChRow. -/
import Derived.Test.YtoeigapilcgelaaGreatDoorK6Ax
import Derived.Test.YtoeigapilcgelaaGreatDoorK6Aw
import Derived.ProofKit
import Derived.HandedShaped
import Derived.Shelf.Vars
import Derived.LaidLaws
import Derived.Lay
import Derived.LaidHandle
import Derived.Test.YtoeigapilcgelaaGreatDoorRows
import Derived.LaidMore
import Derived.OpenShut
import Derived.Stop.Joined
import Derived.Carry
set_option linter.unusedSimpArgs false
set_option linter.unusedVariables false
section
namespace Go.Den
variable {P : Program}
def gh0 (W : World) : Gh := ⟨fun _ => none,fun _ => none,fun b => match W.heap[b]? with
 | some (.cells arr _ _) => some arr.size
 | _ => none⟩
theorem wr0 (W : World) : WR P W.heap.size W (gh0 W) [] W := by
 refine ⟨fun _ => ⟨rfl,rfl⟩,fun h => (by cases h),fun h => (by cases h),fun h => (by cases h),fun h => (by cases h),fun {b n} h => ?_,⟨Nat.le_refl _,fun _ _ => rfl⟩,⟨rfl,rfl⟩⟩
 simp only [gh0] at h
 split at h
 ·rename_i arr T fr hb
  cases h
  exact ⟨arr,T,fr,hb,Nat.le_refl _⟩
 ·cases h
theorem vrc_of {G : Gh} {w : World} : ∀ {cs : List PV} {b off : Nat},(∀ (j : Nat) (p : PV),cs[j]? = some p → ∃ v,w.cell? ⟨b,off + j,none⟩ = some v ∧ VR G w p v) → VRC G w cs b off
 | [],b,off,h => by simp only [VRC]
 | c :: cs,b,off,h => by
  simp only [VRC]
  refine ⟨h 0 c rfl,vrc_of fun j p hj => ?_⟩
  obtain ⟨v,h1,h2⟩ := h (j + 1) p (by simpa using hj)
  exact ⟨v,by rw [← h1];congr 2;omega,h2⟩
theorem cell_gh {W : World} {b i : Nat} {v : Value} (h : W.cell? ⟨b,i,none⟩ = some v) : ∃ m,(gh0 W).cm b = some m ∧ i < m := by
 unfold World.cell? at h
 split at h
 ·rename_i arr T fr hb
  refine ⟨arr.size,?_,?_⟩
  ·simp only [gh0]
   simp only at hb
   rw [hb]
  ·simp only [Option.isSome_none,Bool.false_eq_true,if_false] at h
   exact (Array.getElem?_eq_some_iff.1 h).1
 ·cases h
theorem vr_slice0 {W : World} {n cap b off : Nat} {cs : List PV} (hcap : n ≤ cap) (h : ∀ (j : Nat) (p : PV),cs[j]? = some p → ∃ v,W.cell? ⟨b,off + j,none⟩ = some v ∧ VR (gh0 W) W p v) : VR (gh0 W) W (.slice .shared n cs) (.slice (some ⟨b,off,none⟩) n cap) := by
 simp only [VR]
 refine ⟨b,off,cap,rfl,hcap,fun hne => ?_,trivial,vrc_of h⟩
 have hl : cs.length - 1 < cs.length := by
  have : cs.length ≠ 0 := by simpa using hne
  omega
 obtain ⟨v,h1,_⟩ := h (cs.length - 1) _ (List.getElem?_eq_getElem hl)
 obtain ⟨m,h2,h3⟩ := cell_gh h1
 exact ⟨m,h2,by omega⟩
theorem list_of {α : Type} {Q : Nat → α → Prop} : ∀ (n : Nat),(∀ i,i < n → ∃ a,Q i a) → ∃ l : List α,l.length = n ∧ ∀ (i : Nat) (a : α),l[i]? = some a → Q i a
 | 0,_ => ⟨[],rfl,fun i a h => by simp at h⟩
 | n + 1,h => by
  obtain ⟨l,h1,h2⟩ := list_of n (fun i hi => h i (by omega))
  obtain ⟨a,ha⟩ := h n (by omega)
  refine ⟨l ++ [a],by simp [h1],fun i x hx => ?_⟩
  by_cases hi : i < n
  ·rw [List.getElem?_append_left (by omega)] at hx
   exact h2 i x hx
  ·have hlt := (List.getElem?_eq_some_iff.1 hx).1
   simp [h1] at hlt
   have : i = n := by omega
   subst this
   rw [List.getElem?_append_right (by omega),h1] at hx
   simp at hx
   subst hx
   exact ha
end Go.Den
namespace Go.Den.Ch
set_option maxRecDepth 100000
open Go.Proofs Go.ChangeShapes Go.WideShapes
section
variable {H : Type} {enc : TypeId × Value → H} {W : World} {base fuel : Nat} {d : DataW H} {ps : List MemPlace}
theorem in_ints {v : Value} (hok : Value.okWide Tryz.prog W .any base 25 v) (h : DataW.Trod enc Tryz.prog W 0 (fun _ => true) true 25 v d ps) : ∃ P l,VR (gh0 W) W P v ∧ SlOf 1 encI P l := by
 obtain ⟨fuel,h⟩ := h
 have hcell : Cell.okWide Tryz.prog W .any base 25 v := by
  unfold Value.okWide at hok
  rw [Tryz.underlying25] at hok
  exact hok
 have e1 : Tryz.prog.cellsOf 3 = 1 := by kernel_rfl
 rcases open_ints Tryz.underlying25 Tryz.underlying3 e1 h with ⟨hv,_⟩ | ⟨a,len,cap,zs,hv,_,hl,_,hz,_,hc,_⟩
 ·have hv' : v = .slice none 0 0 := by
   cases v with
   | agg cs => exfalso;unfold Cell.okWide Cell.ok at hcell;rw [Tryz.underlying25] at hcell;exact hcell
   | slice p l c => simpa [Value.cells] using hv
   | _ => simp [Value.cells] at hv
  subst hv'
  exact ⟨.nilslice,[],by simp only [VR],rfl,fun _ h => by cases h⟩
 ·have hv' : v = .slice (some a) len cap := by
   cases v with
   | agg cs => exfalso;unfold Cell.okWide Cell.ok at hcell;rw [Tryz.underlying25] at hcell;exact hcell
   | slice p l c => simpa [Value.cells] using hv
   | _ => simp [Value.cells] at hv
  subst hv'
  have hsp : a.spot = none := by
   unfold Cell.okWide Cell.ok at hcell
   rw [Tryz.underlying25] at hcell
   exact hcell.2.2.2.1
  obtain ⟨b,off,sp⟩ := a
  simp only at hsp
  subst hsp
  simp only [if_true] at hz
  refine ⟨.slice .shared len ((zs.take len).flatMap encI),zs.take len,vr_slice0 hl fun j p hj => ?_,?_,fun _ _ => rfl⟩
  ·rw [encI_map,List.getElem?_map] at hj
   obtain ⟨n,hn,rfl⟩ := Option.map_eq_some_iff.1 hj
   have hjl := (List.getElem?_eq_some_iff.1 hn).1
   have hjz : j < zs.length := by simp at hjl;omega
   have hget : zs.getD j 0 = n := by
    rw [List.getElem?_take] at hn
    split at hn
    ·rw [List.getD_eq_getElem?_getD,hn];rfl
    ·cases hn
   refine ⟨.int .i64 n,?_,by simp only [VR]⟩
   have := hc j hjz
   rw [hget] at this
   rw [← this]
   unfold Addr.add
   by_cases h0 : j = 0
   ·subst h0;rfl
   ·rw [if_neg h0]
  ·simp only [PV.sl]
   congr 2
   simp;omega
theorem cells_three {b off : Nat} {cs : List Value} (h : W.cells? 0 ⟨b,off,none⟩ 3 = some cs) : ∃ x y z,cs = [x,y,z] ∧ W.cell? ⟨b,off,none⟩ = some x ∧ W.cell? ⟨b,off + 1,none⟩ = some y ∧ W.cell? ⟨b,off + 2,none⟩ = some z := by
 unfold World.cells? at h
 simp only [Nat.zero_le,if_true] at h
 have h0 := mapM_some_get h 0 0 (by simp)
 have h1 := mapM_some_get h 1 1 (by simp)
 have h2 := mapM_some_get h 2 2 (by simp)
 have hl := mapM_some_length h
 simp at hl
 match cs,hl with
 | [x,y,z],_ => exact ⟨x,y,z,rfl,h0,h1,h2⟩
theorem in_fig {cs : List Value} {y : DataW H × List MemPlace} (h : DataW.trod enc Tryz.prog W 0 (fun _ => true) true fuel 38 cs = some y) : ∃ f : Fig,cs = [.int .i64 f.size,.int .i64 f.rank,.int .i64 f.eve] := by
 obtain ⟨xs,n,_,_,hl,hxl,hf⟩ := DataW.trod_struct Tryz.underlying38 h
 have e1 : Tryz.prog.cellsOf 3 = 1 := by kernel_rfl
 have e3 : Tryz.prog.cellsOf 38 = 3 := by kernel_rfl
 rw [e3] at hl
 match cs,hl with
 | [a,b,c],_ =>
  have f0 : DataW.trod enc Tryz.prog W 0 (fun _ => true) true n 3 (List.take (Tryz.prog.cellsOf 3) [a,b,c]) = xs[0]? := hf 0 _ rfl
  have f1 : DataW.trod enc Tryz.prog W 0 (fun _ => true) true n 3 (List.take (Tryz.prog.cellsOf 3) [b,c]) = xs[1]? := hf 1 _ rfl
  have f2 : DataW.trod enc Tryz.prog W 0 (fun _ => true) true n 3 (List.take (Tryz.prog.cellsOf 3) [c]) = xs[2]? := hf 2 _ rfl
  rw [e1] at f0 f1 f2
  have hx : xs.length = 3 := hxl
  match xs,hx with
  | [x0,x1,x2],_ =>
   obtain ⟨n0,k0,_,_⟩ := DataW.trod_int Tryz.underlying3 f0
   obtain ⟨n1,k1,_,_⟩ := DataW.trod_int Tryz.underlying3 f1
   obtain ⟨n2,k2,_,_⟩ := DataW.trod_int Tryz.underlying3 f2
   simp at k0 k1 k2
   subst k0 k1 k2
   exact ⟨⟨n0,n1,n2⟩,rfl⟩
theorem in_figs {v : Value} (hcell : Cell.okWide Tryz.prog W .any base 22 v) {x : DataW H × List MemPlace} (h : DataW.trod enc Tryz.prog W 0 (fun _ => true) true fuel 22 [v] = some x) : ∃ F l,VR (gh0 W) W F v ∧ SlOf 3 encF F l := by
 have e3 : Tryz.prog.cellsOf 38 = 3 := by kernel_rfl
 rcases DataW.trod_slice Tryz.underlying22 h with ⟨hv,_⟩ | ⟨a,len,cap,elems,rest,n,_,hv,_,_,hl,_,hlen,hel,_,_⟩
 ·simp at hv
  subst hv
  exact ⟨.nilslice,[],by simp only [VR],rfl,fun _ h => by cases h⟩
 ·simp at hv
  subst hv
  have hsp : a.spot = none := by
   unfold Cell.okWide Cell.ok at hcell
   rw [Tryz.underlying22] at hcell
   exact hcell.2.2.2.1
  obtain ⟨b,off,sp⟩ := a
  simp only at hsp
  subst hsp
  rw [e3] at hel
  have hadd : ∀ i,(⟨b,off,none⟩ : Addr).add (i * 3) = ⟨b,off + i * 3,none⟩ := fun i => by
   unfold Addr.add
   by_cases h0 : i * 3 = 0
   ·rw [if_pos h0,h0];rfl
   ·rw [if_neg h0]
  obtain ⟨l,hll,hlq⟩ := list_of (α := Fig) (Q := fun i f => W.cell? ⟨b,off + i * 3,none⟩ = some (.int .i64 f.size) ∧ W.cell? ⟨b,off + i * 3 + 1,none⟩ = some (.int .i64 f.rank) ∧ W.cell? ⟨b,off + i * 3 + 2,none⟩ = some (.int .i64 f.eve)) len (fun i hi => by
   have h1 := hel i hi
   rw [hadd,List.getElem?_eq_getElem (by omega : i < elems.length)] at h1
   obtain ⟨cs,h2,h3⟩ := Option.bind_eq_some_iff.1 h1
   obtain ⟨x,y,z,rfl,g0,g1,g2⟩ := cells_three h2
   obtain ⟨f,hf⟩ := in_fig h3
   simp only [List.cons.injEq,and_true] at hf
   obtain ⟨rfl,rfl,rfl⟩ := hf
   exact ⟨f,g0,g1,g2⟩)
  refine ⟨.slice .shared len (l.flatMap encF),l,vr_slice0 hl fun j p hj => ?_,by simp only [PV.sl,hll],fun _ _ => rfl⟩
  have hjl := (List.getElem?_eq_some_iff.1 hj).1
  have hfl : (l.flatMap encF).length = l.length * 3 := flatMap_len (fun _ _ => rfl)
  have hi : j / 3 < l.length := by omega
  obtain ⟨g0,g1,g2⟩ := hlq (j / 3) _ (List.getElem?_eq_getElem hi)
  have hdr : (l.flatMap encF).drop (j / 3 * 3) = (l.drop (j / 3)).flatMap encF := flatMap_drop (j / 3) (fun _ _ => rfl)
  have hj2 : ((l.flatMap encF).drop (j / 3 * 3))[j % 3]? = some p := by
   rw [List.getElem?_drop,← hj];congr 1;omega
  rw [hdr,List.drop_eq_getElem_cons hi,List.flatMap_cons] at hj2
  have h3 : j % 3 = 0 ∨ j % 3 = 1 ∨ j % 3 = 2 := by omega
  rcases h3 with h3 | h3 | h3
  ·rw [h3] at hj2
   simp only [encF,List.cons_append,List.getElem?_cons_zero,Option.some.injEq] at hj2
   subst hj2
   exact ⟨_,by rw [← g0];congr 2;omega,by simp only [VR]⟩
  ·rw [h3] at hj2
   simp only [encF,List.cons_append,List.getElem?_cons_succ,List.getElem?_cons_zero,Option.some.injEq] at hj2
   subst hj2
   exact ⟨_,by rw [← g1];congr 2;omega,by simp only [VR]⟩
  ·rw [h3] at hj2
   simp only [encF,List.cons_append,List.getElem?_cons_succ,List.getElem?_cons_zero,Option.some.injEq] at hj2
   subst hj2
   exact ⟨_,by rw [← g2];congr 2;omega,by simp only [VR]⟩
theorem in_list {v : Value} (hok : Value.okWide Tryz.prog W .any base 24 v) (h : DataW.Trod enc Tryz.prog W 0 (fun _ => true) true 24 v d ps) : ∃ (c : CL) (F : PV),VR (gh0 W) W (clPV c F) v ∧ SlOf 3 encF F c.figs := by
 obtain ⟨fuel,h⟩ := h
 unfold Value.okWide at hok
 rw [Tryz.underlying24] at hok
 obtain ⟨cs,rfl,hsz,ts,hts,_,hrow⟩ := hok
 have e1 : Tryz.prog.cellsOf 3 = 1 := by kernel_rfl
 have e22 : Tryz.prog.cellsOf 22 = 1 := by kernel_rfl
 have e3 : Tryz.prog.cellsOf 24 = 3 := by kernel_rfl
 have et : Tryz.prog.cellTypes Tryz.prog.depth 24 = some [3,3,22] := by kernel_rfl
 rw [et] at hts
 cases hts
 obtain ⟨xs,n,_,_,hl,hxl,hf⟩ := DataW.trod_struct Tryz.underlying24 h
 rw [e3] at hl hsz
 have hcs : (Value.agg cs).cells.toList = cs.toList := rfl
 rw [hcs] at hl hf
 obtain ⟨l⟩ := cs
 match l,hl with
 | [a,b,c],_ =>
  have f0 : DataW.trod enc Tryz.prog W 0 (fun _ => true) true n 3 (List.take (Tryz.prog.cellsOf 3) [a,b,c]) = xs[0]? := hf 0 _ rfl
  have f1 : DataW.trod enc Tryz.prog W 0 (fun _ => true) true n 3 (List.take (Tryz.prog.cellsOf 3) [b,c]) = xs[1]? := hf 1 _ rfl
  have f2 : DataW.trod enc Tryz.prog W 0 (fun _ => true) true n 22 (List.take (Tryz.prog.cellsOf 22) [c]) = xs[2]? := hf 2 _ rfl
  rw [e1] at f0 f1
  rw [e22] at f2
  have hx : xs.length = 3 := hxl
  match xs,hx with
  | [x0,x1,x2],_ =>
   obtain ⟨n0,k0,_,_⟩ := DataW.trod_int Tryz.underlying3 f0
   obtain ⟨n1,k1,_,_⟩ := DataW.trod_int Tryz.underlying3 f1
   simp at k0 k1
   subst k0 k1
   obtain ⟨u,hu,hcell⟩ := hrow 2 c rfl
   simp at hu
   subst hu
   obtain ⟨F,fs,hF1,hF2⟩ := in_figs hcell (x := x2) f2
   refine ⟨⟨n0,n1,fs⟩,F,?_,hF2⟩
   simp only [VR]
   exact ⟨_,rfl,VRL.cons (by simp only [VR]) (VRL.cons (by simp only [VR]) (VRL.cons hF1 (VRL.nil_iff.2 rfl)))⟩
end
theorem law_call {g : Nat} {args : List PV} {avs : Array Value} {W : World} (hB : ∃ m,1 < W.heap.size ∧ W.cell? ⟨1,0,none⟩ = some (.int .i64 m)) (h : ∀ st,Cl EE (.func g [] []) args st (.ret (.bool true)) st) (ha : VRL (gh0 W) W args avs.toList) :
  Calls Tryz.prog g avs W fun e W' => e = .returned (.bool true) ∧ W.heap.size ≤ W'.heap.size ∧ (∀ b,b < W.heap.size → W'.heap[b]? = W.heap[b]?) ∧ W'.os = W.os ∧ W'.output = W.output := by
 obtain ⟨m,hB,hm⟩ := hB
 obtain ⟨N,hN⟩ := h { heap := [],lo := 0 }
 have hs := (run_ok (B0 := W.heap.size) (w0 := W) follows envOK envFn (primOK hB hm) primGrows N).1 _ _ _ _ _ (hN N (Nat.le_refl _)) (Nat.le_refl _)
 obtain ⟨_,hC⟩ := hs.2 (gh0 W) W (.func (.func g) #[] #[]) avs.toList (wr0 W) (by simp only [VR];exact ⟨_,_,rfl,VRL.nil_iff.2 rfl,VRL.nil_iff.2 rfl⟩) ha #[] #[] rfl
 have hC1 := callsIn_wide.1 (hC 0)
 have e : #[] ++ avs.toList.toArray ++ #[] = avs := by simp
 rw [e] at hC1
 refine hC1.mono ?_
 rintro e W' ⟨G',hw,hx,u,rfl,hu⟩
 simp only [VR] at hu
 subst hu
 exact ⟨rfl,hw.low.1,hw.low.2,hw.out⟩
end Go.Den.Ch
end
section
namespace Go.Proofs.YtoeigapilcgelaaGreatDoor
open Go.ChangeShapes Go.WideShapes Go.ChangeAt Go.WideMaps Go.WideElems Go.RowKit
set_option maxRecDepth 100000
theorem ownKnob0 : ownKnob Tryz.prog.godebug = none := by kernel_rfl
theorem laidOut0 : laidOutB Tryz.prog = true := by kernel_rfl
theorem maxLen_cell {W : World} (h : W.ShapedOpen Tryz.prog) : ∃ m,1 < W.heap.size ∧ W.cell? ⟨1,0,none⟩ = some (.int .i64 m) := by
 obtain ⟨m,hm⟩ := cell_of_shapedOpen_int (g := 1) (t := 3) (zero := #[.int .i64 0]) (k := .i64) h (of_decide_eq_true (by kernel_rfl)) (by kernel_rfl) rfl (by kernel_rfl) (by kernel_rfl) Tryz.underlying3
 refine ⟨m,?_,hm⟩
 unfold World.cell? at hm
 split at hm
 ·rename_i hh
  exact (Array.getElem?_eq_some_iff.1 hh).1
 ·cases hm
theorem returns_law {H : Type} {enc : TypeId × Value → H} {a : Assume} {C : Checked} {os : Os} {f : FuncId} {fn : Func} {s : ChangeSpec} {conds : List PathCond} {apart fresh handsOn again : Bool} {X : World → Array Value → Prop}
  (hX : ∀ (w w' : World) (args : Array Value),w.heap = w'.heap → X w args → X w' args)
  (own : ownKnob C.prog.godebug = none) (started : os.Started) (noInit : C.prog.inits.idxOf? f = none) (hfn : C.prog.funcs[f]? = some fn)
  (witness : ∃ (w : World) (tape : Tape) (i : Input),w.os = os ∧ (w.forCall tape i).Shaped C.prog ∧ i.vars = [] ∧ Input.okWide C.prog (w.forCall tape i) .any w.heap.size f i ∧
   ((s.pre enc C.prog fn conds apart (w.forCall tape i).memory i.args ∧ X (w.forCall tape i).memory i.args) ∧ sizedMet enc C.prog fn (OpenSpec.ofChange s) apart (w.forCall tape i).memory i.args) ∧ a.holds C.prog (lone (Frame.enter C.prog f i.args .normal) [] (w.forCall tape i)))
  (contract : ∀ (W : World) (base : Nat) (args : Array Value) (ds gs : List (DataW H)) (before : List MemPlace),
   (∀ (j : Nat) t v,fn.params[j]? = some t → args[j]? = some v → Value.okWide C.prog W .any base t v) →
   DataW.Whole enc C.prog fn.params.toList s.vars apart W args.toList ds gs before →
   W.ShapedOpen C.prog →
   Calls C.prog f args W fun e W' => ∃ v,e = .returned v ∧ s.post enc C.prog fn apart fresh handsOn again W args v W') :
  ReturnsInHanded a C os f .any (fun w args => (s.pre enc C.prog fn conds apart w args ∧ X w args) ∧ sizedMet enc C.prog fn (OpenSpec.ofChange s) apart w args) (s.post enc C.prog fn apart fresh handsOn again) := by
 refine returnsInHanded_of_calls own started noInit witness ?_
 intro w tape i _ hsh _ hok hpre _
 obtain ⟨_,_,_,fn',hfn',_,_,_,_,hval⟩ := hok
 have e : fn' = fn := Option.some.inj (hfn'.symm.trans hfn)
 subst e
 obtain ⟨⟨⟨ds,gs,before,hw,_⟩,_⟩,_⟩ := hpre
 have hw' := DataW.Whole.of_heap (w' := w.forCall tape i) (by rfl) hw
 refine (contract (w.forCall tape i) w.heap.size i.args ds gs before hval hw' hsh).mono fun e W' ⟨v,he,hp⟩ => ?_
 subst he
 exact ChangeSpec.post_blind hp
theorem trodAll_grown {H : Type} {enc : TypeId × Value → H} {W W' : World} (hb : Below W.heap.size W W') : ∀ {ts : List TypeId} {vs : List Value} {ds : List (DataW H)} {ps : List MemPlace},(∀ t ∈ ts,Tryz.prog.readableRec t = true ∧ t < Tryz.prog.types.size) → DataW.TrodAll enc Tryz.prog W 0 (fun _ => true) true ts vs ds ps → (∀ x ∈ ps,x.block < W.heap.size) → DataW.TrodAll enc Tryz.prog W' 0 (fun b => decide (b < W.heap.size)) true ts vs ds ps
 | [],vs,ds,ps,_,h,_ => by
  obtain ⟨rfl,rfl,rfl⟩ := trodAll_nil h
  rfl
 | t :: ts,vs,ds,ps,hr,h,hl => by
  obtain ⟨v,vs',d,ds',p,q,rfl,rfl,rfl,h1,h2⟩ := trodAll_cons h
  have h0 := hr t (by simp)
  exact ⟨p,q,Below.trod laidOut0 h0.1 h0.2 h1 hb (fun x hx => hl x (by simp [hx])),trodAll_grown hb (fun t ht => hr t (by simp [ht])) h2 (fun x hx => hl x (by simp [hx])),rfl⟩
theorem keptBut_grown {W W' : World} {may : MemPlace → Prop} (h : ∀ b,b < W.heap.size → W'.heap[b]? = W.heap[b]?) (ho : W'.os = W.os ∧ W'.output = W.output) : W.keptBut W' may := by
 refine ⟨ho.1,ho.2,fun i hi => ?_⟩
 rw [h i hi]
 split
 ·rename_i h1 h2
  rw [h1] at h2
  cases h2
  exact ⟨rfl,rfl,rfl,fun _ _ => rfl⟩
 ·rename_i h1 h2
  rw [h1] at h2
  cases h2
  exact .inr ⟨rfl,rfl⟩
 ·rfl
theorem post_true {H : Type} {enc : TypeId × Value → H} {fn : Func} {s : ChangeSpec} {W W' : World} {args : Array Value} {ds : List (DataW H)} {before : List MemPlace}
  (hvars : s.vars = []) (hW : DataW.Whole enc Tryz.prog fn.params.toList s.vars false W args.toList ds [] before) (hres : fn.resultTypes = #[4]) (hfn : s.fn H (ds ++ []) = { results := [.lit (.bool true)],args := ds })
  (hr : ∀ t ∈ fn.params.toList,Tryz.prog.readableRec t = true ∧ t < Tryz.prog.types.size)
  (hs : W.heap.size ≤ W'.heap.size) (hb : ∀ b,b < W.heap.size → W'.heap[b]? = W.heap[b]?) (ho : W'.os = W.os ∧ W'.output = W.output) :
  s.post enc Tryz.prog fn false true false false W args (.bool true) W' := by
 have hW0 := hW
 obtain ⟨p,q,hA,hV,rfl,_,_⟩ := hW
 rw [hvars] at hV
 obtain ⟨_,rfl⟩ : ([] : List (DataW H)) = [] ∧ q = [] := by
  cases q with
  | nil => exact ⟨rfl,rfl⟩
  | cons x q => simp [DataW.TrodVars] at hV
 have hlt : ∀ x ∈ p,x.block < W.heap.size := fun x hx => by simpa using hW0.lt x (by simp [hx])
 have ha : ({ W' with tape := W.tape } : World).Alike W' := ⟨rfl,rfl,rfl⟩
 have hbl : Below W.heap.size W { W' with tape := W.tape } := ⟨ho.1,rfl,ho.2,hs,hb⟩
 have hT := trodAll_grown hbl hr hA hlt
 have hT' : DataW.TrodAll enc Tryz.prog W' 0 (fun b => decide (b < W.heap.size)) true fn.params.toList args.toList ds p := DataW.TrodAll.of_heap (show ({ W' with tape := W.tape } : World).heap = W'.heap from rfl) hT
 refine ⟨ds,[],p ++ [],[],p,[],hW0,?_,?_,?_,keptBut_grown hb ho,fun h => by cases h⟩
 ·rw [hfn,hres]
  exact trodAll_mk1 (shut_bool Tryz.underlying4 _)
 ·rw [hfn];exact hT'
 ·rw [hfn,hvars];rfl
end Go.Proofs.YtoeigapilcgelaaGreatDoor
end

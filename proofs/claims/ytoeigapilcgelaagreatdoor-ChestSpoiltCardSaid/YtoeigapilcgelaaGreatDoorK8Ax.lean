/- Part of the proofs of laws of the package chest. Texts: ChPrimC, ChFnOK, ChEntry, ChRow. -/
import Derived.Test.YtoeigapilcgelaaGreatDoorK8Aw
import Derived.ProofKit
import Derived.HandedShaped
import Derived.Shelf.Vars
import Derived.LaidLaws
import Derived.Lay
import Derived.LaidHandle
import Derived.Test.YtoeigapilcgelaaGreatDoorRows
import Derived.LaidMore
import Derived.OpenShut
import Derived.Stop.Joined
import Derived.Carry
set_option linter.unusedSimpArgs false
set_option linter.unusedVariables false
section
namespace Go.Den.Ch
open Go.Proofs Go.Proofs.ChTry
section
variable {B0 : Nat} {w0 w : World} {G : Gh} {st st' : St} {args : List PV} {avs : List Value} {r : CR} {rec : Rec}
theorem ints3 {G : Gh} {w : World} {a b c : Int} {u : Value} (h : VR G w (.agg [.int .i64 a,.int .i64 b,.int .i64 c]) u) : u = .agg #[.int .i64 a,.int .i64 b,.int .i64 c] := by
 simp only [VR] at h
 obtain ⟨vs,rfl,h⟩ := h
 obtain ⟨v1,r1,e1,h1,h⟩ := VRL.cons_iff.1 h
 obtain ⟨v2,r2,rfl,h2,h⟩ := VRL.cons_iff.1 h
 obtain ⟨v3,r3,rfl,h3,h⟩ := VRL.cons_iff.1 h
 rw [VRL.nil_iff.1 h] at e1
 simp only [VR] at h1 h2 h3
 subst h1 h2 h3
 rw [arr_of_list e1]
theorem str1 {G : Gh} {w : World} {s : ByteArray} {u : Value} (h : VR G w (.agg [.str s]) u) : u = .agg #[.string s] := by
 simp only [VR] at h
 obtain ⟨vs,rfl,h⟩ := h
 obtain ⟨v1,r1,e1,h1,h⟩ := VRL.cons_iff.1 h
 rw [VRL.nil_iff.1 h] at e1
 simp only [VR] at h1
 subst h1
 rw [arr_of_list e1]
theorem try_out (hw : WR Tryz.prog B0 w0 G st.heap w) {G' : Gh} {h' : List HObj} {w2 w' : World} {lo : Nat} (r1 : WR Tryz.prog B0 w0 G' h' w2) (x : Ext G st.heap (tryW w) G' h' w2 lo) (hn : w2.heap[w.heap.size]? = some (Obj.cells #[.int .i64 0,.int .i64 0,.int .i64 0] 31 (0,0))) (hn1 : w2.heap[w.heap.size + 1]? = some (Obj.cells #[.int .i64 0] 32 (0,0))) {a b c d : Int} (ht : TryR w.heap.size w2 w' a b c d) :
  WR Tryz.prog B0 w0 G' h' w' ∧ Ext G st.heap w G' h' w' lo := by
 have hsz : (tryW w).heap.size = w.heap.size + 2 := by unfold tryW;rw [size_alloc,size_alloc]
 have hf1 : Foreign B0 G w (tryW w) (fun _ => False) := .grow (by omega) (fun b hb => by unfold tryW;rw [heap_alloc_lt _ _ (by rw [size_alloc];omega),heap_alloc_lt _ _ hb]) ⟨rfl,rfl⟩
 have hfree : ∀ k,(k = w.heap.size ∨ k = w.heap.size + 1) → B0 ≤ k ∧ (∀ l,G'.be l ≠ some k) ∧ (∀ t e,G'.tg t ≠ some (k,e)) ∧ G'.cm k = none := by
  intro k hk
  have hlow := hw.low.1
  have gb : ∀ l,G.be l ≠ some k := fun l h => by have := (hw.obj h).2.1;omega
  have gt : ∀ t e,G.tg t ≠ some (k,e) := fun t e h => by have := (hw.tag h).2.1;omega
  have gc : G.cm k = none := by
   cases h : G.cm k with
   | none => rfl
   | some n => have := hw.cmLt h;omega
  refine ⟨by omega,fun l h => ?_,fun t e h => ?_,?_⟩
  ·cases hg : G.be l with
   | none => have := (x.nbe h hg).2;omega
   | some b' => have := x.pres.be hg;rw [h] at this;cases this;exact gb l hg
  ·cases hg : G.tg t with
   | none =>
    rcases (x.ntg h hg).2 with h1 | ⟨t',e',h1⟩
    ·omega
    ·exact gt t' e' h1
   | some y => have := x.pres.tg hg;rw [h] at this;cases this;exact gt t e hg
  ·cases h : G'.cm k with
   | none => rfl
   | some n =>
    rcases x.ncm h gc with h1 | ⟨t,e,h1⟩
    ·omega
    ·exact absurd h1 (gt t e)
 have hf2 : Foreign B0 G' w2 w' (fun k => k = w.heap.size ∨ k = w.heap.size + 1) := by
  refine ⟨ht.1,fun b hb hx => ht.2.1 b hb (fun e => hx (.inl e)) (fun e => hx (.inr e)),hfree,ht.2.2.2.2,fun b arr T fr hx hh => ?_⟩
  rcases hx with rfl | rfl
  ·rw [hn] at hh;cases hh;exact ⟨_,ht.2.2.1,rfl⟩
  ·rw [hn1] at hh;cases hh;exact ⟨_,ht.2.2.2.1,rfl⟩
 have x1 : Ext G st.heap w G st.heap (tryW w) lo := Ext.grow hw hf1
 exact ⟨hf2.wr r1,(x1.trans x).foreign r1 hf2 (fun k hk => by omega)⟩
theorem try_frame (hw : WR Tryz.prog B0 w0 G st.heap w) {G' : Gh} {h' : List HObj} {w2 : World} {lo : Nat} (x : Ext G st.heap (tryW w) G' h' w2 lo) : w2.heap[w.heap.size]? = some (Obj.cells #[.int .i64 0,.int .i64 0,.int .i64 0] 31 (0,0)) ∧ w2.heap[w.heap.size + 1]? = some (Obj.cells #[.int .i64 0] 32 (0,0)) := by
 have hsz : (tryW w).heap.size = w.heap.size + 2 := by unfold tryW;rw [size_alloc,size_alloc]
 have key : ∀ k,w.heap.size ≤ k → k < w.heap.size + 2 → w2.heap[k]? = (tryW w).heap[k]? := fun k h1 h2 => x.frame (by omega) (fun l h => by have := (hw.obj h).2.1;omega) (fun t e h => by have := (hw.tag h).2.1;omega) (by
  cases h : G.cm k with
  | none => rfl
  | some n => have := hw.cmLt h;omega)
 refine ⟨?_,?_⟩
 ·rw [key _ (Nat.le_refl _) (by omega)]
  unfold tryW
  rw [heap_alloc_lt _ _ (by rw [size_alloc];omega),heap_alloc_new]
 ·rw [key _ (by omega) (by omega)]
  unfold tryW
  have := heap_alloc_new (w.alloc (.cells #[.int .i64 0,.int .i64 0,.int .i64 0] 31 (0,0))) (.cells #[.int .i64 0] 32 (0,0))
  rwa [size_alloc] at this
theorem enter79 : Enterable Tryz.prog 79 := ⟨_,Tryz.func79,by kernel_rfl,by kernel_rfl⟩
theorem try_ok (hs : SoundCall Tryz.prog B0 w0 rec) {dg : Nat} {da dc : List PV} (h : tryR rec (.func dg da dc) st = some (some (r,st'))) (hlo : st.lo ≤ st.heap.length) (hw : WR Tryz.prog B0 w0 G st.heap w) (ha : VRL G w [.func dg da dc] avs) : ∀ n,CallsIn Fence.wide n Tryz.prog 79 avs.toArray w (CallR Tryz.prog B0 w0 G st w r st') := by
 intro n
 obtain ⟨fv,vs',rfl,hv,h2⟩ := VRL.cons_iff.1 ha
 rw [VRL.nil_iff.1 h2]
 have hsz : (tryW w).heap.size = w.heap.size + 2 := by unfold tryW;rw [size_alloc,size_alloc]
 have hf1 : Foreign B0 G w (tryW w) (fun _ => False) := .grow (by omega) (fun b hb => by unfold tryW;rw [heap_alloc_lt _ _ (by rw [size_alloc];omega),heap_alloc_lt _ _ hb]) ⟨rfl,rfl⟩
 have hw1 := hf1.wr hw
 have hv1 := VR.mono (hf1.pres hw) hv
 have hva := hv
 simp only [VR] at hva
 obtain ⟨a',c',rfl,_,_⟩ := hva
 have key : ∀ (r2 : CR) (st2 : St) (a b c d : Int),rec.call (.func dg da dc) [] st = some (r2,st2) → (∀ w2 e,CallR Tryz.prog B0 w0 G st (tryW w) r2 st2 e w2 → ((∃ v,e = .returned v ∧ a = 0 ∧ b = 0 ∧ c = 0 ∧ d = 0) ∨ (e = .panicked [{ v := .iface 133 (.agg #[.int .i64 a,.int .i64 b,.int .i64 c]),recovered := false }] ∧ d = 7) ∨ (∃ t,e = .panicked [{ v := .iface 135 (.agg #[.string t]),recovered := false }] ∧ a = 0 ∧ b = 0 ∧ c = 0 ∧ d = 4))) →
   CallsIn Fence.wide n Tryz.prog 79 #[.func (.func dg) a' c'] w (CallR Tryz.prog B0 w0 G st w (.ret (.tuple [.agg [.int .i64 a,.int .i64 b,.int .i64 c],.int .i64 d])) st2) := by
  intro r2 st2 a b c d hcall hcase
  obtain ⟨_,hsnd⟩ := hs _ _ _ _ _ hcall hlo
  obtain ⟨hE,hC⟩ := hsnd G (tryW w) _ [] hw1 hv1 (VRL.nil_iff.2 rfl) a' c' rfl
  have hC1 := callsIn_wide.1 (hC 0)
  refine callsIn_wide.2 ((try_walk hE (Rd := fun w2 => ∃ G',WR Tryz.prog B0 w0 G' st2.heap w2 ∧ Ext G st.heap (tryW w) G' st2.heap w2 st2.lo) a b c d (hC1.mono ?_)).mono ?_)
  ·intro e w2 hR
   have hR' := hR
   obtain ⟨G',k1,k2,_⟩ := hR'
   exact ⟨hcase w2 e hR,⟨G',k1,k2⟩,try_frame hw k2⟩
  ·rintro e w' ⟨rfl,w2,⟨G',k1,k2⟩,ht⟩
   obtain ⟨f1,f2⟩ := try_frame hw k2
   obtain ⟨g1,g2⟩ := try_out hw k1 k2 f1 f2 ht
   refine ⟨G',g1,g2,_,rfl,?_⟩
   simp only [VR]
   exact ⟨_,rfl,VRL.cons (by simp only [VR];exact ⟨_,rfl,VRL.cons (by simp only [VR]) (VRL.cons (by simp only [VR]) (VRL.cons (by simp only [VR]) (VRL.nil_iff.2 rfl)))⟩) (VRL.cons (by simp only [VR]) (VRL.nil_iff.2 rfl))⟩
 unfold tryR at h
 split at h
 ·rename_i v st2 hcall
  simp only [Option.some.injEq,Prod.mk.injEq] at h
  obtain ⟨rfl,rfl⟩ := h
  exact key _ _ 0 0 0 0 hcall (fun w2 e hR => by
   obtain ⟨_,_,_,u,he,_⟩ := hR
   exact .inl ⟨u,he,rfl,rfl,rfl,rfl⟩)
 ·rename_i t v st2 hcall
  split at h
  ·rename_i a b c
   simp only [Option.some.injEq,Prod.mk.injEq] at h
   obtain ⟨rfl,rfl⟩ := h
   exact key _ _ a b c 7 hcall (fun w2 e hR => by
    obtain ⟨_,_,_,u,he,hu⟩ := hR
    simp only [VR] at hu
    obtain ⟨y,rfl,vs,rfl,hvs⟩ := hu
    have := ints3 (u := .agg vs) (by simp only [VR];exact ⟨vs,rfl,hvs⟩)
    rw [this] at he
    exact .inr (.inl ⟨he,rfl⟩))
  ·rename_i s
   simp only [Option.some.injEq,Prod.mk.injEq] at h
   obtain ⟨rfl,rfl⟩ := h
   exact key _ _ 0 0 0 4 hcall (fun w2 e hR => by
    obtain ⟨_,_,_,u,he,hu⟩ := hR
    simp only [VR] at hu
    obtain ⟨y,rfl,vs,rfl,hvs⟩ := hu
    have := str1 (u := .agg vs) (by simp only [VR];exact ⟨vs,rfl,hvs⟩)
    rw [this] at he
    exact .inr (.inr ⟨s,he,rfl,rfl,rfl,rfl⟩))
  ·cases h
 ·cases h
end
theorem primOK {B0 : Nat} {w0 : World} {m : Int} (hB : 1 < B0) (hm : w0.cell? ⟨1,0,none⟩ = some (.int .i64 m)) : PrimOK Tryz.prog B0 w0 EE := by
 intro g rec args st r st' _ _ hs _ hp hlo G w avs hw ha
 have hp : primT g rec args st = some (some (r,st')) := hp
 unfold primT at hp
 split at hp
 ·split at hp
  ·exact ⟨enter79,try_ok hs hp hlo hw ha⟩
  ·cases hp
 ·exact ⟨enter137,itoa_ok hp hw ha⟩
 ·exact ⟨enter138,join_ok hp hw ha⟩
 ·exact ⟨enter139,split_ok hB hm hp hw ha⟩
 ·cases hp
theorem primGrows : PrimGrows EE := by
 intro g rec args st r st' hg _ hp hlo
 have hp : primT g rec args st = some (some (r,st')) := hp
 unfold primT at hp
 split at hp
 ·split at hp
  ·unfold tryR at hp
   split at hp
   ·rename_i hcall
    simp only [Option.some.injEq,Prod.mk.injEq] at hp
    obtain ⟨rfl,rfl⟩ := hp
    exact hg _ _ _ _ _ hcall hlo
   ·rename_i hcall
    split at hp
    ·simp only [Option.some.injEq,Prod.mk.injEq] at hp
     obtain ⟨rfl,rfl⟩ := hp
     exact hg _ _ _ _ _ hcall hlo
    ·simp only [Option.some.injEq,Prod.mk.injEq] at hp
     obtain ⟨rfl,rfl⟩ := hp
     exact hg _ _ _ _ _ hcall hlo
    ·cases hp
   ·cases hp
  ·cases hp
 ·unfold itoaR at hp
  split at hp
  ·split at hp
   ·simp only [Option.some.injEq,Prod.mk.injEq] at hp
    obtain ⟨rfl,rfl⟩ := hp
    exact .refl _
   ·cases hp
  ·cases hp
 ·unfold joinR at hp
  split at hp
  ·split at hp
   ·split at hp
    ·simp only [Option.some.injEq,Prod.mk.injEq] at hp
     obtain ⟨rfl,rfl⟩ := hp
     exact .refl _
    ·cases hp
   ·cases hp
  ·cases hp
 ·unfold splitR at hp
  split at hp
  ·split at hp
   ·split at hp
    ·simp only [Option.some.injEq,Prod.mk.injEq] at hp
     obtain ⟨rfl,rfl⟩ := hp
     exact .refl _
    ·cases hp
   ·cases hp
  ·cases hp
 ·cases hp
end Go.Den.Ch
end
section
namespace Go.Den.Ch
open Go.Proofs
def mu0 : TypeId → Bool := fun _ => false
def mu39 : TypeId → Bool := fun t => t == 49
theorem en23 : funcC Tryz.prog mu0 Tryz.f23 = some den23 := by kernel_rfl
theorem en24 : funcC Tryz.prog mu0 Tryz.f24 = some den24 := by kernel_rfl
theorem en26 : funcC Tryz.prog mu0 Tryz.f26 = some den26 := by kernel_rfl
theorem en27 : funcC Tryz.prog mu0 Tryz.f27 = some den27 := by kernel_rfl
theorem en30 : funcC Tryz.prog mu0 Tryz.f30 = some den30 := by kernel_rfl
theorem en31 : funcC Tryz.prog mu0 Tryz.f31 = some den31 := by kernel_rfl
theorem en32 : funcC Tryz.prog mu0 Tryz.f32 = some den32 := by kernel_rfl
theorem en33 : funcC Tryz.prog mu0 Tryz.f33 = some den33 := by kernel_rfl
theorem en36 : funcC Tryz.prog mu0 Tryz.f36 = some den36 := by kernel_rfl
theorem en39 : funcC Tryz.prog mu39 Tryz.f39 = some den39 := by kernel_rfl
theorem en40 : funcC Tryz.prog mu0 Tryz.f40 = some den40 := by kernel_rfl
theorem en41 : funcC Tryz.prog mu0 Tryz.f41 = some den41 := by kernel_rfl
theorem en44 : funcC Tryz.prog mu0 Tryz.f44 = some den44 := by kernel_rfl
theorem en49 : funcC Tryz.prog mu0 Tryz.f49 = some den49 := by kernel_rfl
theorem en53 : funcC Tryz.prog mu0 Tryz.f53 = some den53 := by kernel_rfl
theorem en54 : funcC Tryz.prog mu0 Tryz.f54 = some den54 := by kernel_rfl
theorem en57 : funcC Tryz.prog mu0 Tryz.f57 = some den57 := by kernel_rfl
theorem en58 : funcC Tryz.prog mu0 Tryz.f58 = some den58 := by kernel_rfl
theorem en62 : funcC Tryz.prog mu0 Tryz.f62 = some den62 := by kernel_rfl
theorem en63 : funcC Tryz.prog mu0 Tryz.f63 = some den63 := by kernel_rfl
theorem en69 : funcC Tryz.prog mu0 Tryz.f69 = some den69 := by kernel_rfl
theorem en70 : funcC Tryz.prog mu0 Tryz.f70 = some den70 := by kernel_rfl
theorem en71 : funcC Tryz.prog mu0 Tryz.f71 = some den71 := by kernel_rfl
theorem en72 : funcC Tryz.prog mu0 Tryz.f72 = some den72 := by kernel_rfl
theorem en74 : funcC Tryz.prog mu0 Tryz.f74 = some den74 := by kernel_rfl
theorem en75 : funcC Tryz.prog mu0 Tryz.f75 = some den75 := by kernel_rfl
theorem en76 : funcC Tryz.prog mu0 Tryz.f76 = some den76 := by kernel_rfl
theorem en77 : funcC Tryz.prog mu0 Tryz.f77 = some den77 := by kernel_rfl
theorem en78 : funcC Tryz.prog mu0 Tryz.f78 = some den78 := by kernel_rfl
theorem en80 : funcC Tryz.prog mu0 Tryz.f80 = some den80 := by kernel_rfl
theorem en81 : funcC Tryz.prog mu0 Tryz.f81 = some den81 := by kernel_rfl
theorem en82 : funcC Tryz.prog mu0 Tryz.f82 = some den82 := by kernel_rfl
theorem en83 : funcC Tryz.prog mu0 Tryz.f83 = some den83 := by kernel_rfl
theorem en84 : funcC Tryz.prog mu0 Tryz.f84 = some den84 := by kernel_rfl
theorem en86 : funcC Tryz.prog mu0 Tryz.f86 = some den86 := by kernel_rfl
theorem en87 : funcC Tryz.prog mu0 Tryz.f87 = some den87 := by kernel_rfl
theorem en88 : funcC Tryz.prog mu0 Tryz.f88 = some den88 := by kernel_rfl
theorem en89 : funcC Tryz.prog mu0 Tryz.f89 = some den89 := by kernel_rfl
theorem en90 : funcC Tryz.prog mu0 Tryz.f90 = some den90 := by kernel_rfl
theorem en91 : funcC Tryz.prog mu0 Tryz.f91 = some den91 := by kernel_rfl
theorem en92 : funcC Tryz.prog mu0 Tryz.f92 = some den92 := by kernel_rfl
theorem en93 : funcC Tryz.prog mu0 Tryz.f93 = some den93 := by kernel_rfl
theorem en95 : funcC Tryz.prog mu0 Tryz.f95 = some den95 := by kernel_rfl
theorem en96 : funcC Tryz.prog mu0 Tryz.f96 = some den96 := by kernel_rfl
theorem en97 : funcC Tryz.prog mu0 Tryz.f97 = some den97 := by kernel_rfl
theorem en98 : funcC Tryz.prog mu0 Tryz.f98 = some den98 := by kernel_rfl
theorem en99 : funcC Tryz.prog mu0 Tryz.f99 = some den99 := by kernel_rfl
theorem en100 : funcC Tryz.prog mu0 Tryz.f100 = some den100 := by kernel_rfl
theorem en101 : funcC Tryz.prog mu0 Tryz.f101 = some den101 := by kernel_rfl
theorem en102 : funcC Tryz.prog mu0 Tryz.f102 = some den102 := by kernel_rfl
theorem en107 : funcC Tryz.prog mu0 Tryz.f107 = some den107 := by kernel_rfl
theorem en108 : funcC Tryz.prog mu0 Tryz.f108 = some den108 := by kernel_rfl
theorem en109 : funcC Tryz.prog mu0 Tryz.f109 = some den109 := by kernel_rfl
theorem en110 : funcC Tryz.prog mu0 Tryz.f110 = some den110 := by kernel_rfl
theorem en111 : funcC Tryz.prog mu0 Tryz.f111 = some den111 := by kernel_rfl
theorem en115 : funcC Tryz.prog mu0 Tryz.f115 = some den115 := by kernel_rfl
theorem en116 : funcC Tryz.prog mu0 Tryz.f116 = some den116 := by kernel_rfl
theorem en117 : funcC Tryz.prog mu0 Tryz.f117 = some den117 := by kernel_rfl
theorem en118 : funcC Tryz.prog mu0 Tryz.f118 = some den118 := by kernel_rfl
theorem en119 : funcC Tryz.prog mu0 Tryz.f119 = some den119 := by kernel_rfl
theorem en122 : funcC Tryz.prog mu0 Tryz.f122 = some den122 := by kernel_rfl
theorem en123 : funcC Tryz.prog mu0 Tryz.f123 = some den123 := by kernel_rfl
theorem en124 : funcC Tryz.prog mu0 Tryz.f124 = some den124 := by kernel_rfl
theorem en125 : funcC Tryz.prog mu0 Tryz.f125 = some den125 := by kernel_rfl
theorem en126 : funcC Tryz.prog mu0 Tryz.f126 = some den126 := by kernel_rfl
theorem en128 : funcC Tryz.prog mu0 Tryz.f128 = some den128 := by kernel_rfl
theorem en129 : funcC Tryz.prog mu0 Tryz.f129 = some den129 := by kernel_rfl
theorem en130 : funcC Tryz.prog mu0 Tryz.f130 = some den130 := by kernel_rfl
theorem en131 : funcC Tryz.prog mu0 Tryz.f131 = some den131 := by kernel_rfl
theorem en132 : funcC Tryz.prog mu0 Tryz.f132 = some den132 := by kernel_rfl
theorem en133 : funcC Tryz.prog mu0 Tryz.f133 = some den133 := by kernel_rfl
theorem en134 : funcC Tryz.prog mu0 Tryz.f134 = some den134 := by kernel_rfl
theorem en135 : funcC Tryz.prog mu0 Tryz.f135 = some den135 := by kernel_rfl
theorem en136 : funcC Tryz.prog mu0 Tryz.f136 = some den136 := by kernel_rfl
theorem en140 : funcC Tryz.prog mu0 Tryz.f140 = some den140 := by kernel_rfl
theorem en141 : funcC Tryz.prog mu0 Tryz.f141 = some den141 := by kernel_rfl
theorem en142 : funcC Tryz.prog mu0 Tryz.f142 = some den142 := by kernel_rfl
theorem en144 : funcC Tryz.prog mu0 Tryz.f144 = some den144 := by kernel_rfl
theorem en145 : funcC Tryz.prog mu0 Tryz.f145 = some den145 := by kernel_rfl
theorem en146 : funcC Tryz.prog mu0 Tryz.f146 = some den146 := by kernel_rfl
theorem en147 : funcC Tryz.prog mu0 Tryz.f147 = some den147 := by kernel_rfl
theorem en148 : funcC Tryz.prog mu0 Tryz.f148 = some den148 := by kernel_rfl
theorem en149 : funcC Tryz.prog mu0 Tryz.f149 = some den149 := by kernel_rfl
theorem en200 : funcC Tryz.prog mu0 Tryz.f200 = some den200 := by kernel_rfl
theorem en201 : funcC Tryz.prog mu0 Tryz.f201 = some den201 := by kernel_rfl
theorem en202 : funcC Tryz.prog mu0 Tryz.f202 = some den202 := by kernel_rfl
theorem en203 : funcC Tryz.prog mu0 Tryz.f203 = some den203 := by kernel_rfl
theorem en_of {g : Nat} {df df' : DFunc} {fn : Func} {mu : TypeId → Bool} (h : some df' = some df) (h1 : Tryz.prog.funcs[g]? = some fn) (h2 : funcC Tryz.prog mu fn = some df') (h3 : (fn.name == "runtime.NumGoroutine") = false) : ∃ fn mu,Tryz.prog.funcs[g]? = some fn ∧ funcC Tryz.prog mu fn = some df ∧ (fn.name == "runtime.NumGoroutine") = false := by
 cases h
 exact ⟨fn,mu,h1,h2,h3⟩
theorem envFn : EnvFn Tryz.prog EE := ⟨fun g df h => by
 have h : fnT g = some df := h
 unfold fnT at h
 split at h
 ·exact en_of h Tryz.func23 en23 (by kernel_rfl)
 ·exact en_of h Tryz.func24 en24 (by kernel_rfl)
 ·exact en_of h Tryz.func26 en26 (by kernel_rfl)
 ·exact en_of h Tryz.func27 en27 (by kernel_rfl)
 ·exact en_of h Tryz.func30 en30 (by kernel_rfl)
 ·exact en_of h Tryz.func31 en31 (by kernel_rfl)
 ·exact en_of h Tryz.func32 en32 (by kernel_rfl)
 ·exact en_of h Tryz.func33 en33 (by kernel_rfl)
 ·exact en_of h Tryz.func36 en36 (by kernel_rfl)
 ·exact en_of h Tryz.func39 en39 (by kernel_rfl)
 ·exact en_of h Tryz.func40 en40 (by kernel_rfl)
 ·exact en_of h Tryz.func41 en41 (by kernel_rfl)
 ·exact en_of h Tryz.func44 en44 (by kernel_rfl)
 ·exact en_of h Tryz.func49 en49 (by kernel_rfl)
 ·exact en_of h Tryz.func53 en53 (by kernel_rfl)
 ·exact en_of h Tryz.func54 en54 (by kernel_rfl)
 ·exact en_of h Tryz.func57 en57 (by kernel_rfl)
 ·exact en_of h Tryz.func58 en58 (by kernel_rfl)
 ·exact en_of h Tryz.func62 en62 (by kernel_rfl)
 ·exact en_of h Tryz.func63 en63 (by kernel_rfl)
 ·exact en_of h Tryz.func69 en69 (by kernel_rfl)
 ·exact en_of h Tryz.func70 en70 (by kernel_rfl)
 ·exact en_of h Tryz.func71 en71 (by kernel_rfl)
 ·exact en_of h Tryz.func72 en72 (by kernel_rfl)
 ·exact en_of h Tryz.func74 en74 (by kernel_rfl)
 ·exact en_of h Tryz.func75 en75 (by kernel_rfl)
 ·exact en_of h Tryz.func76 en76 (by kernel_rfl)
 ·exact en_of h Tryz.func77 en77 (by kernel_rfl)
 ·exact en_of h Tryz.func78 en78 (by kernel_rfl)
 ·exact en_of h Tryz.func80 en80 (by kernel_rfl)
 ·exact en_of h Tryz.func81 en81 (by kernel_rfl)
 ·exact en_of h Tryz.func82 en82 (by kernel_rfl)
 ·exact en_of h Tryz.func83 en83 (by kernel_rfl)
 ·exact en_of h Tryz.func84 en84 (by kernel_rfl)
 ·exact en_of h Tryz.func86 en86 (by kernel_rfl)
 ·exact en_of h Tryz.func87 en87 (by kernel_rfl)
 ·exact en_of h Tryz.func88 en88 (by kernel_rfl)
 ·exact en_of h Tryz.func89 en89 (by kernel_rfl)
 ·exact en_of h Tryz.func90 en90 (by kernel_rfl)
 ·exact en_of h Tryz.func91 en91 (by kernel_rfl)
 ·exact en_of h Tryz.func92 en92 (by kernel_rfl)
 ·exact en_of h Tryz.func93 en93 (by kernel_rfl)
 ·exact en_of h Tryz.func95 en95 (by kernel_rfl)
 ·exact en_of h Tryz.func96 en96 (by kernel_rfl)
 ·exact en_of h Tryz.func97 en97 (by kernel_rfl)
 ·exact en_of h Tryz.func98 en98 (by kernel_rfl)
 ·exact en_of h Tryz.func99 en99 (by kernel_rfl)
 ·exact en_of h Tryz.func100 en100 (by kernel_rfl)
 ·exact en_of h Tryz.func101 en101 (by kernel_rfl)
 ·exact en_of h Tryz.func102 en102 (by kernel_rfl)
 ·exact en_of h Tryz.func107 en107 (by kernel_rfl)
 ·exact en_of h Tryz.func108 en108 (by kernel_rfl)
 ·exact en_of h Tryz.func109 en109 (by kernel_rfl)
 ·exact en_of h Tryz.func110 en110 (by kernel_rfl)
 ·exact en_of h Tryz.func111 en111 (by kernel_rfl)
 ·exact en_of h Tryz.func115 en115 (by kernel_rfl)
 ·exact en_of h Tryz.func116 en116 (by kernel_rfl)
 ·exact en_of h Tryz.func117 en117 (by kernel_rfl)
 ·exact en_of h Tryz.func118 en118 (by kernel_rfl)
 ·exact en_of h Tryz.func119 en119 (by kernel_rfl)
 ·exact en_of h Tryz.func122 en122 (by kernel_rfl)
 ·exact en_of h Tryz.func123 en123 (by kernel_rfl)
 ·exact en_of h Tryz.func124 en124 (by kernel_rfl)
 ·exact en_of h Tryz.func125 en125 (by kernel_rfl)
 ·exact en_of h Tryz.func126 en126 (by kernel_rfl)
 ·exact en_of h Tryz.func128 en128 (by kernel_rfl)
 ·exact en_of h Tryz.func129 en129 (by kernel_rfl)
 ·exact en_of h Tryz.func130 en130 (by kernel_rfl)
 ·exact en_of h Tryz.func131 en131 (by kernel_rfl)
 ·exact en_of h Tryz.func132 en132 (by kernel_rfl)
 ·exact en_of h Tryz.func133 en133 (by kernel_rfl)
 ·exact en_of h Tryz.func134 en134 (by kernel_rfl)
 ·exact en_of h Tryz.func135 en135 (by kernel_rfl)
 ·exact en_of h Tryz.func136 en136 (by kernel_rfl)
 ·exact en_of h Tryz.func140 en140 (by kernel_rfl)
 ·exact en_of h Tryz.func141 en141 (by kernel_rfl)
 ·exact en_of h Tryz.func142 en142 (by kernel_rfl)
 ·exact en_of h Tryz.func144 en144 (by kernel_rfl)
 ·exact en_of h Tryz.func145 en145 (by kernel_rfl)
 ·exact en_of h Tryz.func146 en146 (by kernel_rfl)
 ·exact en_of h Tryz.func147 en147 (by kernel_rfl)
 ·exact en_of h Tryz.func148 en148 (by kernel_rfl)
 ·exact en_of h Tryz.func149 en149 (by kernel_rfl)
 ·exact en_of h Tryz.func200 en200 (by kernel_rfl)
 ·exact en_of h Tryz.func201 en201 (by kernel_rfl)
 ·exact en_of h Tryz.func202 en202 (by kernel_rfl)
 ·exact en_of h Tryz.func203 en203 (by kernel_rfl)
 ·cases h⟩
theorem meth1 (v : Value) (w : World) : (method (Tryz.prog.types.size + Made.depth) 142 v "kelir/chest.kind").run Tryz.prog w = .ok (200,v) w := by kernel_rfl
theorem meth2 (v : Value) (w : World) : (method (Tryz.prog.types.size + Made.depth) 142 v "kelir/chest.numbers").run Tryz.prog w = .ok (201,v) w := by kernel_rfl
theorem meth3 (v : Value) (w : World) : (method (Tryz.prog.types.size + Made.depth) 144 v "kelir/chest.kind").run Tryz.prog w = .ok (202,v) w := by kernel_rfl
theorem meth4 (v : Value) (w : World) : (method (Tryz.prog.types.size + Made.depth) 144 v "kelir/chest.numbers").run Tryz.prog w = .ok (203,v) w := by kernel_rfl
theorem envOK : EnvOK Tryz.prog EE := ⟨fun t m f h v w => by
 have h : methT t m = some f := h
 unfold methT at h
 split at h
 ·split at h
  ·rename_i hm;subst hm;cases h;exact meth1 v w
  ·split at h
   ·rename_i hm;subst hm;cases h;exact meth2 v w
   ·cases h
 ·split at h
  ·rename_i hm;subst hm;cases h;exact meth3 v w
  ·split at h
   ·rename_i hm;subst hm;cases h;exact meth4 v w
   ·cases h
 ·cases h⟩
theorem follows : Tryz.prog.follows .mixedOrders = true := by kernel_rfl
end Go.Den.Ch
end
section
namespace Go.Den
variable {P : Program}
def gh0 (W : World) : Gh := ⟨fun _ => none,fun _ => none,fun b => match W.heap[b]? with
 | some (.cells arr _ _) => some arr.size
 | _ => none⟩
theorem wr0 (W : World) : WR P W.heap.size W (gh0 W) [] W := by
 refine ⟨fun _ => ⟨rfl,rfl⟩,fun h => (by cases h),fun h => (by cases h),fun h => (by cases h),fun h => (by cases h),fun {b n} h => ?_,⟨Nat.le_refl _,fun _ _ => rfl⟩,⟨rfl,rfl⟩⟩
 simp only [gh0] at h
 split at h
 ·rename_i arr T fr hb
  cases h
  exact ⟨arr,T,fr,hb,Nat.le_refl _⟩
 ·cases h
theorem vrc_of {G : Gh} {w : World} : ∀ {cs : List PV} {b off : Nat},(∀ (j : Nat) (p : PV),cs[j]? = some p → ∃ v,w.cell? ⟨b,off + j,none⟩ = some v ∧ VR G w p v) → VRC G w cs b off
 | [],b,off,h => by simp only [VRC]
 | c :: cs,b,off,h => by
  simp only [VRC]
  refine ⟨h 0 c rfl,vrc_of fun j p hj => ?_⟩
  obtain ⟨v,h1,h2⟩ := h (j + 1) p (by simpa using hj)
  exact ⟨v,by rw [← h1];congr 2;omega,h2⟩
theorem cell_gh {W : World} {b i : Nat} {v : Value} (h : W.cell? ⟨b,i,none⟩ = some v) : ∃ m,(gh0 W).cm b = some m ∧ i < m := by
 unfold World.cell? at h
 split at h
 ·rename_i arr T fr hb
  refine ⟨arr.size,?_,?_⟩
  ·simp only [gh0]
   simp only at hb
   rw [hb]
  ·simp only [Option.isSome_none,Bool.false_eq_true,if_false] at h
   exact (Array.getElem?_eq_some_iff.1 h).1
 ·cases h
theorem vr_slice0 {W : World} {n cap b off : Nat} {cs : List PV} (hcap : n ≤ cap) (h : ∀ (j : Nat) (p : PV),cs[j]? = some p → ∃ v,W.cell? ⟨b,off + j,none⟩ = some v ∧ VR (gh0 W) W p v) : VR (gh0 W) W (.slice .shared n cs) (.slice (some ⟨b,off,none⟩) n cap) := by
 simp only [VR]
 refine ⟨b,off,cap,rfl,hcap,fun hne => ?_,trivial,vrc_of h⟩
 have hl : cs.length - 1 < cs.length := by
  have : cs.length ≠ 0 := by simpa using hne
  omega
 obtain ⟨v,h1,_⟩ := h (cs.length - 1) _ (List.getElem?_eq_getElem hl)
 obtain ⟨m,h2,h3⟩ := cell_gh h1
 exact ⟨m,h2,by omega⟩
theorem list_of {α : Type} {Q : Nat → α → Prop} : ∀ (n : Nat),(∀ i,i < n → ∃ a,Q i a) → ∃ l : List α,l.length = n ∧ ∀ (i : Nat) (a : α),l[i]? = some a → Q i a
 | 0,_ => ⟨[],rfl,fun i a h => by simp at h⟩
 | n + 1,h => by
  obtain ⟨l,h1,h2⟩ := list_of n (fun i hi => h i (by omega))
  obtain ⟨a,ha⟩ := h n (by omega)
  refine ⟨l ++ [a],by simp [h1],fun i x hx => ?_⟩
  by_cases hi : i < n
  ·rw [List.getElem?_append_left (by omega)] at hx
   exact h2 i x hx
  ·have hlt := (List.getElem?_eq_some_iff.1 hx).1
   simp [h1] at hlt
   have : i = n := by omega
   subst this
   rw [List.getElem?_append_right (by omega),h1] at hx
   simp at hx
   subst hx
   exact ha
end Go.Den
namespace Go.Den.Ch
set_option maxRecDepth 100000
open Go.Proofs Go.ChangeShapes Go.WideShapes
section
variable {H : Type} {enc : TypeId × Value → H} {W : World} {base fuel : Nat} {d : DataW H} {ps : List MemPlace}
theorem cells_three {b off : Nat} {cs : List Value} (h : W.cells? 0 ⟨b,off,none⟩ 3 = some cs) : ∃ x y z,cs = [x,y,z] ∧ W.cell? ⟨b,off,none⟩ = some x ∧ W.cell? ⟨b,off + 1,none⟩ = some y ∧ W.cell? ⟨b,off + 2,none⟩ = some z := by
 unfold World.cells? at h
 simp only [Nat.zero_le,if_true] at h
 have h0 := mapM_some_get h 0 0 (by simp)
 have h1 := mapM_some_get h 1 1 (by simp)
 have h2 := mapM_some_get h 2 2 (by simp)
 have hl := mapM_some_length h
 simp at hl
 match cs,hl with
 | [x,y,z],_ => exact ⟨x,y,z,rfl,h0,h1,h2⟩
theorem in_fig {cs : List Value} {y : DataW H × List MemPlace} (h : DataW.trod enc Tryz.prog W 0 (fun _ => true) true fuel 38 cs = some y) : ∃ f : Fig,cs = [.int .i64 f.size,.int .i64 f.rank,.int .i64 f.eve] := by
 obtain ⟨xs,n,_,_,hl,hxl,hf⟩ := DataW.trod_struct Tryz.underlying38 h
 have e1 : Tryz.prog.cellsOf 3 = 1 := by kernel_rfl
 have e3 : Tryz.prog.cellsOf 38 = 3 := by kernel_rfl
 rw [e3] at hl
 match cs,hl with
 | [a,b,c],_ =>
  have f0 : DataW.trod enc Tryz.prog W 0 (fun _ => true) true n 3 (List.take (Tryz.prog.cellsOf 3) [a,b,c]) = xs[0]? := hf 0 _ rfl
  have f1 : DataW.trod enc Tryz.prog W 0 (fun _ => true) true n 3 (List.take (Tryz.prog.cellsOf 3) [b,c]) = xs[1]? := hf 1 _ rfl
  have f2 : DataW.trod enc Tryz.prog W 0 (fun _ => true) true n 3 (List.take (Tryz.prog.cellsOf 3) [c]) = xs[2]? := hf 2 _ rfl
  rw [e1] at f0 f1 f2
  have hx : xs.length = 3 := hxl
  match xs,hx with
  | [x0,x1,x2],_ =>
   obtain ⟨n0,k0,_,_⟩ := DataW.trod_int Tryz.underlying3 f0
   obtain ⟨n1,k1,_,_⟩ := DataW.trod_int Tryz.underlying3 f1
   obtain ⟨n2,k2,_,_⟩ := DataW.trod_int Tryz.underlying3 f2
   simp at k0 k1 k2
   subst k0 k1 k2
   exact ⟨⟨n0,n1,n2⟩,rfl⟩
theorem in_figs {v : Value} (hcell : Cell.okWide Tryz.prog W .any base 22 v) {x : DataW H × List MemPlace} (h : DataW.trod enc Tryz.prog W 0 (fun _ => true) true fuel 22 [v] = some x) : ∃ F l,VR (gh0 W) W F v ∧ SlOf 3 encF F l := by
 have e3 : Tryz.prog.cellsOf 38 = 3 := by kernel_rfl
 rcases DataW.trod_slice Tryz.underlying22 h with ⟨hv,_⟩ | ⟨a,len,cap,elems,rest,n,_,hv,_,_,hl,_,hlen,hel,_,_⟩
 ·simp at hv
  subst hv
  exact ⟨.nilslice,[],by simp only [VR],rfl,fun _ h => by cases h⟩
 ·simp at hv
  subst hv
  have hsp : a.spot = none := by
   unfold Cell.okWide Cell.ok at hcell
   rw [Tryz.underlying22] at hcell
   exact hcell.2.2.2.1
  obtain ⟨b,off,sp⟩ := a
  simp only at hsp
  subst hsp
  rw [e3] at hel
  have hadd : ∀ i,(⟨b,off,none⟩ : Addr).add (i * 3) = ⟨b,off + i * 3,none⟩ := fun i => by
   unfold Addr.add
   by_cases h0 : i * 3 = 0
   ·rw [if_pos h0,h0];rfl
   ·rw [if_neg h0]
  obtain ⟨l,hll,hlq⟩ := list_of (α := Fig) (Q := fun i f => W.cell? ⟨b,off + i * 3,none⟩ = some (.int .i64 f.size) ∧ W.cell? ⟨b,off + i * 3 + 1,none⟩ = some (.int .i64 f.rank) ∧ W.cell? ⟨b,off + i * 3 + 2,none⟩ = some (.int .i64 f.eve)) len (fun i hi => by
   have h1 := hel i hi
   rw [hadd,List.getElem?_eq_getElem (by omega : i < elems.length)] at h1
   obtain ⟨cs,h2,h3⟩ := Option.bind_eq_some_iff.1 h1
   obtain ⟨x,y,z,rfl,g0,g1,g2⟩ := cells_three h2
   obtain ⟨f,hf⟩ := in_fig h3
   simp only [List.cons.injEq,and_true] at hf
   obtain ⟨rfl,rfl,rfl⟩ := hf
   exact ⟨f,g0,g1,g2⟩)
  refine ⟨.slice .shared len (l.flatMap encF),l,vr_slice0 hl fun j p hj => ?_,by simp only [PV.sl,hll],fun _ _ => rfl⟩
  have hjl := (List.getElem?_eq_some_iff.1 hj).1
  have hfl : (l.flatMap encF).length = l.length * 3 := flatMap_len (fun _ _ => rfl)
  have hi : j / 3 < l.length := by omega
  obtain ⟨g0,g1,g2⟩ := hlq (j / 3) _ (List.getElem?_eq_getElem hi)
  have hdr : (l.flatMap encF).drop (j / 3 * 3) = (l.drop (j / 3)).flatMap encF := flatMap_drop (j / 3) (fun _ _ => rfl)
  have hj2 : ((l.flatMap encF).drop (j / 3 * 3))[j % 3]? = some p := by
   rw [List.getElem?_drop,← hj];congr 1;omega
  rw [hdr,List.drop_eq_getElem_cons hi,List.flatMap_cons] at hj2
  have h3 : j % 3 = 0 ∨ j % 3 = 1 ∨ j % 3 = 2 := by omega
  rcases h3 with h3 | h3 | h3
  ·rw [h3] at hj2
   simp only [encF,List.cons_append,List.getElem?_cons_zero,Option.some.injEq] at hj2
   subst hj2
   exact ⟨_,by rw [← g0];congr 2;omega,by simp only [VR]⟩
  ·rw [h3] at hj2
   simp only [encF,List.cons_append,List.getElem?_cons_succ,List.getElem?_cons_zero,Option.some.injEq] at hj2
   subst hj2
   exact ⟨_,by rw [← g1];congr 2;omega,by simp only [VR]⟩
  ·rw [h3] at hj2
   simp only [encF,List.cons_append,List.getElem?_cons_succ,List.getElem?_cons_zero,Option.some.injEq] at hj2
   subst hj2
   exact ⟨_,by rw [← g2];congr 2;omega,by simp only [VR]⟩
theorem in_list {v : Value} (hok : Value.okWide Tryz.prog W .any base 24 v) (h : DataW.Trod enc Tryz.prog W 0 (fun _ => true) true 24 v d ps) : ∃ (c : CL) (F : PV),VR (gh0 W) W (clPV c F) v ∧ SlOf 3 encF F c.figs := by
 obtain ⟨fuel,h⟩ := h
 unfold Value.okWide at hok
 rw [Tryz.underlying24] at hok
 obtain ⟨cs,rfl,hsz,ts,hts,_,hrow⟩ := hok
 have e1 : Tryz.prog.cellsOf 3 = 1 := by kernel_rfl
 have e22 : Tryz.prog.cellsOf 22 = 1 := by kernel_rfl
 have e3 : Tryz.prog.cellsOf 24 = 3 := by kernel_rfl
 have et : Tryz.prog.cellTypes Tryz.prog.depth 24 = some [3,3,22] := by kernel_rfl
 rw [et] at hts
 cases hts
 obtain ⟨xs,n,_,_,hl,hxl,hf⟩ := DataW.trod_struct Tryz.underlying24 h
 rw [e3] at hl hsz
 have hcs : (Value.agg cs).cells.toList = cs.toList := rfl
 rw [hcs] at hl hf
 obtain ⟨l⟩ := cs
 match l,hl with
 | [a,b,c],_ =>
  have f0 : DataW.trod enc Tryz.prog W 0 (fun _ => true) true n 3 (List.take (Tryz.prog.cellsOf 3) [a,b,c]) = xs[0]? := hf 0 _ rfl
  have f1 : DataW.trod enc Tryz.prog W 0 (fun _ => true) true n 3 (List.take (Tryz.prog.cellsOf 3) [b,c]) = xs[1]? := hf 1 _ rfl
  have f2 : DataW.trod enc Tryz.prog W 0 (fun _ => true) true n 22 (List.take (Tryz.prog.cellsOf 22) [c]) = xs[2]? := hf 2 _ rfl
  rw [e1] at f0 f1
  rw [e22] at f2
  have hx : xs.length = 3 := hxl
  match xs,hx with
  | [x0,x1,x2],_ =>
   obtain ⟨n0,k0,_,_⟩ := DataW.trod_int Tryz.underlying3 f0
   obtain ⟨n1,k1,_,_⟩ := DataW.trod_int Tryz.underlying3 f1
   simp at k0 k1
   subst k0 k1
   obtain ⟨u,hu,hcell⟩ := hrow 2 c rfl
   simp at hu
   subst hu
   obtain ⟨F,fs,hF1,hF2⟩ := in_figs hcell (x := x2) f2
   refine ⟨⟨n0,n1,fs⟩,F,?_,hF2⟩
   simp only [VR]
   exact ⟨_,rfl,VRL.cons (by simp only [VR]) (VRL.cons (by simp only [VR]) (VRL.cons hF1 (VRL.nil_iff.2 rfl)))⟩
end
theorem law_call {g : Nat} {args : List PV} {avs : Array Value} {W : World} (hB : ∃ m,1 < W.heap.size ∧ W.cell? ⟨1,0,none⟩ = some (.int .i64 m)) (h : ∀ st,Cl EE (.func g [] []) args st (.ret (.bool true)) st) (ha : VRL (gh0 W) W args avs.toList) :
  Calls Tryz.prog g avs W fun e W' => e = .returned (.bool true) ∧ W.heap.size ≤ W'.heap.size ∧ (∀ b,b < W.heap.size → W'.heap[b]? = W.heap[b]?) ∧ W'.os = W.os ∧ W'.output = W.output := by
 obtain ⟨m,hB,hm⟩ := hB
 obtain ⟨N,hN⟩ := h { heap := [],lo := 0 }
 have hs := (run_ok (B0 := W.heap.size) (w0 := W) follows envOK envFn (primOK hB hm) primGrows N).1 _ _ _ _ _ (hN N (Nat.le_refl _)) (Nat.le_refl _)
 obtain ⟨_,hC⟩ := hs.2 (gh0 W) W (.func (.func g) #[] #[]) avs.toList (wr0 W) (by simp only [VR];exact ⟨_,_,rfl,VRL.nil_iff.2 rfl,VRL.nil_iff.2 rfl⟩) ha #[] #[] rfl
 have hC1 := callsIn_wide.1 (hC 0)
 have e : #[] ++ avs.toList.toArray ++ #[] = avs := by simp
 rw [e] at hC1
 refine hC1.mono ?_
 rintro e W' ⟨G',hw,hx,u,rfl,hu⟩
 simp only [VR] at hu
 subst hu
 exact ⟨rfl,hw.low.1,hw.low.2,hw.out⟩
end Go.Den.Ch
end
section
namespace Go.Proofs.YtoeigapilcgelaaGreatDoor
open Go.ChangeShapes Go.WideShapes Go.ChangeAt Go.WideMaps Go.WideElems Go.RowKit
set_option maxRecDepth 100000
theorem ownKnob0 : ownKnob Tryz.prog.godebug = none := by kernel_rfl
theorem laidOut0 : laidOutB Tryz.prog = true := by kernel_rfl
theorem maxLen_cell {W : World} (h : W.ShapedOpen Tryz.prog) : ∃ m,1 < W.heap.size ∧ W.cell? ⟨1,0,none⟩ = some (.int .i64 m) := by
 obtain ⟨m,hm⟩ := cell_of_shapedOpen_int (g := 1) (t := 3) (zero := #[.int .i64 0]) (k := .i64) h (of_decide_eq_true (by kernel_rfl)) (by kernel_rfl) rfl (by kernel_rfl) (by kernel_rfl) Tryz.underlying3
 refine ⟨m,?_,hm⟩
 unfold World.cell? at hm
 split at hm
 ·rename_i hh
  exact (Array.getElem?_eq_some_iff.1 hh).1
 ·cases hm
theorem returns_law {H : Type} {enc : TypeId × Value → H} {a : Assume} {C : Checked} {os : Os} {f : FuncId} {fn : Func} {s : ChangeSpec} {conds : List PathCond} {apart fresh handsOn again : Bool} {X : World → Array Value → Prop}
  (hX : ∀ (w w' : World) (args : Array Value),w.heap = w'.heap → X w args → X w' args)
  (own : ownKnob C.prog.godebug = none) (started : os.Started) (noInit : C.prog.inits.idxOf? f = none) (hfn : C.prog.funcs[f]? = some fn)
  (witness : ∃ (w : World) (tape : Tape) (i : Input),w.os = os ∧ (w.forCall tape i).Shaped C.prog ∧ i.vars = [] ∧ Input.okWide C.prog (w.forCall tape i) .any w.heap.size f i ∧
   ((s.pre enc C.prog fn conds apart (w.forCall tape i).memory i.args ∧ X (w.forCall tape i).memory i.args) ∧ sizedMet enc C.prog fn (OpenSpec.ofChange s) apart (w.forCall tape i).memory i.args) ∧ a.holds C.prog (lone (Frame.enter C.prog f i.args .normal) [] (w.forCall tape i)))
  (contract : ∀ (W : World) (base : Nat) (args : Array Value) (ds gs : List (DataW H)) (before : List MemPlace),
   (∀ (j : Nat) t v,fn.params[j]? = some t → args[j]? = some v → Value.okWide C.prog W .any base t v) →
   DataW.Whole enc C.prog fn.params.toList s.vars apart W args.toList ds gs before →
   W.ShapedOpen C.prog →
   Calls C.prog f args W fun e W' => ∃ v,e = .returned v ∧ s.post enc C.prog fn apart fresh handsOn again W args v W') :
  ReturnsInHanded a C os f .any (fun w args => (s.pre enc C.prog fn conds apart w args ∧ X w args) ∧ sizedMet enc C.prog fn (OpenSpec.ofChange s) apart w args) (s.post enc C.prog fn apart fresh handsOn again) := by
 refine returnsInHanded_of_calls own started noInit witness ?_
 intro w tape i _ hsh _ hok hpre _
 obtain ⟨_,_,_,fn',hfn',_,_,_,_,hval⟩ := hok
 have e : fn' = fn := Option.some.inj (hfn'.symm.trans hfn)
 subst e
 obtain ⟨⟨⟨ds,gs,before,hw,_⟩,_⟩,_⟩ := hpre
 have hw' := DataW.Whole.of_heap (w' := w.forCall tape i) (by rfl) hw
 refine (contract (w.forCall tape i) w.heap.size i.args ds gs before hval hw' hsh).mono fun e W' ⟨v,he,hp⟩ => ?_
 subst he
 exact ChangeSpec.post_blind hp
theorem trodAll_grown {H : Type} {enc : TypeId × Value → H} {W W' : World} (hb : Below W.heap.size W W') : ∀ {ts : List TypeId} {vs : List Value} {ds : List (DataW H)} {ps : List MemPlace},(∀ t ∈ ts,Tryz.prog.readableRec t = true ∧ t < Tryz.prog.types.size) → DataW.TrodAll enc Tryz.prog W 0 (fun _ => true) true ts vs ds ps → (∀ x ∈ ps,x.block < W.heap.size) → DataW.TrodAll enc Tryz.prog W' 0 (fun b => decide (b < W.heap.size)) true ts vs ds ps
 | [],vs,ds,ps,_,h,_ => by
  obtain ⟨rfl,rfl,rfl⟩ := trodAll_nil h
  rfl
 | t :: ts,vs,ds,ps,hr,h,hl => by
  obtain ⟨v,vs',d,ds',p,q,rfl,rfl,rfl,h1,h2⟩ := trodAll_cons h
  have h0 := hr t (by simp)
  exact ⟨p,q,Below.trod laidOut0 h0.1 h0.2 h1 hb (fun x hx => hl x (by simp [hx])),trodAll_grown hb (fun t ht => hr t (by simp [ht])) h2 (fun x hx => hl x (by simp [hx])),rfl⟩
theorem keptBut_grown {W W' : World} {may : MemPlace → Prop} (h : ∀ b,b < W.heap.size → W'.heap[b]? = W.heap[b]?) (ho : W'.os = W.os ∧ W'.output = W.output) : W.keptBut W' may := by
 refine ⟨ho.1,ho.2,fun i hi => ?_⟩
 rw [h i hi]
 split
 ·rename_i h1 h2
  rw [h1] at h2
  cases h2
  exact ⟨rfl,rfl,rfl,fun _ _ => rfl⟩
 ·rename_i h1 h2
  rw [h1] at h2
  cases h2
  exact .inr ⟨rfl,rfl⟩
 ·rfl
theorem post_true {H : Type} {enc : TypeId × Value → H} {fn : Func} {s : ChangeSpec} {W W' : World} {args : Array Value} {ds : List (DataW H)} {before : List MemPlace}
  (hvars : s.vars = []) (hW : DataW.Whole enc Tryz.prog fn.params.toList s.vars false W args.toList ds [] before) (hres : fn.resultTypes = #[4]) (hfn : s.fn H (ds ++ []) = { results := [.lit (.bool true)],args := ds })
  (hr : ∀ t ∈ fn.params.toList,Tryz.prog.readableRec t = true ∧ t < Tryz.prog.types.size)
  (hs : W.heap.size ≤ W'.heap.size) (hb : ∀ b,b < W.heap.size → W'.heap[b]? = W.heap[b]?) (ho : W'.os = W.os ∧ W'.output = W.output) :
  s.post enc Tryz.prog fn false true false false W args (.bool true) W' := by
 have hW0 := hW
 obtain ⟨p,q,hA,hV,rfl,_,_⟩ := hW
 rw [hvars] at hV
 obtain ⟨_,rfl⟩ : ([] : List (DataW H)) = [] ∧ q = [] := by
  cases q with
  | nil => exact ⟨rfl,rfl⟩
  | cons x q => simp [DataW.TrodVars] at hV
 have hlt : ∀ x ∈ p,x.block < W.heap.size := fun x hx => by simpa using hW0.lt x (by simp [hx])
 have ha : ({ W' with tape := W.tape } : World).Alike W' := ⟨rfl,rfl,rfl⟩
 have hbl : Below W.heap.size W { W' with tape := W.tape } := ⟨ho.1,rfl,ho.2,hs,hb⟩
 have hT := trodAll_grown hbl hr hA hlt
 have hT' : DataW.TrodAll enc Tryz.prog W' 0 (fun b => decide (b < W.heap.size)) true fn.params.toList args.toList ds p := DataW.TrodAll.of_heap (show ({ W' with tape := W.tape } : World).heap = W'.heap from rfl) hT
 refine ⟨ds,[],p ++ [],[],p,[],hW0,?_,?_,?_,keptBut_grown hb ho,fun h => by cases h⟩
 ·rw [hfn,hres]
  exact trodAll_mk1 (shut_bool Tryz.underlying4 _)
 ·rw [hfn];exact hT'
 ·rw [hfn,hvars];rfl
end Go.Proofs.YtoeigapilcgelaaGreatDoor
end

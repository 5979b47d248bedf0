/- Part of the proof that for every input the function VersionFar returns true and each argument reads as it did. Texts: VxA. -/
import Derived.Test.YtehdcjbdhkkipaaGreatDoorVAAp
set_option linter.unusedSimpArgs false
set_option linter.unusedVariables false
section
namespace Go.Den.Ve
theorem goodB_yes {b : BP} (h : goodB b = true) : smallB b = true ∧ OkB b.bk := by
 simp only [goodB,Bool.and_eq_true] at h
 exact ⟨h.1,bookB_iff.1 h.2⟩
set_option maxHeartbeats 16000000 in
theorem c3 (b : BP) (L1 L2 L3 : PV) (l1 l2 l3 : List Int) (hL1 : SlOf 1 encI L1 l1) (hL2 : SlOf 1 encI L2 l2) (hL3 : SlOf 1 encI L3 l3) (st : St) : Cl EE (.func 3 [] []) [b.pv,L1,L2,L3] st (.ret (.bool true)) st := by
 have hb := b.h
 have s1 := hL1.slen
 have s2 := hL2.slen
 have s3 := hL3.slen
 have k23 := fun st => c23 b st
 refine cF4 pr3 fn3 (fun tm hl h0 h1 h2 h3 => ?_)
 cases hA : goodB b
 ·rw [hA] at k23
  refine go2 (bw5 hl h0 h1 h2 h3) (bw3 k23 c25 fnil) ?_
  exact fQ hl
 rw [hA] at k23
 have hB := (goodB_yes hA).2
 have hw := hB.okW
 cases d1 : decide ((l1.length : Int) > 6)
 case true =>
  refine go2 (bw9 hl h0 h1 h2 h3 s1 s2 s3 d1) (bw3 k23 c25 fnil) ?_
  exact fQ hl
 have n1 := of_decide_eq_false d1
 cases d2 : decide ((l2.length : Int) > 6)
 case true =>
  refine go2 (bw10 hl h0 h1 h2 h3 s1 s2 s3 d1 d2) (bw3 k23 c25 fnil) ?_
  exact fQ hl
 have n2 := of_decide_eq_false d2
 cases d3 : decide ((l3.length : Int) > 6)
 case true =>
  refine go2 (bw11 hl h0 h1 h2 h3 s1 s2 s3 d1 d2 d3) (bw3 k23 c25 fnil) ?_
  exact fQ hl
 have n3 := of_decide_eq_false d3
 have k1 := fun st => c24 b.words b.v b.cells b.isCell hw L1 l1 hL1 (by omega) st
 have k2 := fun st => c24 b.words b.v b.cells b.isCell hw L2 l2 hL2 (by omega) st
 have k3 := fun st => c24 b.words b.v b.cells b.isCell hw L3 l3 hL3 (by omega) st
 cases e1 : lineB b.words l1
 ·rw [e1] at k1
  refine go2 (bw11 hl h0 h1 h2 h3 s1 s2 s3 d1 d2 d3) (bw4 k23 k1 c25 fnil) ?_
  exact fQ hl
 rw [e1] at k1
 cases e2 : lineB b.words l2
 ·rw [e2] at k2
  refine go2 (bw11 hl h0 h1 h2 h3 s1 s2 s3 d1 d2 d3) (bw5 k23 k1 k2 c25 fnil) ?_
  exact fQ hl
 rw [e2] at k2
 cases e3 : lineB b.words l3
 ·rw [e3] at k3
  refine go2 (bw11 hl h0 h1 h2 h3 s1 s2 s3 d1 d2 d3) (bw6 k23 k1 k2 k3 c25 fnil) ?_
  exact fQ hl
 rw [e3] at k3
 have m1 := fun st => c26y b hB L1 L2 l1 l2 hL1 hL2 e1 e2 st
 have m2 := fun st => c26y b hB L2 L1 l2 l1 hL2 hL1 e2 e1 st
 have m3 := fun st => c26y b hB L1 L3 l1 l3 hL1 hL3 e1 e3 st
 have m4 := fun st => c26y b hB L3 L2 l3 l2 hL3 hL2 e3 e2 st
 rw [lev_symm l2 l1] at m2
 have v1 := lev4 e1 e2
 have v2 := lev4 e1 e3
 have v3 := lev4 e3 e2
 have k27 := fun st => c27 L1 L2 l1 l2 hL1 hL2 (by omega) st
 have hz := lev_zero (l := l1) (m := l2)
 have heq : (((lev l1 l2 : Nat) : Int) == 0) = (l1 == l2) := by
  rw [Bool.eq_iff_iff,beq_iff_eq,beq_iff_eq,← hz];omega
 have hge := lev_ge l1 l2
 have hmx := lev_max l1 l2
 have htri := lev_tri l1 l3 l2
 have q1 : decide (((lev l1 l2 : Nat) : Int) < 0) = false := decide_eq_false (by omega)
 have q2 : decide (((lev l1 l3 : Nat) : Int) < 0) = false := decide_eq_false (by omega)
 have q3 : decide (((lev l3 l2 : Nat) : Int) < 0) = false := decide_eq_false (by omega)
 have q4 : decide (((lev l1 l3 : Nat) : Int) > 4) = false := decide_eq_false (by omega)
 have q5 : decide (((lev l3 l2 : Nat) : Int) > 4) = false := decide_eq_false (by omega)
 have r1 : decide (((lev l1 l2 : Nat) : Int) ≤ max (l1.length : Int) l2.length) = true := decide_eq_true (by omega)
 have w1 : IntKind.wrap .i64 (max (l1.length : Int) l2.length - min (l1.length : Int) l2.length) = max (l1.length : Int) l2.length - min (l1.length : Int) l2.length := wrap_in (by unfold inI;omega)
 have r2 : decide (((lev l1 l2 : Nat) : Int) ≥ max (l1.length : Int) l2.length - min (l1.length : Int) l2.length) = true := decide_eq_true (by omega)
 have w2 : IntKind.wrap .i64 (((lev l1 l3 : Nat) : Int) + ((lev l3 l2 : Nat) : Int)) = ((lev l1 l3 : Nat) : Int) + ((lev l3 l2 : Nat) : Int) := wrap_in (by unfold inI;omega)
 have r3 : decide (((lev l1 l2 : Nat) : Int) ≤ ((lev l1 l3 : Nat) : Int) + ((lev l3 l2 : Nat) : Int)) = true := decide_eq_true (by omega)
 have hbe : ((l1 == l2) == (l1 == l2)) = true := by simp
 refine go2 (bw11 hl h0 h1 h2 h3 s1 s2 s3 d1 d2 d3) (bw9 k23 k1 k2 k3 m1 m2 m3 m4 fnil) ?_
 refine go2 (bw24 hl h0 h1 h2 h3 s1 s2 s3 zs nne q1 q2 q3 q4 q5 @mm2 @mm2' heq hbe r1 w1 r2 w2 r3) (bw3 k27 c25 fnil) ?_
 exact fQ hl
def anyArg (b : BP) (l1 l2 : List Int) : Bool := smallB b && (decide ((l1.length : Int) ≤ 6) && decide ((l2.length : Int) ≤ 6))
end Go.Den.Ve
end

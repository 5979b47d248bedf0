/- The statement TopNoted holds: whatever the input, the law returns true, and the input reads as it did; no condition. Texts: CdTopNoted. -/
import Derived.Test.YthnfeimjhibcaaaTAAt
import Derived.Test.YthnfeimjhibcaaaTAAs
import Derived.Test.YthnfeimjhibcaaaTAAz
import Derived.Test.YthnfeimjhibcaaaLA
set_option linter.unusedSimpArgs false
set_option linter.unusedVariables false
section
namespace Go.Proofs.Ythnfeimjhibcaaa
open Go.ChangeShapes Go.WideShapes Go.ChangeAt Go.WideMaps Go.WideElems Go.RowKit
set_option maxRecDepth 100000
theorem topNoted_lifted (os:Os) (started:os.Started) (H:Type) (enc:TypeId×Value→H) :
  ReturnsInHanded {} Try.checked os 3 .any (fun w args=>Rows.topNotedSpec.pre enc Try.prog Try.f3 Rows.topNotedRow.domain false w args∧sizedMet enc Try.prog Try.f3 (OpenSpec.ofChange Rows.topNotedSpec) false w args)
   (Rows.topNotedSpec.post enc Try.prog Try.f3 false true false false):=by
 suffices key:ReturnsInHanded {} Try.checked os 3 .any (fun w args=>(Rows.topNotedSpec.pre enc Try.prog Try.f3 Rows.topNotedRow.domain false w args∧True)∧sizedMet enc Try.prog Try.f3 (OpenSpec.ofChange Rows.topNotedSpec) false w args)
   (Rows.topNotedSpec.post enc Try.prog Try.f3 false true false false) by simpa only [and_true] using key
 refine returns_law (C:=Try.checked) (X:=fun _ _=>True) (fun _ _ _ _ h=>h) ownKnob0 started (by kernel_rfl) Try.func3
  (ChangeSpec.witness_shaped (enc:=enc) (C:=Try.checked) (os:=os) (X:=fun _ _=>True) false (World.laidAll Try.prog os []) #[.agg #[.int .i64 0,.int .i64 0,.slice none 0 0],.int .i64 0,.slice none 0 0,.slice none 0 0] 8 (World.laidAll_os _ _ _)
   (World.shaped_of_ZipB (by kernel_rfl) (by kernel_rfl)) (by kernel_rfl) (by kernel_rfl) (by kernel_rfl) trivial) ?_
 intro W base args ds gs before hval0 hW hsh
 have hval:∀ (j:Nat) t v,Try.f3.params[j]? = some t→args[j]? = some v→Value.okWide Try.prog W .any base t v:=hval0
 have hW':=hW
 obtain ⟨p,q,hA0,hV,rfl,_,_⟩:=hW
 have hA:DataW.TrodAll enc Try.prog W 0 (fun _=>true) true Try.f3.params.toList args.toList ds p:=hA0
 rw [Try.params3] at hA hval
 obtain ⟨rfl,rfl⟩:=trodVars_none hV
 obtain ⟨v0,vs0,d0,ds0,p0,q0,e0,rfl,rfl,h0,hr0⟩:=trodAll_cons hA
 obtain ⟨v1,vs1,d1,ds1,p1,q1,rfl,rfl,rfl,h1,hr1⟩:=trodAll_cons hr0
 obtain ⟨v2,vs2,d2,ds2,p2,q2,rfl,rfl,rfl,h2,hr2⟩:=trodAll_cons hr1
 obtain ⟨v3,vs3,d3,ds3,p3,q3,rfl,rfl,rfl,h3,hr3⟩:=trodAll_cons hr2
 obtain ⟨rfl,rfl,rfl⟩:=trodAll_nil hr3
 obtain ⟨args⟩:=args
 simp only at e0
 subst e0
 obtain ⟨b0,g0⟩:=Go.Den.Ty.in_book (hval 0 24 v0 rfl rfl) h0
 obtain ⟨n1,rfl,rfl,rfl,_⟩:=open_int Try.underlying3 (hval 1 3 v1 rfl rfl) h1
 obtain ⟨P2,k2,g2,hP2⟩:=Go.Den.Ty.in_ints (hval 2 25 v2 rfl rfl) h2
 obtain ⟨P3,k3,g3,hP3⟩:=Go.Den.Ty.in_ints (hval 3 25 v3 rfl rfl) h3
 have hcall:=Go.Den.Ty.law_call (avs:=⟨[v0,.int .i64 n1,v2,v3]⟩) (fun st=>Go.Den.Tq.c3 b0 n1 P2 P3 k2 k3 hP2 hP3 st)
  (Go.Den.VRL.cons g0 (Go.Den.VRL.cons (by simp only [Go.Den.VR]) (Go.Den.VRL.cons g2 (Go.Den.VRL.cons g3 (Go.Den.VRL.nil_iff.2 rfl)))))
 refine hcall.mono ?_
 rintro e W' ⟨rfl,hs,hb,ho⟩
 refine ⟨_,rfl,post_true rfl hW' (by kernel_rfl) rfl (fun t ht=>?_) hs hb ho⟩
 rw [Try.params3] at ht
 have hall:([24,3,25,25].all fun t=>Try.prog.readableRec t&&decide (t<Try.prog.types.size))=true:=by kernel_rfl
 have:=List.all_eq_true.1 hall t ht
 simpa only [Bool.and_eq_true,decide_eq_true_eq] using this
theorem topNoted_named:Try.prog.funcNamed Rows.topNotedRow.func=some 3:=by kernel_rfl
theorem topNoted_holds:Rows.TopNotedSaid :=
 OpenClaim.holds_of_wide 3 Try.f3 rfl rfl rfl rfl rfl rfl rfl ⟨rfl,rfl,rfl,rfl,rfl⟩ rfl rfl rfl rfl rfl topNoted_named Try.func3 topNoted_facts
  (of_decide_eq_true (by as_aux_lemma=>kernel_rfl)) (by unfold Func.isWrapper;first|(rw [if_pos (by decide +kernel)];kernel_rfl)|(rw [if_neg (by decide +kernel)];exact ⟨rfl,rfl⟩))
  (fun os started H enc _=>topNoted_lifted os started H enc)
end Go.Proofs.Ythnfeimjhibcaaa
end

/- The statement TopShelf holds: for every input its function returns true; no condition. Texts: CdTopShelf. -/
import Derived.Test.YthnfeimjhibcaaaTBAs
import Derived.Test.YthnfeimjhibcaaaTBBb
import Derived.Test.YthnfeimjhibcaaaMA
set_option linter.unusedSimpArgs false
set_option linter.unusedVariables false
section
namespace Go.Proofs.Ythnfeimjhibcaaa
open Go.ChangeShapes Go.WideShapes Go.ChangeAt Go.WideMaps Go.WideElems Go.RowKit
set_option maxRecDepth 100000
theorem topShelf_lifted (os:Os) (started:os.Started) (H:Type) (enc:TypeId×Value→H) :
  ReturnsInHanded {} Try.checked os 4 .any (fun w args=>Rows.topShelfSpec.pre enc Try.prog Try.f4 Rows.topShelfRow.domain false w args∧sizedMet enc Try.prog Try.f4 (OpenSpec.ofChange Rows.topShelfSpec) false w args)
   (Rows.topShelfSpec.post enc Try.prog Try.f4 false true false false):=by
 suffices key:ReturnsInHanded {} Try.checked os 4 .any (fun w args=>(Rows.topShelfSpec.pre enc Try.prog Try.f4 Rows.topShelfRow.domain false w args∧True)∧sizedMet enc Try.prog Try.f4 (OpenSpec.ofChange Rows.topShelfSpec) false w args)
   (Rows.topShelfSpec.post enc Try.prog Try.f4 false true false false) by simpa only [and_true] using key
 refine returns_law (C:=Try.checked) (X:=fun _ _=>True) (fun _ _ _ _ h=>h) ownKnob0 started (by kernel_rfl) Try.func4
  (ChangeSpec.witness_shaped (enc:=enc) (C:=Try.checked) (os:=os) (X:=fun _ _=>True) false (World.laidAll Try.prog os []) #[.slice none 0 0,.slice none 0 0] 8 (World.laidAll_os _ _ _)
   (World.shaped_of_ZipB (by kernel_rfl) (by kernel_rfl)) (by kernel_rfl) (by kernel_rfl) (by kernel_rfl) trivial) ?_
 intro W base args ds gs before hval0 hW hsh
 have hval:∀ (j:Nat) t v,Try.f4.params[j]? = some t→args[j]? = some v→Value.okWide Try.prog W .any base t v:=hval0
 have hW':=hW
 obtain ⟨p,q,hA0,hV,rfl,_,_⟩:=hW
 have hA:DataW.TrodAll enc Try.prog W 0 (fun _=>true) true Try.f4.params.toList args.toList ds p:=hA0
 rw [Try.params4] at hA hval
 obtain ⟨rfl,rfl⟩:=trodVars_none hV
 obtain ⟨v0,vs0,d0,ds0,p0,q0,e0,rfl,rfl,h0,hr0⟩:=trodAll_cons hA
 obtain ⟨v1,vs1,d1,ds1,p1,q1,rfl,rfl,rfl,h1,hr1⟩:=trodAll_cons hr0
 obtain ⟨rfl,rfl,rfl⟩:=trodAll_nil hr1
 obtain ⟨args⟩:=args
 simp only at e0
 subst e0
 obtain ⟨P0,k0,g0,hP0⟩:=Go.Den.Ty.in_ints (hval 0 25 v0 rfl rfl) h0
 obtain ⟨P1,k1,g1,hP1⟩:=Go.Den.Ty.in_ints (hval 1 25 v1 rfl rfl) h1
 have hcall:=Go.Den.Ty.law_call (avs:=⟨[v0,v1]⟩) (fun st=>Go.Den.Tp.c4 P0 P1 k0 k1 hP0 hP1 st)
  (Go.Den.VRL.cons g0 (Go.Den.VRL.cons g1 (Go.Den.VRL.nil_iff.2 rfl)))
 refine hcall.mono ?_
 rintro e W' ⟨rfl,hs,hb,ho⟩
 refine ⟨_,rfl,post_true rfl hW' (by kernel_rfl) rfl (fun t ht=>?_) hs hb ho⟩
 rw [Try.params4] at ht
 have hall:([25,25].all fun t=>Try.prog.readableRec t&&decide (t<Try.prog.types.size))=true:=by kernel_rfl
 have:=List.all_eq_true.1 hall t ht
 simpa only [Bool.and_eq_true,decide_eq_true_eq] using this
theorem topShelf_named:Try.prog.funcNamed Rows.topShelfRow.func=some 4:=by kernel_rfl
theorem topShelf_holds:Rows.TopShelfSaid :=
 OpenClaim.holds_of_wide 4 Try.f4 rfl rfl rfl rfl rfl rfl rfl ⟨rfl,rfl,rfl,rfl,rfl⟩ rfl rfl rfl rfl rfl topShelf_named Try.func4 topShelf_facts
  (of_decide_eq_true (by as_aux_lemma=>kernel_rfl)) (by unfold Func.isWrapper;first|(rw [if_pos (by decide +kernel)];kernel_rfl)|(rw [if_neg (by decide +kernel)];exact ⟨rfl,rfl⟩))
  (fun os started H enc _=>topShelf_lifted os started H enc)
end Go.Proofs.Ythnfeimjhibcaaa
end

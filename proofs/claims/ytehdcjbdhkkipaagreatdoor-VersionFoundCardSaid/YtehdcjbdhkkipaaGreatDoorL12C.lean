/- For every input the function VersionFound returns true and each argument reads as it did. Texts: CdVersionFound. -/
import Derived.Test.YtehdcjbdhkkipaaGreatDoorVMBb
import Derived.Test.YtehdcjbdhkkipaaGreatDoorL12B
import Derived.Test.YtehdcjbdhkkipaaGreatDoorL12A
import Derived.Test.YtehdcjbdhkkipaaGreatDoorCards
import Derived.Test.YtehdcjbdhkkipaaGreatDoorTie
import Derived.SevenTiedAt
set_option linter.unusedSimpArgs false
set_option linter.unusedVariables false
section
namespace Go.Proofs.YtehdcjbdhkkipaaGreatDoor
open Go.ChangeShapes Go.WideShapes Go.ChangeAt Go.WideMaps Go.WideElems Go.RowKit
set_option maxRecDepth 100000
theorem versionFound_lifted(os:Os)(started:os.Started)(H:Type)(enc:TypeId×Value→H) :
  ReturnsInHanded {} Tryz.checked os 12 .any (fun w args=>(Rows.versionFoundSpec.pre enc Tryz.prog Tryz.f12 Rows.versionFoundRow.domain false w args∧laidMetH Tryz.prog Rows.versionFoundRow.laid w)∧sizedMet enc Tryz.prog Tryz.f12 (OpenSpec.ofChange Rows.versionFoundSpec) false w args)
   (Rows.versionFoundSpec.post enc Tryz.prog Tryz.f12 false true false false):=by
 refine returns_law (C:=Tryz.checked) (X:=fun w _=>laidMetH Tryz.prog Rows.versionFoundRow.laid w) (fun _ _ _ hh h=>h.of_heap hh) ownKnob0 started (by kernel_rfl) Tryz.func12
  (ChangeSpec.witness_shaped (enc:=enc) (C:=Tryz.checked) (os:=os) (X:=fun w _=>laidMetH Tryz.prog Rows.versionFoundRow.laid w) false (World.laidAll Tryz.prog os Rows.versionFoundRow.laid) #[.agg #[.int .i64 0,.slice none 0 0],.slice none 0 0,.int .i64 0,.int .i64 0] 8 (World.laidAll_os _ _ _)
   (World.shaped_of_ZipB (by kernel_rfl) (by kernel_rfl)) (by kernel_rfl) (by kernel_rfl) (by kernel_rfl)
   (by rw[MakeChecks.laidMetH_plain _ _ _ (by kernel_rfl)];exact laidMet_laidAll _ (by kernel_rfl) (by kernel_rfl))) ?_
 intro W base args ds gs before hval0 hW hsh
 have hval:∀ (j:Nat) t v,Tryz.f12.params[j]? = some t→args[j]? = some v→Value.okWide Tryz.prog W .any base t v:=hval0
 have hW':=hW
 obtain⟨p,q,hA0,hV,rfl,_,_⟩:=hW
 have hA:DataW.TrodAll enc Tryz.prog W 0 (fun _=>true) true Tryz.f12.params.toList args.toList ds p:=hA0
 rw[Tryz.params12] at hA hval
 obtain⟨rfl,rfl⟩:=trodVars_none hV
 obtain⟨v0,vs0,d0,ds0,p0,q0,e0,rfl,rfl,h0,hr0⟩:=trodAll_cons hA
 obtain⟨v1,vs1,d1,ds1,p1,q1,rfl,rfl,rfl,h1,hr1⟩:=trodAll_cons hr0
 obtain⟨v2,vs2,d2,ds2,p2,q2,rfl,rfl,rfl,h2,hr2⟩:=trodAll_cons hr1
 obtain⟨v3,vs3,d3,ds3,p3,q3,rfl,rfl,rfl,h3,hr3⟩:=trodAll_cons hr2
 obtain⟨rfl,rfl,rfl⟩:=trodAll_nil hr3
 obtain⟨args⟩:=args
 simp only at e0
 subst e0
 obtain⟨b0,g0⟩:=Go.Den.Ve.in_book (hval 0 24 v0 rfl rfl) h0
 obtain⟨P1,k1,g1,hP1⟩:=Go.Den.Ve.in_ints (hval 1 25 v1 rfl rfl) h1
 obtain⟨n2,rfl,rfl,rfl,_⟩:=open_int Tryz.underlying3 (hval 2 3 v2 rfl rfl) h2
 obtain⟨n3,rfl,rfl,rfl,_⟩:=open_int Tryz.underlying3 (hval 3 3 v3 rfl rfl) h3
 have hcall:=Go.Den.Ve.law_call (avs:=⟨[v0,v1,.int .i64 n2,.int .i64 n3]⟩) (maxLen_cell hsh) (fun st=>Go.Den.Ve.c12 b0 n2 n3 P1 k1 hP1 st)
  (Go.Den.VRL.cons g0 (Go.Den.VRL.cons g1 (Go.Den.VRL.cons (by simp only[Go.Den.VR]) (Go.Den.VRL.cons (by simp only[Go.Den.VR]) (Go.Den.VRL.nil_iff.2 rfl)))))
 refine hcall.mono ?_
 rintro e W' ⟨rfl,hs,hb,ho⟩
 refine⟨_,rfl,post_true rfl hW' (by kernel_rfl) rfl (fun t ht=>?_) hs hb ho⟩
 rw[Tryz.params12] at ht
 have hall:([24,25,3,3].all fun t=>Tryz.prog.readableRec t&&decide (t<Tryz.prog.types.size))=true:=by kernel_rfl
 have:=List.all_eq_true.1 hall t ht
 simpa only[Bool.and_eq_true,decide_eq_true_eq] using this
theorem versionFound_named:Tryz.prog.funcNamed Rows.versionFoundRow.func=some 12:=by kernel_rfl
theorem versionFound_holds:Rows.VersionFoundSaid :=
 OpenClaim.holds_of_wide 12 Tryz.f12 rfl rfl rfl rfl rfl rfl rfl ⟨rfl,rfl,rfl,rfl,rfl⟩ rfl rfl rfl rfl rfl versionFound_named Tryz.func12 versionFound_facts
  (of_decide_eq_true (by as_aux_lemma=>kernel_rfl)) (by unfold Func.isWrapper;first|(rw[if_pos (by decide +kernel)];kernel_rfl)|(rw[if_neg (by decide +kernel)];exact⟨rfl,rfl⟩))
  (fun os started H enc _=>versionFound_lifted os started H enc)
set_option maxHeartbeats 4000000 in
theorem versionFound_card_holds:Rows.VersionFoundCardSaid :=
 Claim7.holds_tied_plain_at .later [] [.data,.data,.data,.data,.pinned] true (true,"fb5e5a295f3424106e054488290b3ed9056994dfd20e5e358b94615fffb8f66f") true
  versionFound_holds (fun _ h=>by cases h) (by as_aux_lemma=>kernel_rfl) (fun _ h=>by cases h) versionFound_row_tie rfl ⟨rfl,rfl⟩ (by as_aux_lemma=>kernel_rfl) rfl
  (fun f fn hf hfn=>by
   obtain rfl:f=12:=Option.some.inj (versionFound_named.symm.trans hf) |>.symm
   obtain rfl:fn=Tryz.f12:=(Option.some.inj (Tryz.func12.symm.trans hfn)).symm
   exact⟨by as_aux_lemma=>kernel_rfl,fun j t ht=>by
    rw[Tryz.params12] at ht
    have hm:t∈[24,25,3,3]:=by simpa using Array.mem_of_getElem? ht
    have hall:([24,25,3,3].all fun u=>!Tryz.prog.wantsStandIn u)=true:=by as_aux_lemma=>kernel_rfl
    exact (show Tryz.prog.wantsStandIn t=false by simpa using List.all_eq_true.1 hall t hm)⟩)
  (by as_aux_lemma=>kernel_rfl)
end Go.Proofs.YtehdcjbdhkkipaaGreatDoor
end

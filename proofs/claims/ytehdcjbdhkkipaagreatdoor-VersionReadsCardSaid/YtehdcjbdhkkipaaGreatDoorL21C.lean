/- For every input the function VersionReads returns true and each argument reads as it did. Texts: CdVersionReads. -/
import Derived.Test.YtehdcjbdhkkipaaGreatDoorVLBb
import Derived.Test.YtehdcjbdhkkipaaGreatDoorL21B
import Derived.Test.YtehdcjbdhkkipaaGreatDoorL21A
import Derived.Test.YtehdcjbdhkkipaaGreatDoorCards
import Derived.Test.YtehdcjbdhkkipaaGreatDoorTie
import Derived.SevenTiedAt
import Derived.ChangeMaps5
set_option linter.unusedSimpArgs false
set_option linter.unusedVariables false
section
namespace Go.Proofs.YtehdcjbdhkkipaaGreatDoor
open Go.ChangeShapes Go.WideShapes Go.ChangeAt Go.WideMaps Go.WideElems Go.RowKit
set_option maxRecDepth 100000
theorem versionReads_lifted(os:Os)(started:os.Started)(H:Type)(enc:TypeId×Value→H) :
  ReturnsInHanded {} Tryz.checked os 21 .any (fun w args=>(Rows.versionReadsSpec.pre enc Tryz.prog Tryz.f21 Rows.versionReadsRow.domain false w args∧laidMetH Tryz.prog Rows.versionReadsRow.laid w)∧sizedMet enc Tryz.prog Tryz.f21 (OpenSpec.ofChange Rows.versionReadsSpec) false w args)
   (Rows.versionReadsSpec.post enc Tryz.prog Tryz.f21 false true false false):=by
 refine returns_law (C:=Tryz.checked) (X:=fun w _=>laidMetH Tryz.prog Rows.versionReadsRow.laid w) (fun _ _ _ hh h=>h.of_heap hh) ownKnob0 started (by kernel_rfl) Tryz.func21
  (ChangeSpec.witness_shaped (enc:=enc) (C:=Tryz.checked) (os:=os) (X:=fun w _=>laidMetH Tryz.prog Rows.versionReadsRow.laid w) false (World.laidAll Tryz.prog os Rows.versionReadsRow.laid) #[.string ⟨#[]⟩] 8 (World.laidAll_os _ _ _)
   (World.shaped_of_ZipB (by kernel_rfl) (by kernel_rfl)) (by kernel_rfl) (by kernel_rfl) (by kernel_rfl)
   (by rw[MakeChecks.laidMetH_plain _ _ _ (by kernel_rfl)];exact laidMet_laidAll _ (by kernel_rfl) (by kernel_rfl))) ?_
 intro W base args ds gs before hval0 hW hsh
 have hval:∀ (j:Nat) t v,Tryz.f21.params[j]? = some t→args[j]? = some v→Value.okWide Tryz.prog W .any base t v:=hval0
 have hW':=hW
 obtain⟨p,q,hA0,hV,rfl,_,_⟩:=hW
 have hA:DataW.TrodAll enc Tryz.prog W 0 (fun _=>true) true Tryz.f21.params.toList args.toList ds p:=hA0
 rw[Tryz.params21] at hA hval
 obtain⟨rfl,rfl⟩:=trodVars_none hV
 obtain⟨v0,vs0,d0,ds0,p0,q0,e0,rfl,rfl,h0,hr0⟩:=trodAll_cons hA
 obtain⟨rfl,rfl,rfl⟩:=trodAll_nil hr0
 obtain⟨args⟩:=args
 simp only at e0
 subst e0
 obtain⟨s0,rfl,rfl,rfl,_⟩:=Go.ChangeMaps.open_string Tryz.underlying9 (hval 0 9 v0 rfl rfl) h0
 have hcall:=Go.Den.Ve.law_call (avs:=⟨[.string s0]⟩) (maxLen_cell hsh) (fun st=>Go.Den.Ve.c21 s0.data.toList  st)
  (Go.Den.VRL.cons (by simp only[Go.Den.VR];first|done|rfl) (Go.Den.VRL.nil_iff.2 rfl))
 refine hcall.mono ?_
 rintro e W' ⟨rfl,hs,hb,ho⟩
 refine⟨_,rfl,post_true rfl hW' (by kernel_rfl) rfl (fun t ht=>?_) hs hb ho⟩
 rw[Tryz.params21] at ht
 have hall:([9].all fun t=>Tryz.prog.readableRec t&&decide (t<Tryz.prog.types.size))=true:=by kernel_rfl
 have:=List.all_eq_true.1 hall t ht
 simpa only[Bool.and_eq_true,decide_eq_true_eq] using this
theorem versionReads_named:Tryz.prog.funcNamed Rows.versionReadsRow.func=some 21:=by kernel_rfl
theorem versionReads_holds:Rows.VersionReadsSaid :=
 OpenClaim.holds_of_wide 21 Tryz.f21 rfl rfl rfl rfl rfl rfl rfl ⟨rfl,rfl,rfl,rfl,rfl⟩ rfl rfl rfl rfl rfl versionReads_named Tryz.func21 versionReads_facts
  (of_decide_eq_true (by as_aux_lemma=>kernel_rfl)) (by unfold Func.isWrapper;first|(rw[if_pos (by decide +kernel)];kernel_rfl)|(rw[if_neg (by decide +kernel)];exact⟨rfl,rfl⟩))
  (fun os started H enc _=>versionReads_lifted os started H enc)
set_option maxHeartbeats 4000000 in
theorem versionReads_card_holds:Rows.VersionReadsCardSaid :=
 Claim7.holds_tied_plain_at .later [] [.data,.data,.data,.data,.pinned] true (true,"fb5e5a295f3424106e054488290b3ed9056994dfd20e5e358b94615fffb8f66f") true
  versionReads_holds (fun _ h=>by cases h) (by as_aux_lemma=>kernel_rfl) (fun _ h=>by cases h) versionReads_row_tie rfl ⟨rfl,rfl⟩ (by as_aux_lemma=>kernel_rfl) rfl
  (fun f fn hf hfn=>by
   obtain rfl:f=21:=Option.some.inj (versionReads_named.symm.trans hf) |>.symm
   obtain rfl:fn=Tryz.f21:=(Option.some.inj (Tryz.func21.symm.trans hfn)).symm
   exact⟨by as_aux_lemma=>kernel_rfl,fun j t ht=>by
    rw[Tryz.params21] at ht
    have hm:t∈[9]:=by simpa using Array.mem_of_getElem? ht
    have hall:([9].all fun u=>!Tryz.prog.wantsStandIn u)=true:=by as_aux_lemma=>kernel_rfl
    exact (show Tryz.prog.wantsStandIn t=false by simpa using List.all_eq_true.1 hall t hm)⟩)
  (by as_aux_lemma=>kernel_rfl)
end Go.Proofs.YtehdcjbdhkkipaaGreatDoor
end

/- Part of the proofs of laws of the package chest. Texts: ChKb. -/
import Derived.Test.YtoeigapilcgelaaGreatDoorK8Au
set_option linter.unusedSimpArgs false
set_option linter.unusedVariables false
section
namespace Go.Den.Ch
instance : DecidableEq CL := fun a b => if h : a.room = b.room ∧ a.depth = b.depth ∧ a.figs = b.figs then isTrue (by cases a;cases b;simp_all) else isFalse (by rintro rfl;exact h ⟨rfl,rfl,rfl⟩)
def Keep (a b : St) : Prop := HExt a.heap b.heap ∧ b.lo = a.lo
theorem keepW {st st' : St} {n : Nat} {cs : List PV} {v : PV} (h : RetW st n cs v st') : Keep st st' := ⟨h.hext,h.lo⟩
theorem Keep.hp {a b : St} (h : Keep a b) {l : Nat} {o : HObj} (hl : Den.hp a l = some o) : Den.hp b l = some o := h.1.hp hl
theorem Keep.len {a b : St} (h : Keep a b) : a.heap.length ≤ b.heap.length := h.1.1
theorem wops_gen {E : Env} {os : List DOper} {Q : Ex → List PV → St → Prop} {tm : List PV} {st : St} (P : List PV → St → Prop) (h : P tm st) (k : ∀ tm st,P tm st → WOps E os Q tm st) : WOps E os Q tm st := k tm st h
theorem k75 (st : St) : ClR EE (.func 75 [] []) [] st (fun v st' => ∃ F,v = clPV clC F ∧ SlOf 3 encF F clC.figs ∧ Keep st st') := by
 obtain ⟨v,st',h1,F,e,hW⟩ := c75 st
 exact ⟨v,st',h1,F,e,retF hW,keepW hW⟩
theorem k76 (st : St) : ClR EE (.func 76 [] []) [] st (fun v st' => ∃ F,v = clPV clD F ∧ SlOf 3 encF F clD.figs ∧ Keep st st') := by
 obtain ⟨v,st',h1,F,e,hW⟩ := c76 st
 exact ⟨v,st',h1,F,e,retF hW,keepW hW⟩
section
variable (F : PV) (hF : SlOf 3 encF F clC.figs) (hD : SlOf 3 encF F clD.figs) (st : St)
include hF
theorem k27 (o : Own) : Cl EE (.func 27 [] []) [clPV clC F,.slice o 5 [iv 0,iv 1,iv 1,iv 0,iv 2]] st (.ret (.tuple [.agg [iv 4,iv 3,iv 1],iv 0])) st := by
 have := c27 clC F (.slice o 5 [iv 0,iv 1,iv 1,iv 0,iv 2]) [0,1,1,0,2] hF ⟨rfl,fun _ _ => rfl⟩ st
 rw [e_wrong] at this
 exact this
theorem k32 : Cl EE (.func 32 [] []) [clPV clC F] st (.ret (.tuple [iv 2,iv 0])) st := by
 have := c32 clC F hF (by rw [e_many];omega) st
 rw [e_many,e_list] at this
 exact this
theorem k31 : ClR EE (.func 31 [] []) [clPV clC F] st (fun v st' => ∃ P,v = .tuple [P,iv 3,iv 0] ∧ SlOf 1 encI P [0,0,1,0,2] ∧ Keep st st') := by
 obtain ⟨v,st',h1,P,e,hW⟩ := c31 clC F hF st
 rw [e_best] at e hW
 exact ⟨v,st',h1,P,e,retI hW,keepW hW⟩
theorem k39 : ClR EE (.func 39 [] []) [clPV clC F] st (fun v st' => ∃ P,v = .tuple [P,iv 0] ∧ SlOf 2 enc2 P [(0,0),(0,1),(1,1),(0,1),(2,2)] ∧ Keep st st') := by
 obtain ⟨v,st',h1,P,e,hW⟩ := c39 clC F hF st
 rw [e_known] at e hW
 exact ⟨v,st',h1,P,e,ret2 hW,keepW hW⟩
theorem k40 : ClR EE (.func 40 [] []) [clPV clC F] st (fun v st' => ∃ P,v = .tuple [P,iv 0] ∧ SlOf 1 encI P [0,1,2,1,3] ∧ Keep st st') := by
 obtain ⟨v,st',h1,P,e,hW⟩ := c40 clC F hF st
 rw [e_groups] at e hW
 exact ⟨v,st',h1,P,e,retI hW,keepW hW⟩
theorem k44 (o o' : Own) : ClR EE (.func 44 [] []) [clPV clC F,.slice o 5 [iv 0,iv 0,iv 1,iv 0,iv 2],.slice o' 1 [iv 2]] st (fun v st' => ∃ P,v = .tuple [P,iv 0] ∧ SlOf 1 encI P [0,1,3] ∧ Keep st st') := by
 obtain ⟨v,st',h1,P,e,hW⟩ := c44 clC F (.slice o 5 [iv 0,iv 0,iv 1,iv 0,iv 2]) (.slice o' 1 [iv 2]) [0,0,1,0,2] [2] hF ⟨rfl,fun _ _ => rfl⟩ ⟨rfl,fun _ _ => rfl⟩ (by decide) st
 rw [e_out] at e hW
 exact ⟨v,st',h1,P,e,retI hW,keepW hW⟩
theorem k49 : ClR EE (.func 49 [] []) [clPV clC F] st (fun v st' => ∃ P,v = .tuple [P,iv 5,iv 0] ∧ SlOf 1 encI P [0,1,1,1,2] ∧ Keep st st') := by
 obtain ⟨v,st',h1,P,e,hW⟩ := c49 clC F hF st
 rw [e_ease] at e hW
 exact ⟨v,st',h1,P,e,retI hW,keepW hW⟩
theorem k53 (o : Own) : ClR EE (.func 53 [] []) [clPV clC F,.slice o 5 [iv 0,iv 0,iv 1,iv 0,iv 2],.agg [iv 3,iv 2,iv 2]] st (fun v st' => ∃ P,v = .tuple [P,iv 0,iv 0] ∧ SlOf 1 encI P [0,0,1,0,2,1] ∧ Keep st st') := by
 obtain ⟨v,st',h1,P,e,hW⟩ := c53 clC F (.slice o 5 [iv 0,iv 0,iv 1,iv 0,iv 2]) [0,0,1,0,2] ⟨3,2,2⟩ hF ⟨rfl,fun _ _ => rfl⟩ st
 rw [e_later] at e hW
 exact ⟨v,st',h1,P,e,retI hW,keepW hW⟩
omit hF
include hD
theorem k58 : ClR EE (.func 58 [] []) [clPV clD F] st (fun v st' => ∃ P,v = .tuple [P,iv 2,iv 0] ∧ SlOf 1 encI P [0,0,0,0,0,1] ∧ Keep st st') := by
 obtain ⟨v,st',h1,P,e,hW⟩ := c58 clD F hD st
 rw [e_chests] at e hW
 exact ⟨v,st',h1,P,e,retI hW,keepW hW⟩
theorem k62 : ClR EE (.func 62 [] []) [clPV clD F] st (fun v st' => ∃ P,v = .tuple [P,iv 0] ∧ SlOf 1 encI P [0,1,2,4,5] ∧ Keep st st') := by
 obtain ⟨v,st',h1,P,e,hW⟩ := c62 clD F hD st
 rw [e_clash] at e hW
 exact ⟨v,st',h1,P,e,retI hW,keepW hW⟩
theorem k63 : Cl EE (.func 63 [] []) [clPV clD F] st (.ret (.tuple [iv 11,iv 0])) st := by
 have := c63 clD F hD st
 rw [e_room] at this
 exact this
end
def textK : List UInt8 := [99,104,101,115,116,32,57,32,50,10,102,105,103,117,114,101,32,52,32,51,32,48,10,101,110,100,32,49,56,50,10]
theorem e_read : readR textK = (⟨9,2,[⟨4,3,0⟩]⟩,0) := by decide +kernel
theorem e_text : textL ⟨9,2,[⟨4,3,0⟩]⟩ = textK := by decide +kernel
theorem k70 (st : St) : ClR EE (.func 70 [] []) [.str (toB [99,104,101,115,116,32,57,32,50,10,102,105,103,117,114,101,32,52,32,51,32,48,10,101,110,100,32,49,56,50,10])] st (fun v st' => ∃ F,v = .tuple [.agg [iv 9,iv 2,F],iv 0] ∧ SlOf 3 encF F [⟨4,3,0⟩] ∧ Keep st st') := by
 obtain ⟨v,st',h1,F,e,hF,hx,hlo⟩ := c70 textK st
 rw [e_read] at e hF
 exact ⟨v,st',h1,F,e,hF,hx,hlo⟩
theorem k71 (F : PV) (hF : SlOf 3 encF F [⟨4,3,0⟩]) (st : St) : Cl EE (.func 71 [] []) [.agg [iv 9,iv 2,F]] st (.ret (.str (toB [99,104,101,115,116,32,57,32,50,10,102,105,103,117,114,101,32,52,32,51,32,48,10,101,110,100,32,49,56,50,10]))) st := by
 have := c71 ⟨9,2,[⟨4,3,0⟩]⟩ F hF (OkW.of (by decide +kernel)) st
 rw [e_text] at this
 exact this
theorem s36 (P : PV) (l : List Int) (hP : SlOf 1 encI P l) (hN : l.length < 1000000) (o : Own) (n : Nat) (hn : n = l.length) (st : St) : Cl EE (.func 36 [] []) [P,.slice o n (l.flatMap encI)] st (.ret (.bool true)) st := by
 subst hn
 have := c36 P (.slice o l.length (l.flatMap encI)) l l hP ⟨rfl,fun _ _ => rfl⟩ hN st
 rwa [beq_self_eq_true] at this
theorem s41 (P : PV) (l : List (Int × Int)) (hP : SlOf 2 enc2 P l) (hN : l.length < 1000000) (o : Own) (n : Nat) (hn : n = l.length) (st : St) : Cl EE (.func 41 [] []) [P,.slice o n (l.flatMap enc2)] st (.ret (.bool true)) st := by
 subst hn
 have := c41 P (.slice o l.length (l.flatMap enc2)) l l hP ⟨rfl,fun _ _ => rfl⟩ hN st
 rwa [beq_self_eq_true] at this
set_option maxHeartbeats 16000000 in
theorem c26 (st : St) : Cl EE (.func 26 [] []) [] st (.ret (.bool true)) st := by
 refine cl_fn (pr26 · _ _) fn26 0 rfl (by decide) (fun tm hl hg => ?_);clear hg
 refine go hl fnil ?_
 refine wops_callR rfl rfl (by simp only [go_sem,hl];first | done | rfl) (by simp only [go_sem,hl];exact k75 _) ?_
 rintro v S1 ⟨F,rfl,hF,hK⟩
 have q1 := hK.2
 have q2 := hK.len
 try simp only at q1 q2
 refine go hl (bw (k27 F hF) fnil) ?_
 refine wops_gen (fun tm S => tm.length = 222 ∧ st.heap.length ≤ S.lo ∧ S.lo ≤ S.heap.length ∧ tg tm 2 = iv 0 ∧ (∃ a,tg tm 1 = .ptr a 0 ∧ hp S a = some (.var [iv 4,iv 3,iv 1]))) ⟨by simp only [go_sem,hl],by simp only [lo_setVar,lo_push];omega,by simp only [lo_setVar,lo_push,len_setVar,len_push];omega,by simp only [go_sem,hl],⟨_,by simp only [go_sem,hl];rfl,by simp only [go_sem]⟩⟩ ?_
 rintro tm S ⟨hl,hlo,hwf,t2,⟨a1,t1,b1⟩⟩
 refine wops_callR rfl rfl (by simp only [go_sem,hl];first | done | rfl) (by simp only [go_sem,hl];exact k75 _) ?_
 rintro v S1 ⟨F,rfl,hF,hK⟩
 have q1 := hK.2
 have q2 := hK.len
 try simp only at q1 q2
 refine wops_callR rfl rfl (by simp only [go_sem,hl];first | done | rfl) (by simp only [go_sem,hl];exact k31 F hF _) ?_
 rintro v2 S2 ⟨P,rfl,hP,hK2⟩
 have q3 := hK2.2
 have q4 := hK2.len
 try simp only [lo_push,len_push] at q3 q4
 refine go hl fnil ?_
 refine wops_gen (fun tm S => tm.length = 222 ∧ st.heap.length ≤ S.lo ∧ S.lo ≤ S.heap.length ∧ tg tm 2 = iv 0 ∧ (∃ a,tg tm 1 = .ptr a 0 ∧ hp S a = some (.var [iv 4,iv 3,iv 1])) ∧ (∃ P,tg tm 3 = P ∧ SlOf 1 encI P [0,0,1,0,2]) ∧ tg tm 4 = iv 3 ∧ tg tm 5 = iv 0) ⟨by simp only [go_sem,hl],by omega,by omega,by simp only [go_sem,hl,t2],⟨a1,by simp only [go_sem,hl,t1],(hK.1.trans hK2.1).hp b1⟩,⟨_,by simp only [go_sem,hl];first | done | rfl,hP⟩,by simp only [go_sem,hl],by simp only [go_sem,hl]⟩ ?_
 rintro tm S ⟨hl,hlo,hwf,t2,⟨a1,t1,b1⟩,⟨P3,t3,p3⟩,t4,t5⟩
 refine wops_callR rfl rfl (by simp only [go_sem,hl];first | done | rfl) (by simp only [go_sem,hl];exact k75 _) ?_
 rintro v S1 ⟨F,rfl,hF,hK⟩
 have q1 := hK.2
 have q2 := hK.len
 try simp only at q1 q2
 refine go hl (bw (k32 F hF) fnil) ?_
 refine wops_gen (fun tm S => tm.length = 222 ∧ st.heap.length ≤ S.lo ∧ S.lo ≤ S.heap.length ∧ tg tm 2 = iv 0 ∧ (∃ a,tg tm 1 = .ptr a 0 ∧ hp S a = some (.var [iv 4,iv 3,iv 1])) ∧ (∃ P,tg tm 3 = P ∧ SlOf 1 encI P [0,0,1,0,2]) ∧ tg tm 4 = iv 3 ∧ tg tm 5 = iv 0 ∧ tg tm 6 = iv 2 ∧ tg tm 7 = iv 0) ⟨by simp only [go_sem,hl],by omega,by omega,by simp only [go_sem,hl,t2],⟨a1,by simp only [go_sem,hl,t1],(hK.1).hp b1⟩,⟨P3,by simp only [go_sem,hl,t3],p3⟩,by simp only [go_sem,hl,t4],by simp only [go_sem,hl,t5],by simp only [go_sem,hl],by simp only [go_sem,hl]⟩ ?_
 rintro tm S ⟨hl,hlo,hwf,t2,⟨a1,t1,b1⟩,⟨P3,t3,p3⟩,t4,t5,t6,t7⟩
 refine wops_callR rfl rfl (by simp only [go_sem,hl];first | done | rfl) (by simp only [go_sem,hl];exact k75 _) ?_
 rintro v S1 ⟨F,rfl,hF,hK⟩
 have q1 := hK.2
 have q2 := hK.len
 try simp only at q1 q2
 refine wops_callR rfl rfl (by simp only [go_sem,hl];first | done | rfl) (by simp only [go_sem,hl];exact k39 F hF _) ?_
 rintro v2 S2 ⟨P,rfl,hP,hK2⟩
 have q3 := hK2.2
 have q4 := hK2.len
 try simp only [lo_push,len_push] at q3 q4
 refine go hl fnil ?_
 refine wops_gen (fun tm S => tm.length = 222 ∧ st.heap.length ≤ S.lo ∧ S.lo ≤ S.heap.length ∧ tg tm 2 = iv 0 ∧ (∃ a,tg tm 1 = .ptr a 0 ∧ hp S a = some (.var [iv 4,iv 3,iv 1])) ∧ (∃ P,tg tm 3 = P ∧ SlOf 1 encI P [0,0,1,0,2]) ∧ tg tm 4 = iv 3 ∧ tg tm 5 = iv 0 ∧ tg tm 6 = iv 2 ∧ tg tm 7 = iv 0 ∧ (∃ P,tg tm 8 = P ∧ SlOf 2 enc2 P [(0,0),(0,1),(1,1),(0,1),(2,2)]) ∧ tg tm 9 = iv 0) ⟨by simp only [go_sem,hl],by omega,by omega,by simp only [go_sem,hl,t2],⟨a1,by simp only [go_sem,hl,t1],(hK.1.trans hK2.1).hp b1⟩,⟨P3,by simp only [go_sem,hl,t3],p3⟩,by simp only [go_sem,hl,t4],by simp only [go_sem,hl,t5],by simp only [go_sem,hl,t6],by simp only [go_sem,hl,t7],⟨_,by simp only [go_sem,hl];first | done | rfl,hP⟩,by simp only [go_sem,hl]⟩ ?_
 rintro tm S ⟨hl,hlo,hwf,t2,⟨a1,t1,b1⟩,⟨P3,t3,p3⟩,t4,t5,t6,t7,⟨P8,t8,p8⟩,t9⟩
 refine wops_callR rfl rfl (by simp only [go_sem,hl];first | done | rfl) (by simp only [go_sem,hl];exact k75 _) ?_
 rintro v S1 ⟨F,rfl,hF,hK⟩
 have q1 := hK.2
 have q2 := hK.len
 try simp only at q1 q2
 refine wops_callR rfl rfl (by simp only [go_sem,hl];first | done | rfl) (by simp only [go_sem,hl];exact k40 F hF _) ?_
 rintro v2 S2 ⟨P,rfl,hP,hK2⟩
 have q3 := hK2.2
 have q4 := hK2.len
 try simp only [lo_push,len_push] at q3 q4
 refine go hl fnil ?_
 refine wops_gen (fun tm S => tm.length = 222 ∧ st.heap.length ≤ S.lo ∧ S.lo ≤ S.heap.length ∧ tg tm 2 = iv 0 ∧ (∃ a,tg tm 1 = .ptr a 0 ∧ hp S a = some (.var [iv 4,iv 3,iv 1])) ∧ (∃ P,tg tm 3 = P ∧ SlOf 1 encI P [0,0,1,0,2]) ∧ tg tm 4 = iv 3 ∧ tg tm 5 = iv 0 ∧ tg tm 6 = iv 2 ∧ tg tm 7 = iv 0 ∧ (∃ P,tg tm 8 = P ∧ SlOf 2 enc2 P [(0,0),(0,1),(1,1),(0,1),(2,2)]) ∧ tg tm 9 = iv 0 ∧ (∃ P,tg tm 10 = P ∧ SlOf 1 encI P [0,1,2,1,3]) ∧ tg tm 11 = iv 0) ⟨by simp only [go_sem,hl],by omega,by omega,by simp only [go_sem,hl,t2],⟨a1,by simp only [go_sem,hl,t1],(hK.1.trans hK2.1).hp b1⟩,⟨P3,by simp only [go_sem,hl,t3],p3⟩,by simp only [go_sem,hl,t4],by simp only [go_sem,hl,t5],by simp only [go_sem,hl,t6],by simp only [go_sem,hl,t7],⟨P8,by simp only [go_sem,hl,t8],p8⟩,by simp only [go_sem,hl,t9],⟨_,by simp only [go_sem,hl];first | done | rfl,hP⟩,by simp only [go_sem,hl]⟩ ?_
 rintro tm S ⟨hl,hlo,hwf,t2,⟨a1,t1,b1⟩,⟨P3,t3,p3⟩,t4,t5,t6,t7,⟨P8,t8,p8⟩,t9,⟨P10,t10,p10⟩,t11⟩
 refine wops_callR rfl rfl (by simp only [go_sem,hl];first | done | rfl) (by simp only [go_sem,hl];exact k75 _) ?_
 rintro v S1 ⟨F,rfl,hF,hK⟩
 have q1 := hK.2
 have q2 := hK.len
 try simp only at q1 q2
 refine go hl fnil ?_
 refine wops_callR rfl rfl (by simp only [go_sem,hl];first | done | rfl) (by simp only [go_sem,hl];exact k44 F hF _ _ _) ?_
 rintro v2 S2 ⟨P,rfl,hP,hK2⟩
 have q3 := hK2.2
 have q4 := hK2.len
 try simp only [lo_push,len_push] at q3 q4
 refine go hl fnil ?_
 refine wops_gen (fun tm S => tm.length = 222 ∧ st.heap.length ≤ S.lo ∧ S.lo ≤ S.heap.length ∧ tg tm 2 = iv 0 ∧ (∃ a,tg tm 1 = .ptr a 0 ∧ hp S a = some (.var [iv 4,iv 3,iv 1])) ∧ (∃ P,tg tm 3 = P ∧ SlOf 1 encI P [0,0,1,0,2]) ∧ tg tm 4 = iv 3 ∧ tg tm 5 = iv 0 ∧ tg tm 6 = iv 2 ∧ tg tm 7 = iv 0 ∧ (∃ P,tg tm 8 = P ∧ SlOf 2 enc2 P [(0,0),(0,1),(1,1),(0,1),(2,2)]) ∧ tg tm 9 = iv 0 ∧ (∃ P,tg tm 10 = P ∧ SlOf 1 encI P [0,1,2,1,3]) ∧ tg tm 11 = iv 0 ∧ (∃ P,tg tm 12 = P ∧ SlOf 1 encI P [0,1,3]) ∧ tg tm 13 = iv 0) ⟨by simp only [go_sem,hl],by omega,by omega,by simp only [go_sem,hl,t2],⟨a1,by simp only [go_sem,hl,t1],(hK.1.trans ((HExt.push _ _).trans ((HExt.push _ _).trans hK2.1))).hp b1⟩,⟨P3,by simp only [go_sem,hl,t3],p3⟩,by simp only [go_sem,hl,t4],by simp only [go_sem,hl,t5],by simp only [go_sem,hl,t6],by simp only [go_sem,hl,t7],⟨P8,by simp only [go_sem,hl,t8],p8⟩,by simp only [go_sem,hl,t9],⟨P10,by simp only [go_sem,hl,t10],p10⟩,by simp only [go_sem,hl,t11],⟨_,by simp only [go_sem,hl];first | done | rfl,hP⟩,by simp only [go_sem,hl]⟩ ?_
 rintro tm S ⟨hl,hlo,hwf,t2,⟨a1,t1,b1⟩,⟨P3,t3,p3⟩,t4,t5,t6,t7,⟨P8,t8,p8⟩,t9,⟨P10,t10,p10⟩,t11,⟨P12,t12,p12⟩,t13⟩
 refine wops_callR rfl rfl (by simp only [go_sem,hl];first | done | rfl) (by simp only [go_sem,hl];exact k75 _) ?_
 rintro v S1 ⟨F,rfl,hF,hK⟩
 have q1 := hK.2
 have q2 := hK.len
 try simp only at q1 q2
 refine wops_callR rfl rfl (by simp only [go_sem,hl];first | done | rfl) (by simp only [go_sem,hl];exact k49 F hF _) ?_
 rintro v2 S2 ⟨P,rfl,hP,hK2⟩
 have q3 := hK2.2
 have q4 := hK2.len
 try simp only [lo_push,len_push] at q3 q4
 refine go hl fnil ?_
 refine wops_gen (fun tm S => tm.length = 222 ∧ st.heap.length ≤ S.lo ∧ S.lo ≤ S.heap.length ∧ tg tm 2 = iv 0 ∧ (∃ a,tg tm 1 = .ptr a 0 ∧ hp S a = some (.var [iv 4,iv 3,iv 1])) ∧ (∃ P,tg tm 3 = P ∧ SlOf 1 encI P [0,0,1,0,2]) ∧ tg tm 4 = iv 3 ∧ tg tm 5 = iv 0 ∧ tg tm 6 = iv 2 ∧ tg tm 7 = iv 0 ∧ (∃ P,tg tm 8 = P ∧ SlOf 2 enc2 P [(0,0),(0,1),(1,1),(0,1),(2,2)]) ∧ tg tm 9 = iv 0 ∧ (∃ P,tg tm 10 = P ∧ SlOf 1 encI P [0,1,2,1,3]) ∧ tg tm 11 = iv 0 ∧ (∃ P,tg tm 12 = P ∧ SlOf 1 encI P [0,1,3]) ∧ tg tm 13 = iv 0 ∧ (∃ P,tg tm 14 = P ∧ SlOf 1 encI P [0,1,1,1,2]) ∧ tg tm 15 = iv 5 ∧ tg tm 16 = iv 0) ⟨by simp only [go_sem,hl],by omega,by omega,by simp only [go_sem,hl,t2],⟨a1,by simp only [go_sem,hl,t1],(hK.1.trans hK2.1).hp b1⟩,⟨P3,by simp only [go_sem,hl,t3],p3⟩,by simp only [go_sem,hl,t4],by simp only [go_sem,hl,t5],by simp only [go_sem,hl,t6],by simp only [go_sem,hl,t7],⟨P8,by simp only [go_sem,hl,t8],p8⟩,by simp only [go_sem,hl,t9],⟨P10,by simp only [go_sem,hl,t10],p10⟩,by simp only [go_sem,hl,t11],⟨P12,by simp only [go_sem,hl,t12],p12⟩,by simp only [go_sem,hl,t13],⟨_,by simp only [go_sem,hl];first | done | rfl,hP⟩,by simp only [go_sem,hl],by simp only [go_sem,hl]⟩ ?_
 rintro tm S ⟨hl,hlo,hwf,t2,⟨a1,t1,b1⟩,⟨P3,t3,p3⟩,t4,t5,t6,t7,⟨P8,t8,p8⟩,t9,⟨P10,t10,p10⟩,t11,⟨P12,t12,p12⟩,t13,⟨P14,t14,p14⟩,t15,t16⟩
 refine wops_callR rfl rfl (by simp only [go_sem,hl];first | done | rfl) (by simp only [go_sem,hl];exact k75 _) ?_
 rintro v S1 ⟨F,rfl,hF,hK⟩
 have q1 := hK.2
 have q2 := hK.len
 try simp only at q1 q2
 refine go hl fnil ?_
 refine wops_callR rfl rfl (by simp only [go_sem,hl];first | done | rfl) (by simp only [go_sem,hl];exact k53 F hF _ _) ?_
 rintro v2 S2 ⟨P,rfl,hP,hK2⟩
 have q3 := hK2.2
 have q4 := hK2.len
 try simp only [lo_push,len_push] at q3 q4
 refine go hl fnil ?_
 refine wops_gen (fun tm S => tm.length = 222 ∧ st.heap.length ≤ S.lo ∧ S.lo ≤ S.heap.length ∧ tg tm 2 = iv 0 ∧ (∃ a,tg tm 1 = .ptr a 0 ∧ hp S a = some (.var [iv 4,iv 3,iv 1])) ∧ (∃ P,tg tm 3 = P ∧ SlOf 1 encI P [0,0,1,0,2]) ∧ tg tm 4 = iv 3 ∧ tg tm 5 = iv 0 ∧ tg tm 6 = iv 2 ∧ tg tm 7 = iv 0 ∧ (∃ P,tg tm 8 = P ∧ SlOf 2 enc2 P [(0,0),(0,1),(1,1),(0,1),(2,2)]) ∧ tg tm 9 = iv 0 ∧ (∃ P,tg tm 10 = P ∧ SlOf 1 encI P [0,1,2,1,3]) ∧ tg tm 11 = iv 0 ∧ (∃ P,tg tm 12 = P ∧ SlOf 1 encI P [0,1,3]) ∧ tg tm 13 = iv 0 ∧ (∃ P,tg tm 14 = P ∧ SlOf 1 encI P [0,1,1,1,2]) ∧ tg tm 15 = iv 5 ∧ tg tm 16 = iv 0 ∧ (∃ P,tg tm 17 = P ∧ SlOf 1 encI P [0,0,1,0,2,1]) ∧ tg tm 18 = iv 0 ∧ tg tm 19 = iv 0) ⟨by simp only [go_sem,hl],by omega,by omega,by simp only [go_sem,hl,t2],⟨a1,by simp only [go_sem,hl,t1],(hK.1.trans ((HExt.push _ _).trans hK2.1)).hp b1⟩,⟨P3,by simp only [go_sem,hl,t3],p3⟩,by simp only [go_sem,hl,t4],by simp only [go_sem,hl,t5],by simp only [go_sem,hl,t6],by simp only [go_sem,hl,t7],⟨P8,by simp only [go_sem,hl,t8],p8⟩,by simp only [go_sem,hl,t9],⟨P10,by simp only [go_sem,hl,t10],p10⟩,by simp only [go_sem,hl,t11],⟨P12,by simp only [go_sem,hl,t12],p12⟩,by simp only [go_sem,hl,t13],⟨P14,by simp only [go_sem,hl,t14],p14⟩,by simp only [go_sem,hl,t15],by simp only [go_sem,hl,t16],⟨_,by simp only [go_sem,hl];first | done | rfl,hP⟩,by simp only [go_sem,hl],by simp only [go_sem,hl]⟩ ?_
 rintro tm S ⟨hl,hlo,hwf,t2,⟨a1,t1,b1⟩,⟨P3,t3,p3⟩,t4,t5,t6,t7,⟨P8,t8,p8⟩,t9,⟨P10,t10,p10⟩,t11,⟨P12,t12,p12⟩,t13,⟨P14,t14,p14⟩,t15,t16,⟨P17,t17,p17⟩,t18,t19⟩
 refine wops_callR rfl rfl (by simp only [go_sem,hl];first | done | rfl) (by simp only [go_sem,hl];exact k76 _) ?_
 rintro v S1 ⟨F,rfl,hF,hK⟩
 have q1 := hK.2
 have q2 := hK.len
 try simp only at q1 q2
 refine wops_callR rfl rfl (by simp only [go_sem,hl];first | done | rfl) (by simp only [go_sem,hl];exact k58 F hF _) ?_
 rintro v2 S2 ⟨P,rfl,hP,hK2⟩
 have q3 := hK2.2
 have q4 := hK2.len
 try simp only [lo_push,len_push] at q3 q4
 refine go hl fnil ?_
 refine wops_gen (fun tm S => tm.length = 222 ∧ st.heap.length ≤ S.lo ∧ S.lo ≤ S.heap.length ∧ tg tm 2 = iv 0 ∧ (∃ a,tg tm 1 = .ptr a 0 ∧ hp S a = some (.var [iv 4,iv 3,iv 1])) ∧ (∃ P,tg tm 3 = P ∧ SlOf 1 encI P [0,0,1,0,2]) ∧ tg tm 4 = iv 3 ∧ tg tm 5 = iv 0 ∧ tg tm 6 = iv 2 ∧ tg tm 7 = iv 0 ∧ (∃ P,tg tm 8 = P ∧ SlOf 2 enc2 P [(0,0),(0,1),(1,1),(0,1),(2,2)]) ∧ tg tm 9 = iv 0 ∧ (∃ P,tg tm 10 = P ∧ SlOf 1 encI P [0,1,2,1,3]) ∧ tg tm 11 = iv 0 ∧ (∃ P,tg tm 12 = P ∧ SlOf 1 encI P [0,1,3]) ∧ tg tm 13 = iv 0 ∧ (∃ P,tg tm 14 = P ∧ SlOf 1 encI P [0,1,1,1,2]) ∧ tg tm 15 = iv 5 ∧ tg tm 16 = iv 0 ∧ (∃ P,tg tm 17 = P ∧ SlOf 1 encI P [0,0,1,0,2,1]) ∧ tg tm 18 = iv 0 ∧ tg tm 19 = iv 0 ∧ (∃ P,tg tm 20 = P ∧ SlOf 1 encI P [0,0,0,0,0,1]) ∧ tg tm 21 = iv 2 ∧ tg tm 22 = iv 0) ⟨by simp only [go_sem,hl],by omega,by omega,by simp only [go_sem,hl,t2],⟨a1,by simp only [go_sem,hl,t1],(hK.1.trans hK2.1).hp b1⟩,⟨P3,by simp only [go_sem,hl,t3],p3⟩,by simp only [go_sem,hl,t4],by simp only [go_sem,hl,t5],by simp only [go_sem,hl,t6],by simp only [go_sem,hl,t7],⟨P8,by simp only [go_sem,hl,t8],p8⟩,by simp only [go_sem,hl,t9],⟨P10,by simp only [go_sem,hl,t10],p10⟩,by simp only [go_sem,hl,t11],⟨P12,by simp only [go_sem,hl,t12],p12⟩,by simp only [go_sem,hl,t13],⟨P14,by simp only [go_sem,hl,t14],p14⟩,by simp only [go_sem,hl,t15],by simp only [go_sem,hl,t16],⟨P17,by simp only [go_sem,hl,t17],p17⟩,by simp only [go_sem,hl,t18],by simp only [go_sem,hl,t19],⟨_,by simp only [go_sem,hl];first | done | rfl,hP⟩,by simp only [go_sem,hl],by simp only [go_sem,hl]⟩ ?_
 rintro tm S ⟨hl,hlo,hwf,t2,⟨a1,t1,b1⟩,⟨P3,t3,p3⟩,t4,t5,t6,t7,⟨P8,t8,p8⟩,t9,⟨P10,t10,p10⟩,t11,⟨P12,t12,p12⟩,t13,⟨P14,t14,p14⟩,t15,t16,⟨P17,t17,p17⟩,t18,t19,⟨P20,t20,p20⟩,t21,t22⟩
 refine wops_callR rfl rfl (by simp only [go_sem,hl];first | done | rfl) (by simp only [go_sem,hl];exact k76 _) ?_
 rintro v S1 ⟨F,rfl,hF,hK⟩
 have q1 := hK.2
 have q2 := hK.len
 try simp only at q1 q2
 refine wops_callR rfl rfl (by simp only [go_sem,hl];first | done | rfl) (by simp only [go_sem,hl];exact k62 F hF _) ?_
 rintro v2 S2 ⟨P,rfl,hP,hK2⟩
 have q3 := hK2.2
 have q4 := hK2.len
 try simp only [lo_push,len_push] at q3 q4
 refine go hl fnil ?_
 refine wops_gen (fun tm S => tm.length = 222 ∧ st.heap.length ≤ S.lo ∧ S.lo ≤ S.heap.length ∧ tg tm 2 = iv 0 ∧ (∃ a,tg tm 1 = .ptr a 0 ∧ hp S a = some (.var [iv 4,iv 3,iv 1])) ∧ (∃ P,tg tm 3 = P ∧ SlOf 1 encI P [0,0,1,0,2]) ∧ tg tm 4 = iv 3 ∧ tg tm 5 = iv 0 ∧ tg tm 6 = iv 2 ∧ tg tm 7 = iv 0 ∧ (∃ P,tg tm 8 = P ∧ SlOf 2 enc2 P [(0,0),(0,1),(1,1),(0,1),(2,2)]) ∧ tg tm 9 = iv 0 ∧ (∃ P,tg tm 10 = P ∧ SlOf 1 encI P [0,1,2,1,3]) ∧ tg tm 11 = iv 0 ∧ (∃ P,tg tm 12 = P ∧ SlOf 1 encI P [0,1,3]) ∧ tg tm 13 = iv 0 ∧ (∃ P,tg tm 14 = P ∧ SlOf 1 encI P [0,1,1,1,2]) ∧ tg tm 15 = iv 5 ∧ tg tm 16 = iv 0 ∧ (∃ P,tg tm 17 = P ∧ SlOf 1 encI P [0,0,1,0,2,1]) ∧ tg tm 18 = iv 0 ∧ tg tm 19 = iv 0 ∧ (∃ P,tg tm 20 = P ∧ SlOf 1 encI P [0,0,0,0,0,1]) ∧ tg tm 21 = iv 2 ∧ tg tm 22 = iv 0 ∧ (∃ P,tg tm 23 = P ∧ SlOf 1 encI P [0,1,2,4,5]) ∧ tg tm 24 = iv 0) ⟨by simp only [go_sem,hl],by omega,by omega,by simp only [go_sem,hl,t2],⟨a1,by simp only [go_sem,hl,t1],(hK.1.trans hK2.1).hp b1⟩,⟨P3,by simp only [go_sem,hl,t3],p3⟩,by simp only [go_sem,hl,t4],by simp only [go_sem,hl,t5],by simp only [go_sem,hl,t6],by simp only [go_sem,hl,t7],⟨P8,by simp only [go_sem,hl,t8],p8⟩,by simp only [go_sem,hl,t9],⟨P10,by simp only [go_sem,hl,t10],p10⟩,by simp only [go_sem,hl,t11],⟨P12,by simp only [go_sem,hl,t12],p12⟩,by simp only [go_sem,hl,t13],⟨P14,by simp only [go_sem,hl,t14],p14⟩,by simp only [go_sem,hl,t15],by simp only [go_sem,hl,t16],⟨P17,by simp only [go_sem,hl,t17],p17⟩,by simp only [go_sem,hl,t18],by simp only [go_sem,hl,t19],⟨P20,by simp only [go_sem,hl,t20],p20⟩,by simp only [go_sem,hl,t21],by simp only [go_sem,hl,t22],⟨_,by simp only [go_sem,hl];first | done | rfl,hP⟩,by simp only [go_sem,hl]⟩ ?_
 rintro tm S ⟨hl,hlo,hwf,t2,⟨a1,t1,b1⟩,⟨P3,t3,p3⟩,t4,t5,t6,t7,⟨P8,t8,p8⟩,t9,⟨P10,t10,p10⟩,t11,⟨P12,t12,p12⟩,t13,⟨P14,t14,p14⟩,t15,t16,⟨P17,t17,p17⟩,t18,t19,⟨P20,t20,p20⟩,t21,t22,⟨P23,t23,p23⟩,t24⟩
 refine wops_callR rfl rfl (by simp only [go_sem,hl];first | done | rfl) (by simp only [go_sem,hl];exact k76 _) ?_
 rintro v S1 ⟨F,rfl,hF,hK⟩
 have q1 := hK.2
 have q2 := hK.len
 try simp only at q1 q2
 refine go hl (bw (k63 F hF) fnil) ?_
 refine wops_gen (fun tm S => tm.length = 222 ∧ st.heap.length ≤ S.lo ∧ S.lo ≤ S.heap.length ∧ tg tm 2 = iv 0 ∧ (∃ a,tg tm 1 = .ptr a 0 ∧ hp S a = some (.var [iv 4,iv 3,iv 1])) ∧ (∃ P,tg tm 3 = P ∧ SlOf 1 encI P [0,0,1,0,2]) ∧ tg tm 4 = iv 3 ∧ tg tm 5 = iv 0 ∧ tg tm 6 = iv 2 ∧ tg tm 7 = iv 0 ∧ (∃ P,tg tm 8 = P ∧ SlOf 2 enc2 P [(0,0),(0,1),(1,1),(0,1),(2,2)]) ∧ tg tm 9 = iv 0 ∧ (∃ P,tg tm 10 = P ∧ SlOf 1 encI P [0,1,2,1,3]) ∧ tg tm 11 = iv 0 ∧ (∃ P,tg tm 12 = P ∧ SlOf 1 encI P [0,1,3]) ∧ tg tm 13 = iv 0 ∧ (∃ P,tg tm 14 = P ∧ SlOf 1 encI P [0,1,1,1,2]) ∧ tg tm 15 = iv 5 ∧ tg tm 16 = iv 0 ∧ (∃ P,tg tm 17 = P ∧ SlOf 1 encI P [0,0,1,0,2,1]) ∧ tg tm 18 = iv 0 ∧ tg tm 19 = iv 0 ∧ (∃ P,tg tm 20 = P ∧ SlOf 1 encI P [0,0,0,0,0,1]) ∧ tg tm 21 = iv 2 ∧ tg tm 22 = iv 0 ∧ (∃ P,tg tm 23 = P ∧ SlOf 1 encI P [0,1,2,4,5]) ∧ tg tm 24 = iv 0 ∧ tg tm 25 = iv 11 ∧ tg tm 26 = iv 0) ⟨by simp only [go_sem,hl],by omega,by omega,by simp only [go_sem,hl,t2],⟨a1,by simp only [go_sem,hl,t1],(hK.1).hp b1⟩,⟨P3,by simp only [go_sem,hl,t3],p3⟩,by simp only [go_sem,hl,t4],by simp only [go_sem,hl,t5],by simp only [go_sem,hl,t6],by simp only [go_sem,hl,t7],⟨P8,by simp only [go_sem,hl,t8],p8⟩,by simp only [go_sem,hl,t9],⟨P10,by simp only [go_sem,hl,t10],p10⟩,by simp only [go_sem,hl,t11],⟨P12,by simp only [go_sem,hl,t12],p12⟩,by simp only [go_sem,hl,t13],⟨P14,by simp only [go_sem,hl,t14],p14⟩,by simp only [go_sem,hl,t15],by simp only [go_sem,hl,t16],⟨P17,by simp only [go_sem,hl,t17],p17⟩,by simp only [go_sem,hl,t18],by simp only [go_sem,hl,t19],⟨P20,by simp only [go_sem,hl,t20],p20⟩,by simp only [go_sem,hl,t21],by simp only [go_sem,hl,t22],⟨P23,by simp only [go_sem,hl,t23],p23⟩,by simp only [go_sem,hl,t24],by simp only [go_sem,hl],by simp only [go_sem,hl]⟩ ?_
 rintro tm S ⟨hl,hlo,hwf,t2,⟨a1,t1,b1⟩,⟨P3,t3,p3⟩,t4,t5,t6,t7,⟨P8,t8,p8⟩,t9,⟨P10,t10,p10⟩,t11,⟨P12,t12,p12⟩,t13,⟨P14,t14,p14⟩,t15,t16,⟨P17,t17,p17⟩,t18,t19,⟨P20,t20,p20⟩,t21,t22,⟨P23,t23,p23⟩,t24,t25,t26⟩
 refine wops_callR rfl rfl (by simp only [go_sem,hl];first | done | rfl) (by simp only [go_sem,hl];exact k70 _) ?_
 rintro v2 S2 ⟨F,rfl,hF,hK⟩
 have q1 := hK.2
 have q2 := hK.len
 have hFc := hF.cells
 have hFi := hF.isCell
 have b1' := hK.hp b1
 have m1 := hp_lt b1'
 have e0 : ∀ n : Int,(n != n) = false := fun n => by simp
 have e1 : ∀ n : Int,(n == n) = true := fun n => by simp
 have e3 : ([4,3,1] == ([4,3,1] : List Int)) = true := by decide
 have e4 : (([99,104,101,115,116,32,57,32,50,10,102,105,103,117,114,101,32,52,32,51,32,48,10,101,110,100,32,49,56,50,10] : List UInt8) == [99,104,101,115,116,32,57,32,50,10,102,105,103,117,114,101,32,52,32,51,32,48,10,101,110,100,32,49,56,50,10]) = true := by decide +kernel
 refine go (bw (bw31 hl t2 t1 t3 t4 t5 t6 t7 t8 t9 t10 t11 t12 t13 t14 t15 t16 t17 t18 t19 t20 t21 t22 t23 t24 t25 t26 hFc hFi b1' (neL m1)) (bw9 (neA m1) (ltL m1) (ltA m1) m1 e0 e1 e3 e4 @beq_self_eq_true.{0})) (bw10 (s36 _ _ p3 (by decide)) (s36 _ _ p10 (by decide)) (s36 _ _ p12 (by decide)) (s36 _ _ p14 (by decide)) (s36 _ _ p17 (by decide)) (s36 _ _ p20 (by decide)) (s36 _ _ p23 (by decide)) (s41 _ _ p8 (by decide)) (k71 F hF) fnil) ?_
 refine fnq_flat (results_one (by rw [rdRes_tmp];simp only [↓reduceIte,go_sem,hl];first | done | rfl)) (by first | exact Nat.le_refl _ | omega | (simp only [lo_push,lo_setVar];omega)) (by rfl)
end Go.Den.Ch
end

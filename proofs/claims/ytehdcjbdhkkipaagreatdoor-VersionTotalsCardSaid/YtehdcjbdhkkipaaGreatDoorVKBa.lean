/- Part of the proofs of laws of the package version. Texts: VuG, VnFnOK, VnShelf. -/
import Derived.Test.YtehdcjbdhkkipaaGreatDoorVKAz
import Derived.Test.YtehdcjbdhkkipaaGreatDoorVKAq
import Derived.Test.YtehdcjbdhkkipaaGreatDoorVKAg
import Derived.Test.YtehdcjbdhkkipaaGreatDoorProg
import Derived.Shelf.Strings.OnBuilder
import Derived.Shelf.Strconv.Itoa3
import Derived.Shelf.Strings.Split
set_option linter.unusedSimpArgs false
set_option linter.unusedVariables false
section
namespace Go.Den.Ve
theorem k80(st:St):ClR EE (.func 80 [] []) [] st (fun v st'=>∃ b:BP,v=b.pv∧b.bk=knownK∧Keep st st'):=by
 obtain⟨v,st',h1,b,e,hb,hs⟩:=c80 st
 exact⟨v,st',h1,b,e,hb,by rcases hs with rfl|rfl <;> first|exact .refl _|exact HExt.push _ _,by rcases hs with rfl|rfl <;> rfl⟩
section
variable(b:BP)(hb:b.bk=knownK)
include hb
theorem kb_ok:OkB b.bk:=by rw[hb];exact bookB_iff.1 kn_ok
theorem kb_sm:SmB b:=(kb_ok b hb).sm
theorem kb_len:b.cs.length=4:=by
 have:(b.cs.map CP.c).length=4:=by rw[show b.cs.map CP.c=b.bk.copies from rfl,hb];rfl
 simpa using this
theorem kb_w:b.words=3:=congrArg BK.words hb
theorem kb_arg:argB b [0,2] [0,1,1,2]=true:=by
 unfold argB
 rw[kb_w b hb,hb,kn_ok,kn14.1,kn14.2];rfl
theorem k26(o o':Own)(st:St):Cl EE (.func 26 [] []) [b.pv,.slice o 2 [iv 0,iv 2],.slice o' 4 [iv 0,iv 1,iv 1,iv 2]] st (.ret (.tuple [iv 2,iv 0])) st:=by
 have:=c26 b (kb_sm b hb) (.slice o 2 [iv 0,iv 2]) (.slice o' 4 [iv 0,iv 1,iv 1,iv 2]) [0,2] [0,1,1,2] ⟨rfl,fun _ _=>rfl⟩ ⟨rfl,fun _ _=>rfl⟩ st
 rw[kb_w b hb,hb,kn_ok,kn14.1,kn14.2,kn1] at this
 exact this
theorem k29(o o':Own)(st:St):ClR EE (.func 29 [] []) [b.pv,.slice o 2 [iv 0,iv 2],.slice o' 4 [iv 0,iv 1,iv 1,iv 2]] st (fun v st'=>∃ P,v = .tuple [P,iv 0]∧SlOf 2 enc2 P [(1,0),(3,1),(3,1),(1,2)]∧Keep st st'):=by
 obtain⟨v,st',h1,P,e,hW⟩:=c29_yes b (kb_sm b hb) (.slice o 2 [iv 0,iv 2]) (.slice o' 4 [iv 0,iv 1,iv 1,iv 2]) [0,2] [0,1,1,2] ⟨rfl,fun _ _=>rfl⟩ ⟨rfl,fun _ _=>rfl⟩ st (kb_arg b hb)
 rw[kn2] at hW
 exact⟨v,st',h1,P,e,hW.own_sl (fun _=>rfl),keepW hW⟩
theorem k37(o o':Own)(st:St):ClR EE (.func 37 [] []) [b.pv,.slice o 2 [iv 0,iv 2],.slice o' 4 [iv 0,iv 1,iv 1,iv 2]] st (fun v st'=>∃ P,v = .tuple [P,iv 0]∧SlOf 1 encL P [[0,2],[0,1,2],[0,1,1,2]]∧Keep st st'):=by
 obtain⟨v,st',h1,P,e,hW⟩:=c37_yes b (kb_sm b hb) (.slice o 2 [iv 0,iv 2]) (.slice o' 4 [iv 0,iv 1,iv 1,iv 2]) [0,2] [0,1,1,2] ⟨rfl,fun _ _=>rfl⟩ ⟨rfl,fun _ _=>rfl⟩ st (kb_arg b hb)
 rw[kb_w b hb,show (3:Int).toNat=3 from rfl,kn3] at hW
 exact⟨v,st',h1,P,e,hW.own_sl (fun _=>rfl),keepW hW⟩
theorem k42(st:St):ClR EE (.func 42 [] []) [b.pv,iv 1] st (fun v st'=>∃ P,v = .tuple [P,iv 2,iv 0]∧SlOf 1 encL P [[1],[1,1],[1,2]]∧Keep st st'):=by
 obtain⟨v,st',h1,P,e,hW⟩:=c42_yes b (kb_sm b hb) 1 (kb_ok b hb) (by rw[hb];decide) st
 rw[hb,kn4.2] at e
 rw[hb,kn4.1] at hW
 exact⟨v,st',h1,P,e,hW.own_sl (fun _=>rfl),keepW hW⟩
theorem k43(st:St):ClR EE (.func 43 [] []) [b.pv,iv 1] st (fun v st'=>∃ P,v = .tuple [P,iv 0]∧SlOf 1 encI P [1]∧Keep st st'):=by
 obtain⟨v,st',h1,P,e,hW⟩:=c43_yes b (kb_sm b hb) 1 (kb_ok b hb) (by rw[hb];decide) st
 rw[hb,kn5] at hW
 exact⟨v,st',h1,P,e,hW.own_sl (fun _=>rfl),keepW hW⟩
theorem k50(st:St):ClR EE (.func 50 [] []) [b.pv] st (fun v st'=>∃ P,v = .tuple [P,iv 3,iv 4,iv 0]∧SlOf 1 encL P [[0,1,2],[1]]∧Keep st st'):=by
 obtain⟨v,st',h1,P,e,hW⟩:=c50_yes b (kb_sm b hb) (kb_ok b hb) st
 rw[hb,kn6.2.1,kn6.2.2] at e
 rw[hb,kn6.1] at hW
 exact⟨v,st',h1,P,e,hW.own_sl (fun _=>rfl),keepW hW⟩
theorem k51(st:St):Cl EE (.func 51 [] []) [b.pv,iv 0] st (.ret (.tuple [.agg [iv 0,iv 1],iv 0])) st:=by
 have:=c51_yes b (kb_sm b hb) (kb_ok b hb) 0 (by rw[kb_len b hb];omega) st
 rw[hb,kn7.1,kn7.2] at this
 exact this
theorem k55(st:St):Cl EE (.func 55 [] []) [b.pv] st (.ret (.tuple [iv 1,iv 1,iv 4,iv 0])) st:=by
 have:=c55_yes b (kb_sm b hb) (kb_ok b hb) st
 rw[hb,kn8] at this
 exact this
theorem k70(o:Own)(st:St):ClR EE (.func 70 [] []) [b.pv,.slice o 2 [.slice .shared 2 [iv 0,iv 2],.slice .shared 1 [iv 1]]] st (fun v st'=>∃ P,v = .tuple [P,iv 4,iv 0]∧SlOf 1 encI P [3,-1,0,-1]∧Keep st st'):=by
 have hT:SlOf 1 encSI (.slice o 2 [.slice .shared 2 [iv 0,iv 2],.slice .shared 1 [iv 1]]) [SI.of [0,2],SI.of [1]]:=⟨rfl,fun _ _=>rfl⟩
 obtain⟨v,st',h1,x,hx,e,rfl⟩:=c70_yes b (kb_sm b hb) _ [SI.of [0,2],SI.of [1]] hT (by simp) st (by
  have e1:[SI.of [0,2],SI.of [1]].map SI.l=[[0,2],[1]]:=rfl
  unfold tvArg
  rw[e1,hb,kn_ok,kn15];rfl)
 have e1:[SI.of [0,2],SI.of [1]].map SI.l=[[0,2],[1]]:=rfl
 rw[e1,hb,kn9] at hx
 cases hx
 exact⟨v,_,h1,_,e,el_sl _,.refl _,rfl⟩
theorem k59(st:St):Cl EE (.func 59 [] []) [b.pv,iv 3] st (.ret (.tuple [.agg [iv 0,iv 1,iv 1,iv 1],iv 0])) st:=by
 have:=c59_yes b (kb_sm b hb) (kb_ok b hb) 3 (by rw[kb_len b hb];omega) st
 rw[hb,kn10] at this
 exact this
end
theorem k75(st:St):ClR EE (.func 75 [] []) [.str (toB [98,111,111,107,32,50,10,99,111,112,121,10,108,105,110,101,32,49,32,48,10,108,111,115,116,10,101,110,100,32,49,52,51,10])] st (fun v st'=>∃ b:BP,v = .tuple [b.pv,iv 0]∧b.bk=known2∧Keep st st'):=by
 obtain⟨v,st',h1,b,e,hb,_,hx,hlo⟩:=c75 knownT st
 rw[kn13] at e hb
 exact⟨v,st',h1,b,e,hb,hx,hlo⟩
theorem k76(b:BP)(hb:b.bk=known2)(st:St):Cl EE (.func 76 [] []) [b.pv] st (.ret (.str (toB [98,111,111,107,32,50,10,99,111,112,121,10,108,105,110,101,32,49,32,48,10,108,111,115,116,10,101,110,100,32,49,52,51,10]))) st:=by
 have:=c76 b (by rw[hb];exact bookB_iff.1 kn12) st
 rw[hb,kn11] at this
 exact this
theorem s27(P:PV)(l:List Int)(hP:SlOf 1 encI P l)(hN:l.length<1000000)(o:Own)(n:Nat)(hn:n=l.length)(st:St):Cl EE (.func 27 [] []) [P,.slice o n (l.flatMap encI)] st (.ret (.bool true)) st:=by
 subst hn
 have:=c27 P (.slice o l.length (l.flatMap encI)) l l hP ⟨rfl,fun _ _=>rfl⟩ hN st
 rwa [beq_self_eq_true] at this
theorem s33(P:PV)(l:List (Int×Int))(hP:SlOf 2 enc2 P l)(hN:l.length<1000000)(o:Own)(n:Nat)(hn:n=l.length)(st:St):Cl EE (.func 33 [] []) [P,.slice o n (l.flatMap enc2)] st (.ret (.bool true)) st:=by
 subst hn
 have:=c33 P (.slice o l.length (l.flatMap enc2)) l l hP ⟨rfl,fun _ _=>rfl⟩ hN st
 rwa [beq_self_eq_true] at this
theorem s38(P:PV)(l:List (List Int))(hP:SlOf 1 encL P l)(hN:l.length<1000000)(hNl:∀ x∈l,x.length<1000000)(o:Own)(n:Nat)(hn:n=l.length)(st:St):Cl EE (.func 38 [] []) [P,.slice o n (l.flatMap encL)] st (.ret (.bool true)) st:=by
 subst hn
 have e:(l.map SI.of).map SI.l=l:=by
  rw[List.map_map]
  conv=>rhs;rw[← List.map_id l]
  rfl
 have:=c38 P (.slice o l.length (l.flatMap encL)) (l.map SI.of) (l.map SI.of) (slSI hP) (slSI ⟨rfl,fun _ _=>rfl⟩) (by simpa using hN) (fun x hx=>by obtain⟨y,hy,rfl⟩:=List.mem_map.1 hx;exact hNl y hy) st
 rwa [e,beq_self_eq_true] at this
set_option maxHeartbeats 16000000 in
theorem c25(st:St):Cl EE (.func 25 [] []) [] st (.ret (.bool true)) st:=by
 refine cF0 pr25 fn25 (fun tm hl=>?_)
 refine go2 hl fnil ?_
 refine cR hl (k80 _) ?_
 rintro v S1 ⟨b,rfl,hb,hK⟩
 have hB:=b.h
 have q1:=hK.2
 have q2:=hK.len
 try simp only at q1 q2
 have c1:=fun (o o':Own) st=>k26 b hb o o' st
 refine go2 hl (bw c1 fnil) ?_
 refine wops_gen (fun tm S=>tm.length=228∧st.heap.length≤S.lo∧S.lo≤S.heap.length∧tg tm 1=iv 2∧tg tm 2=iv 0) ⟨(sG hl),by simp only[lo_push];omega,by simp only[lo_push,len_push];omega,(sG hl),(sG hl)⟩ ?_
 rintro tm S ⟨hl,hlo,hwf,t1,t2⟩
 refine cR hl (k80 _) ?_
 rintro v S1 ⟨b,rfl,hb,hK⟩
 have hB:=b.h
 have q1:=hK.2
 have q2:=hK.len
 try simp only at q1 q2
 refine go2 hl fnil ?_
 refine wops_callR rfl rfl (sR hl) (by simp only[↓reduceIte,go_sem,hl];exact k29 b hb _ _ _) ?_
 rintro v2 S2 ⟨P,rfl,hP,hK2⟩
 have q3:=hK2.2
 have q4:=hK2.len
 try simp only[lo_push,len_push] at q3 q4
 refine go2 hl fnil ?_
 refine wops_gen (fun tm S=>tm.length=228∧st.heap.length≤S.lo∧S.lo≤S.heap.length∧tg tm 1=iv 2∧tg tm 2=iv 0∧(∃ P,tg tm 3=P∧SlOf 2 enc2 P [(1,0),(3,1),(3,1),(1,2)])∧tg tm 4=iv 0) ⟨(sG hl),by omega,by omega,(sG (bw hl t1)),(sG (bw hl t2)),⟨_,(sR hl),hP⟩,(sG hl)⟩ ?_
 rintro tm S ⟨hl,hlo,hwf,t1,t2,⟨P3,t3,p3⟩,t4⟩
 refine cR hl (k80 _) ?_
 rintro v S1 ⟨b,rfl,hb,hK⟩
 have hB:=b.h
 have q1:=hK.2
 have q2:=hK.len
 try simp only at q1 q2
 refine go2 hl fnil ?_
 refine wops_callR rfl rfl (sR hl) (by simp only[↓reduceIte,go_sem,hl];exact k37 b hb _ _ _) ?_
 rintro v2 S2 ⟨P,rfl,hP,hK2⟩
 have q3:=hK2.2
 have q4:=hK2.len
 try simp only[lo_push,len_push] at q3 q4
 refine go2 hl fnil ?_
 refine wops_gen (fun tm S=>tm.length=228∧st.heap.length≤S.lo∧S.lo≤S.heap.length∧tg tm 1=iv 2∧tg tm 2=iv 0∧(∃ P,tg tm 3=P∧SlOf 2 enc2 P [(1,0),(3,1),(3,1),(1,2)])∧tg tm 4=iv 0∧(∃ P,tg tm 5=P∧SlOf 1 encL P [[0,2],[0,1,2],[0,1,1,2]])∧tg tm 6=iv 0) ⟨(sG hl),by omega,by omega,(sG (bw hl t1)),(sG (bw hl t2)),⟨P3,(sG (bw hl t3)),p3⟩,(sG (bw hl t4)),⟨_,(sR hl),hP⟩,(sG hl)⟩ ?_
 rintro tm S ⟨hl,hlo,hwf,t1,t2,⟨P3,t3,p3⟩,t4,⟨P5,t5,p5⟩,t6⟩
 refine cR hl (k80 _) ?_
 rintro v S1 ⟨b,rfl,hb,hK⟩
 have hB:=b.h
 have q1:=hK.2
 have q2:=hK.len
 try simp only at q1 q2
 refine wops_callR rfl rfl (sR hl) (by simp only[↓reduceIte,go_sem,hl];exact k42 b hb _) ?_
 rintro v2 S2 ⟨P,rfl,hP,hK2⟩
 have q3:=hK2.2
 have q4:=hK2.len
 try simp only[lo_push,len_push] at q3 q4
 refine go2 hl fnil ?_
 refine wops_gen (fun tm S=>tm.length=228∧st.heap.length≤S.lo∧S.lo≤S.heap.length∧tg tm 1=iv 2∧tg tm 2=iv 0∧(∃ P,tg tm 3=P∧SlOf 2 enc2 P [(1,0),(3,1),(3,1),(1,2)])∧tg tm 4=iv 0∧(∃ P,tg tm 5=P∧SlOf 1 encL P [[0,2],[0,1,2],[0,1,1,2]])∧tg tm 6=iv 0∧(∃ P,tg tm 7=P∧SlOf 1 encL P [[1],[1,1],[1,2]])∧tg tm 8=iv 2∧tg tm 9=iv 0) ⟨(sG hl),by omega,by omega,(sG (bw hl t1)),(sG (bw hl t2)),⟨P3,(sG (bw hl t3)),p3⟩,(sG (bw hl t4)),⟨P5,(sG (bw hl t5)),p5⟩,(sG (bw hl t6)),⟨_,(sR hl),hP⟩,(sG hl),(sG hl)⟩ ?_
 rintro tm S ⟨hl,hlo,hwf,t1,t2,⟨P3,t3,p3⟩,t4,⟨P5,t5,p5⟩,t6,⟨P7,t7,p7⟩,t8,t9⟩
 refine cR hl (k80 _) ?_
 rintro v S1 ⟨b,rfl,hb,hK⟩
 have hB:=b.h
 have q1:=hK.2
 have q2:=hK.len
 try simp only at q1 q2
 refine wops_callR rfl rfl (sR hl) (by simp only[↓reduceIte,go_sem,hl];exact k43 b hb _) ?_
 rintro v2 S2 ⟨P,rfl,hP,hK2⟩
 have q3:=hK2.2
 have q4:=hK2.len
 try simp only[lo_push,len_push] at q3 q4
 refine go2 hl fnil ?_
 refine wops_gen (fun tm S=>tm.length=228∧st.heap.length≤S.lo∧S.lo≤S.heap.length∧tg tm 1=iv 2∧tg tm 2=iv 0∧(∃ P,tg tm 3=P∧SlOf 2 enc2 P [(1,0),(3,1),(3,1),(1,2)])∧tg tm 4=iv 0∧(∃ P,tg tm 5=P∧SlOf 1 encL P [[0,2],[0,1,2],[0,1,1,2]])∧tg tm 6=iv 0∧(∃ P,tg tm 7=P∧SlOf 1 encL P [[1],[1,1],[1,2]])∧tg tm 8=iv 2∧tg tm 9=iv 0∧(∃ P,tg tm 10=P∧SlOf 1 encI P [1])∧tg tm 11=iv 0) ⟨(sG hl),by omega,by omega,(sG (bw hl t1)),(sG (bw hl t2)),⟨P3,(sG (bw hl t3)),p3⟩,(sG (bw hl t4)),⟨P5,(sG (bw hl t5)),p5⟩,(sG (bw hl t6)),⟨P7,(sG (bw hl t7)),p7⟩,(sG (bw hl t8)),(sG (bw hl t9)),⟨_,(sR hl),hP⟩,(sG hl)⟩ ?_
 rintro tm S ⟨hl,hlo,hwf,t1,t2,⟨P3,t3,p3⟩,t4,⟨P5,t5,p5⟩,t6,⟨P7,t7,p7⟩,t8,t9,⟨P10,t10,p10⟩,t11⟩
 refine cR hl (k80 _) ?_
 rintro v S1 ⟨b,rfl,hb,hK⟩
 have hB:=b.h
 have q1:=hK.2
 have q2:=hK.len
 try simp only at q1 q2
 refine wops_callR rfl rfl (sR hl) (by simp only[↓reduceIte,go_sem,hl];exact k50 b hb _) ?_
 rintro v2 S2 ⟨P,rfl,hP,hK2⟩
 have q3:=hK2.2
 have q4:=hK2.len
 try simp only[lo_push,len_push] at q3 q4
 refine go2 hl fnil ?_
 refine wops_gen (fun tm S=>tm.length=228∧st.heap.length≤S.lo∧S.lo≤S.heap.length∧tg tm 1=iv 2∧tg tm 2=iv 0∧(∃ P,tg tm 3=P∧SlOf 2 enc2 P [(1,0),(3,1),(3,1),(1,2)])∧tg tm 4=iv 0∧(∃ P,tg tm 5=P∧SlOf 1 encL P [[0,2],[0,1,2],[0,1,1,2]])∧tg tm 6=iv 0∧(∃ P,tg tm 7=P∧SlOf 1 encL P [[1],[1,1],[1,2]])∧tg tm 8=iv 2∧tg tm 9=iv 0∧(∃ P,tg tm 10=P∧SlOf 1 encI P [1])∧tg tm 11=iv 0∧(∃ P,tg tm 12=P∧SlOf 1 encL P [[0,1,2],[1]])∧tg tm 13=iv 3∧tg tm 14=iv 4∧tg tm 15=iv 0) ⟨(sG hl),by omega,by omega,(sG (bw hl t1)),(sG (bw hl t2)),⟨P3,(sG (bw hl t3)),p3⟩,(sG (bw hl t4)),⟨P5,(sG (bw hl t5)),p5⟩,(sG (bw hl t6)),⟨P7,(sG (bw hl t7)),p7⟩,(sG (bw hl t8)),(sG (bw hl t9)),⟨P10,(sG (bw hl t10)),p10⟩,(sG (bw hl t11)),⟨_,(sR hl),hP⟩,(sG hl),(sG hl),(sG hl)⟩ ?_
 rintro tm S ⟨hl,hlo,hwf,t1,t2,⟨P3,t3,p3⟩,t4,⟨P5,t5,p5⟩,t6,⟨P7,t7,p7⟩,t8,t9,⟨P10,t10,p10⟩,t11,⟨P12,t12,p12⟩,t13,t14,t15⟩
 refine cR hl (k80 _) ?_
 rintro v S1 ⟨b,rfl,hb,hK⟩
 have hB:=b.h
 have q1:=hK.2
 have q2:=hK.len
 try simp only at q1 q2
 have c1:=fun st=>k51 b hb st
 refine go2 hl (bw c1 fnil) ?_
 refine wops_gen (fun tm S=>tm.length=228∧st.heap.length≤S.lo∧S.lo≤S.heap.length∧tg tm 1=iv 2∧tg tm 2=iv 0∧(∃ P,tg tm 3=P∧SlOf 2 enc2 P [(1,0),(3,1),(3,1),(1,2)])∧tg tm 4=iv 0∧(∃ P,tg tm 5=P∧SlOf 1 encL P [[0,2],[0,1,2],[0,1,1,2]])∧tg tm 6=iv 0∧(∃ P,tg tm 7=P∧SlOf 1 encL P [[1],[1,1],[1,2]])∧tg tm 8=iv 2∧tg tm 9=iv 0∧(∃ P,tg tm 10=P∧SlOf 1 encI P [1])∧tg tm 11=iv 0∧(∃ P,tg tm 12=P∧SlOf 1 encL P [[0,1,2],[1]])∧tg tm 13=iv 3∧tg tm 14=iv 4∧tg tm 15=iv 0∧(∃ a,tg tm 16 = .ptr a 0∧st.heap.length≤a∧hp S a=some (.var [iv 0,iv 1]))∧tg tm 17=iv 0) ⟨(sG hl),by simp only[lo_setVar,lo_push];omega,by simp only[lo_setVar,lo_push,len_setVar,len_push];omega,(sG (bw hl t1)),(sG (bw hl t2)),⟨P3,(sG (bw hl t3)),p3⟩,(sG (bw hl t4)),⟨P5,(sG (bw hl t5)),p5⟩,(sG (bw hl t6)),⟨P7,(sG (bw hl t7)),p7⟩,(sG (bw hl t8)),(sG (bw hl t9)),⟨P10,(sG (bw hl t10)),p10⟩,(sG (bw hl t11)),⟨P12,(sG (bw hl t12)),p12⟩,(sG (bw hl t13)),(sG (bw hl t14)),(sG (bw hl t15)),⟨_,(sR hl),by omega,(sG fnil)⟩,(sG hl)⟩ ?_
 rintro tm S ⟨hl,hlo,hwf,t1,t2,⟨P3,t3,p3⟩,t4,⟨P5,t5,p5⟩,t6,⟨P7,t7,p7⟩,t8,t9,⟨P10,t10,p10⟩,t11,⟨P12,t12,p12⟩,t13,t14,t15,⟨a16,t16,g16,b16⟩,t17⟩
 refine cR hl (k80 _) ?_
 rintro v S1 ⟨b,rfl,hb,hK⟩
 have hB:=b.h
 have q1:=hK.2
 have q2:=hK.len
 try simp only at q1 q2
 have c1:=fun st=>k55 b hb st
 refine go2 hl (bw c1 fnil) ?_
 refine wops_gen (fun tm S=>tm.length=228∧st.heap.length≤S.lo∧S.lo≤S.heap.length∧tg tm 1=iv 2∧tg tm 2=iv 0∧(∃ P,tg tm 3=P∧SlOf 2 enc2 P [(1,0),(3,1),(3,1),(1,2)])∧tg tm 4=iv 0∧(∃ P,tg tm 5=P∧SlOf 1 encL P [[0,2],[0,1,2],[0,1,1,2]])∧tg tm 6=iv 0∧(∃ P,tg tm 7=P∧SlOf 1 encL P [[1],[1,1],[1,2]])∧tg tm 8=iv 2∧tg tm 9=iv 0∧(∃ P,tg tm 10=P∧SlOf 1 encI P [1])∧tg tm 11=iv 0∧(∃ P,tg tm 12=P∧SlOf 1 encL P [[0,1,2],[1]])∧tg tm 13=iv 3∧tg tm 14=iv 4∧tg tm 15=iv 0∧(∃ a,tg tm 16 = .ptr a 0∧st.heap.length≤a∧hp S a=some (.var [iv 0,iv 1]))∧tg tm 17=iv 0∧tg tm 18=iv 1∧tg tm 19=iv 1∧tg tm 20=iv 4∧tg tm 21=iv 0) ⟨(sG hl),by omega,by omega,(sG (bw hl t1)),(sG (bw hl t2)),⟨P3,(sG (bw hl t3)),p3⟩,(sG (bw hl t4)),⟨P5,(sG (bw hl t5)),p5⟩,(sG (bw hl t6)),⟨P7,(sG (bw hl t7)),p7⟩,(sG (bw hl t8)),(sG (bw hl t9)),⟨P10,(sG (bw hl t10)),p10⟩,(sG (bw hl t11)),⟨P12,(sG (bw hl t12)),p12⟩,(sG (bw hl t13)),(sG (bw hl t14)),(sG (bw hl t15)),⟨a16,(sG (bw hl t16)),g16,(hK.1).hp b16⟩,(sG (bw hl t17)),(sG hl),(sG hl),(sG hl),(sG hl)⟩ ?_
 rintro tm S ⟨hl,hlo,hwf,t1,t2,⟨P3,t3,p3⟩,t4,⟨P5,t5,p5⟩,t6,⟨P7,t7,p7⟩,t8,t9,⟨P10,t10,p10⟩,t11,⟨P12,t12,p12⟩,t13,t14,t15,⟨a16,t16,g16,b16⟩,t17,t18,t19,t20,t21⟩
 refine cR hl (k80 _) ?_
 rintro v S1 ⟨b,rfl,hb,hK⟩
 have hB:=b.h
 have q1:=hK.2
 have q2:=hK.len
 try simp only at q1 q2
 refine go2 hl fnil ?_
 refine wops_callR rfl rfl (sR hl) (by simp only[↓reduceIte,go_sem,hl];exact k70 b hb _ _) ?_
 rintro v2 S2 ⟨P,rfl,hP,hK2⟩
 have q3:=hK2.2
 have q4:=hK2.len
 try simp only[lo_push,len_push] at q3 q4
 refine go2 hl fnil ?_
 refine wops_gen (fun tm S=>tm.length=228∧st.heap.length≤S.lo∧S.lo≤S.heap.length∧tg tm 1=iv 2∧tg tm 2=iv 0∧(∃ P,tg tm 3=P∧SlOf 2 enc2 P [(1,0),(3,1),(3,1),(1,2)])∧tg tm 4=iv 0∧(∃ P,tg tm 5=P∧SlOf 1 encL P [[0,2],[0,1,2],[0,1,1,2]])∧tg tm 6=iv 0∧(∃ P,tg tm 7=P∧SlOf 1 encL P [[1],[1,1],[1,2]])∧tg tm 8=iv 2∧tg tm 9=iv 0∧(∃ P,tg tm 10=P∧SlOf 1 encI P [1])∧tg tm 11=iv 0∧(∃ P,tg tm 12=P∧SlOf 1 encL P [[0,1,2],[1]])∧tg tm 13=iv 3∧tg tm 14=iv 4∧tg tm 15=iv 0∧(∃ a,tg tm 16 = .ptr a 0∧st.heap.length≤a∧hp S a=some (.var [iv 0,iv 1]))∧tg tm 17=iv 0∧tg tm 18=iv 1∧tg tm 19=iv 1∧tg tm 20=iv 4∧tg tm 21=iv 0∧(∃ P,tg tm 22=P∧SlOf 1 encI P [3,-1,0,-1])∧tg tm 23=iv 4∧tg tm 24=iv 0) ⟨(sG hl),by omega,by omega,(sG (bw hl t1)),(sG (bw hl t2)),⟨P3,(sG (bw hl t3)),p3⟩,(sG (bw hl t4)),⟨P5,(sG (bw hl t5)),p5⟩,(sG (bw hl t6)),⟨P7,(sG (bw hl t7)),p7⟩,(sG (bw hl t8)),(sG (bw hl t9)),⟨P10,(sG (bw hl t10)),p10⟩,(sG (bw hl t11)),⟨P12,(sG (bw hl t12)),p12⟩,(sG (bw hl t13)),(sG (bw hl t14)),(sG (bw hl t15)),⟨a16,(sG (bw hl t16)),g16,(hK.1.trans ((HExt.push _ _).trans ((HExt.push _ _).trans ((HExt.push _ _).trans hK2.1)))).hp b16⟩,(sG (bw hl t17)),(sG (bw hl t18)),(sG (bw hl t19)),(sG (bw hl t20)),(sG (bw hl t21)),⟨_,(sR hl),hP⟩,(sG hl),(sG hl)⟩ ?_
 rintro tm S ⟨hl,hlo,hwf,t1,t2,⟨P3,t3,p3⟩,t4,⟨P5,t5,p5⟩,t6,⟨P7,t7,p7⟩,t8,t9,⟨P10,t10,p10⟩,t11,⟨P12,t12,p12⟩,t13,t14,t15,⟨a16,t16,g16,b16⟩,t17,t18,t19,t20,t21,⟨P22,t22,p22⟩,t23,t24⟩
 refine cR hl (k80 _) ?_
 rintro v S1 ⟨b,rfl,hb,hK⟩
 have hB:=b.h
 have q1:=hK.2
 have q2:=hK.len
 try simp only at q1 q2
 have c1:=fun st=>k59 b hb st
 have m16:=hp_lt b16
 refine go2 hl (bw c1 fnil) ?_
 refine wops_gen (fun tm S=>tm.length=228∧st.heap.length≤S.lo∧S.lo≤S.heap.length∧tg tm 1=iv 2∧tg tm 2=iv 0∧(∃ P,tg tm 3=P∧SlOf 2 enc2 P [(1,0),(3,1),(3,1),(1,2)])∧tg tm 4=iv 0∧(∃ P,tg tm 5=P∧SlOf 1 encL P [[0,2],[0,1,2],[0,1,1,2]])∧tg tm 6=iv 0∧(∃ P,tg tm 7=P∧SlOf 1 encL P [[1],[1,1],[1,2]])∧tg tm 8=iv 2∧tg tm 9=iv 0∧(∃ P,tg tm 10=P∧SlOf 1 encI P [1])∧tg tm 11=iv 0∧(∃ P,tg tm 12=P∧SlOf 1 encL P [[0,1,2],[1]])∧tg tm 13=iv 3∧tg tm 14=iv 4∧tg tm 15=iv 0∧(∃ a,tg tm 16 = .ptr a 0∧st.heap.length≤a∧hp S a=some (.var [iv 0,iv 1]))∧tg tm 17=iv 0∧tg tm 18=iv 1∧tg tm 19=iv 1∧tg tm 20=iv 4∧tg tm 21=iv 0∧(∃ P,tg tm 22=P∧SlOf 1 encI P [3,-1,0,-1])∧tg tm 23=iv 4∧tg tm 24=iv 0∧(∃ a,tg tm 25 = .ptr a 0∧st.heap.length≤a∧hp S a=some (.var [iv 0,iv 1,iv 1,iv 1]))∧tg tm 26=iv 0) ⟨(sG hl),by simp only[lo_setVar,lo_push];omega,by simp only[lo_setVar,lo_push,len_setVar,len_push];omega,(sG (bw hl t1)),(sG (bw hl t2)),⟨P3,(sG (bw hl t3)),p3⟩,(sG (bw hl t4)),⟨P5,(sG (bw hl t5)),p5⟩,(sG (bw hl t6)),⟨P7,(sG (bw hl t7)),p7⟩,(sG (bw hl t8)),(sG (bw hl t9)),⟨P10,(sG (bw hl t10)),p10⟩,(sG (bw hl t11)),⟨P12,(sG (bw hl t12)),p12⟩,(sG (bw hl t13)),(sG (bw hl t14)),(sG (bw hl t15)),⟨a16,(sG (bw hl t16)),g16,(by rw[hp_setVar,if_neg (by omega),hp_push,if_neg (by omega)];exact hK.1.hp b16)⟩,(sG (bw hl t17)),(sG (bw hl t18)),(sG (bw hl t19)),(sG (bw hl t20)),(sG (bw hl t21)),⟨P22,(sG (bw hl t22)),p22⟩,(sG (bw hl t23)),(sG (bw hl t24)),⟨_,(sR hl),by omega,(sG fnil)⟩,(sG hl)⟩ ?_
 rintro tm S ⟨hl,hlo,hwf,t1,t2,⟨P3,t3,p3⟩,t4,⟨P5,t5,p5⟩,t6,⟨P7,t7,p7⟩,t8,t9,⟨P10,t10,p10⟩,t11,⟨P12,t12,p12⟩,t13,t14,t15,⟨a16,t16,g16,b16⟩,t17,t18,t19,t20,t21,⟨P22,t22,p22⟩,t23,t24,⟨a25,t25,g25,b25⟩,t26⟩
 refine wops_callR rfl rfl (sR hl) (by simp only[↓reduceIte,go_sem,hl];exact k75 _) ?_
 rintro v2 S2 ⟨b,rfl,hb,hK⟩
 have q1:=hK.2
 have q2:=hK.len
 have hB:=b.h
 have x16:=hK.hp b16
 have x25:=hK.hp b25
 have m16:=hp_lt x16
 have m25:=hp_lt x25
 have e0:∀ n:Int,(n != n)=false:=fun n=>by simp
 have e1:∀ n:Int,(n==n)=true:=fun n=>by simp
 have e2:([0,1]==([0,1]:List Int))=true:=by decide
 have e3:([0,1,1,1]==([0,1,1,1]:List Int))=true:=by decide
 have e4:(([98,111,111,107,32,50,10,99,111,112,121,10,108,105,110,101,32,49,32,48,10,108,111,115,116,10,101,110,100,32,49,52,51,10]:List UInt8)==[98,111,111,107,32,50,10,99,111,112,121,10,108,105,110,101,32,49,32,48,10,108,111,115,116,10,101,110,100,32,49,52,51,10])=true:=by decide +kernel
 have c1:=fun o st=>s33 P3 _ p3 (by decide) o 4 rfl st
 have c2:=fun o st=>s38 P5 _ p5 (by decide) (by decide) o 3 rfl st
 have c3:=fun o st=>s38 P7 _ p7 (by decide) (by decide) o 3 rfl st
 have c4:=fun o st=>s27 P10 _ p10 (by decide) o 1 rfl st
 have c5:=fun o st=>s38 P12 _ p12 (by decide) (by decide) o 2 rfl st
 have c6:=fun o st=>s27 P22 _ p22 (by decide) o 4 rfl st
 have c7:=fun st=>k76 b hb st
 refine go2 (bw (bw31 hl t1 t2 t3 t4 t5 t6 t7 t8 t9 t10 t11 t12 t13 t14 t15 t16 t17 t18 t19 t20 t21 t22 t23 t24 t25 t26 x16 x25 (n4 m16) (n4 m25)) (bw6 e0 e1 e2 e3 e4 @beq_self_eq_true.{0})) (bw8 c1 c2 c3 c4 c5 c6 c7 fnil) ?_
 exact fQ hl
end Go.Den.Ve
end
section
namespace Go.Den.Ve
open Go.Proofs
set_option maxRecDepth 100000
def mu0:TypeId→Bool:=fun _=>false
def mu1:TypeId→Bool:=fun t=>t==22
def mu2:TypeId→Bool:=fun t=>t==22 || t==77
theorem en18:funcC Tryz.prog mu0 Tryz.f18=some den18:=by kernel_rfl
theorem en24:funcC Tryz.prog mu0 Tryz.f24=some den24:=by kernel_rfl
theorem en25:funcC Tryz.prog mu0 Tryz.f25=some den25:=by kernel_rfl
theorem en26:funcC Tryz.prog mu0 Tryz.f26=some den26:=by kernel_rfl
theorem en27:funcC Tryz.prog mu0 Tryz.f27=some den27:=by kernel_rfl
theorem en28:funcC Tryz.prog mu0 Tryz.f28=some den28:=by kernel_rfl
theorem en29:funcC Tryz.prog mu0 Tryz.f29=some den29:=by kernel_rfl
theorem en30:funcC Tryz.prog mu0 Tryz.f30=some den30:=by kernel_rfl
theorem en32:funcC Tryz.prog mu0 Tryz.f32=some den32:=by kernel_rfl
theorem en33:funcC Tryz.prog mu0 Tryz.f33=some den33:=by kernel_rfl
theorem en37:funcC Tryz.prog mu0 Tryz.f37=some den37:=by kernel_rfl
theorem en38:funcC Tryz.prog mu0 Tryz.f38=some den38:=by kernel_rfl
theorem en42:funcC Tryz.prog mu0 Tryz.f42=some den42:=by kernel_rfl
theorem en43:funcC Tryz.prog mu0 Tryz.f43=some den43:=by kernel_rfl
theorem en50:funcC Tryz.prog mu0 Tryz.f50=some den50:=by kernel_rfl
theorem en51:funcC Tryz.prog mu0 Tryz.f51=some den51:=by kernel_rfl
theorem en53:funcC Tryz.prog mu0 Tryz.f53=some den53:=by kernel_rfl
theorem en55:funcC Tryz.prog mu0 Tryz.f55=some den55:=by kernel_rfl
theorem en59:funcC Tryz.prog mu0 Tryz.f59=some den59:=by kernel_rfl
theorem en63:funcC Tryz.prog mu0 Tryz.f63=some den63:=by kernel_rfl
theorem en64:funcC Tryz.prog mu0 Tryz.f64=some den64:=by kernel_rfl
theorem en66:funcC Tryz.prog mu0 Tryz.f66=some den66:=by kernel_rfl
theorem en67:funcC Tryz.prog mu0 Tryz.f67=some den67:=by kernel_rfl
theorem en68:funcC Tryz.prog mu0 Tryz.f68=some den68:=by kernel_rfl
theorem en70:funcC Tryz.prog mu0 Tryz.f70=some den70:=by kernel_rfl
theorem en71:funcC Tryz.prog mu0 Tryz.f71=some den71:=by kernel_rfl
theorem en72:funcC Tryz.prog mu0 Tryz.f72=some den72:=by kernel_rfl
theorem en73:funcC Tryz.prog mu0 Tryz.f73=some den73:=by kernel_rfl
theorem en75:funcC Tryz.prog mu0 Tryz.f75=some den75:=by kernel_rfl
theorem en76:funcC Tryz.prog mu0 Tryz.f76=some den76:=by kernel_rfl
theorem en79:funcC Tryz.prog mu0 Tryz.f79=some den79:=by kernel_rfl
theorem en80:funcC Tryz.prog mu0 Tryz.f80=some den80:=by kernel_rfl
theorem en81:funcC Tryz.prog mu0 Tryz.f81=some den81:=by kernel_rfl
theorem en82:funcC Tryz.prog mu0 Tryz.f82=some den82:=by kernel_rfl
theorem en83:funcC Tryz.prog mu0 Tryz.f83=some den83:=by kernel_rfl
theorem en84:funcC Tryz.prog mu0 Tryz.f84=some den84:=by kernel_rfl
theorem en85:funcC Tryz.prog mu0 Tryz.f85=some den85:=by kernel_rfl
theorem en86:funcC Tryz.prog mu0 Tryz.f86=some den86:=by kernel_rfl
theorem en87:funcC Tryz.prog mu0 Tryz.f87=some den87:=by kernel_rfl
theorem en88:funcC Tryz.prog mu0 Tryz.f88=some den88:=by kernel_rfl
theorem en90:funcC Tryz.prog mu0 Tryz.f90=some den90:=by kernel_rfl
theorem en91:funcC Tryz.prog mu0 Tryz.f91=some den91:=by kernel_rfl
theorem en92:funcC Tryz.prog mu0 Tryz.f92=some den92:=by kernel_rfl
theorem en93:funcC Tryz.prog mu0 Tryz.f93=some den93:=by kernel_rfl
theorem en94:funcC Tryz.prog mu0 Tryz.f94=some den94:=by kernel_rfl
theorem en95:funcC Tryz.prog mu0 Tryz.f95=some den95:=by kernel_rfl
theorem en98:funcC Tryz.prog mu0 Tryz.f98=some den98:=by kernel_rfl
theorem en99:funcC Tryz.prog mu0 Tryz.f99=some den99:=by kernel_rfl
theorem en100:funcC Tryz.prog mu0 Tryz.f100=some den100:=by kernel_rfl
theorem en101:funcC Tryz.prog mu0 Tryz.f101=some den101:=by kernel_rfl
theorem en102:funcC Tryz.prog mu0 Tryz.f102=some den102:=by kernel_rfl
theorem en103:funcC Tryz.prog mu0 Tryz.f103=some den103:=by kernel_rfl
theorem en104:funcC Tryz.prog mu0 Tryz.f104=some den104:=by kernel_rfl
theorem en105:funcC Tryz.prog mu0 Tryz.f105=some den105:=by kernel_rfl
theorem en108:funcC Tryz.prog mu0 Tryz.f108=some den108:=by kernel_rfl
theorem en109:funcC Tryz.prog mu0 Tryz.f109=some den109:=by kernel_rfl
theorem en110:funcC Tryz.prog mu0 Tryz.f110=some den110:=by kernel_rfl
theorem en111:funcC Tryz.prog mu0 Tryz.f111=some den111:=by kernel_rfl
theorem en112:funcC Tryz.prog mu0 Tryz.f112=some den112:=by kernel_rfl
theorem en114:funcC Tryz.prog mu0 Tryz.f114=some den114:=by kernel_rfl
theorem en115:funcC Tryz.prog mu0 Tryz.f115=some den115:=by kernel_rfl
theorem en116:funcC Tryz.prog mu0 Tryz.f116=some den116:=by kernel_rfl
theorem en117:funcC Tryz.prog mu0 Tryz.f117=some den117:=by kernel_rfl
theorem en118:funcC Tryz.prog mu0 Tryz.f118=some den118:=by kernel_rfl
theorem en119:funcC Tryz.prog mu0 Tryz.f119=some den119:=by kernel_rfl
theorem en120:funcC Tryz.prog mu0 Tryz.f120=some den120:=by kernel_rfl
theorem en121:funcC Tryz.prog mu0 Tryz.f121=some den121:=by kernel_rfl
theorem en123:funcC Tryz.prog mu0 Tryz.f123=some den123:=by kernel_rfl
theorem en124:funcC Tryz.prog mu1 Tryz.f124=some den124:=by kernel_rfl
theorem en125:funcC Tryz.prog mu0 Tryz.f125=some den125:=by kernel_rfl
theorem en126:funcC Tryz.prog mu0 Tryz.f126=some den126:=by kernel_rfl
theorem en129:funcC Tryz.prog mu0 Tryz.f129=some den129:=by kernel_rfl
theorem en130:funcC Tryz.prog mu0 Tryz.f130=some den130:=by kernel_rfl
theorem en131:funcC Tryz.prog mu0 Tryz.f131=some den131:=by kernel_rfl
theorem en132:funcC Tryz.prog mu0 Tryz.f132=some den132:=by kernel_rfl
theorem en133:funcC Tryz.prog mu0 Tryz.f133=some den133:=by kernel_rfl
theorem en134:funcC Tryz.prog mu0 Tryz.f134=some den134:=by kernel_rfl
theorem en135:funcC Tryz.prog mu0 Tryz.f135=some den135:=by kernel_rfl
theorem en136:funcC Tryz.prog mu0 Tryz.f136=some den136:=by kernel_rfl
theorem en137:funcC Tryz.prog mu0 Tryz.f137=some den137:=by kernel_rfl
theorem en138:funcC Tryz.prog mu0 Tryz.f138=some den138:=by kernel_rfl
theorem en139:funcC Tryz.prog mu0 Tryz.f139=some den139:=by kernel_rfl
theorem en140:funcC Tryz.prog mu0 Tryz.f140=some den140:=by kernel_rfl
theorem en141:funcC Tryz.prog mu0 Tryz.f141=some den141:=by kernel_rfl
theorem en142:funcC Tryz.prog mu0 Tryz.f142=some den142:=by kernel_rfl
theorem en144:funcC Tryz.prog mu0 Tryz.f144=some den144:=by kernel_rfl
theorem en146:funcC Tryz.prog mu0 Tryz.f146=some den146:=by kernel_rfl
theorem en147:funcC Tryz.prog mu0 Tryz.f147=some den147:=by kernel_rfl
theorem en148:funcC Tryz.prog mu0 Tryz.f148=some den148:=by kernel_rfl
theorem en149:funcC Tryz.prog mu0 Tryz.f149=some den149:=by kernel_rfl
theorem en150:funcC Tryz.prog mu0 Tryz.f150=some den150:=by kernel_rfl
theorem en151:funcC Tryz.prog mu0 Tryz.f151=some den151:=by kernel_rfl
theorem en156:funcC Tryz.prog mu0 Tryz.f156=some den156:=by kernel_rfl
theorem en157:funcC Tryz.prog mu0 Tryz.f157=some den157:=by kernel_rfl
theorem en158:funcC Tryz.prog mu0 Tryz.f158=some den158:=by kernel_rfl
theorem en160:funcC Tryz.prog mu0 Tryz.f160=some den160:=by kernel_rfl
theorem en161:funcC Tryz.prog mu0 Tryz.f161=some den161:=by kernel_rfl
theorem en162:funcC Tryz.prog mu0 Tryz.f162=some den162:=by kernel_rfl
theorem en163:funcC Tryz.prog mu0 Tryz.f163=some den163:=by kernel_rfl
theorem en164:funcC Tryz.prog mu0 Tryz.f164=some den164:=by kernel_rfl
theorem en165:funcC Tryz.prog mu0 Tryz.f165=some den165:=by kernel_rfl
theorem en166:funcC Tryz.prog mu0 Tryz.f166=some den166:=by kernel_rfl
theorem en167:funcC Tryz.prog mu0 Tryz.f167=some den167:=by kernel_rfl
theorem en168:funcC Tryz.prog mu0 Tryz.f168=some den168:=by kernel_rfl
theorem en169:funcC Tryz.prog mu0 Tryz.f169=some den169:=by kernel_rfl
theorem en170:funcC Tryz.prog mu0 Tryz.f170=some den170:=by kernel_rfl
theorem en176:funcC Tryz.prog mu0 Tryz.f176=some den176:=by kernel_rfl
theorem en177:funcC Tryz.prog mu0 Tryz.f177=some den177:=by kernel_rfl
theorem en223:funcC Tryz.prog mu0 Tryz.f223=some den223:=by kernel_rfl
theorem en224:funcC Tryz.prog mu0 Tryz.f224=some den224:=by kernel_rfl
theorem en225:funcC Tryz.prog mu0 Tryz.f225=some den225:=by kernel_rfl
theorem en226:funcC Tryz.prog mu0 Tryz.f226=some den226:=by kernel_rfl
theorem en_of{g:Nat}{df df':DFunc}{fn:Func}{mu:TypeId→Bool}(h:some df'=some df)(h1:Tryz.prog.funcs[g]? = some fn)(h2:funcC Tryz.prog mu fn=some df')(h3:(fn.name== "runtime.NumGoroutine")=false):∃ fn mu,Tryz.prog.funcs[g]? = some fn∧funcC Tryz.prog mu fn=some df∧(fn.name== "runtime.NumGoroutine")=false:=by
 cases h
 exact⟨fn,mu,h1,h2,h3⟩
theorem envFn:EnvFn Tryz.prog EE:=⟨fun g df h=>by
 have h:fnT g=some df:=h
 unfold fnT at h
 split at h
 ·exact en_of h Tryz.func18 en18 (by kernel_rfl)
 ·exact en_of h Tryz.func24 en24 (by kernel_rfl)
 ·exact en_of h Tryz.func25 en25 (by kernel_rfl)
 ·exact en_of h Tryz.func26 en26 (by kernel_rfl)
 ·exact en_of h Tryz.func27 en27 (by kernel_rfl)
 ·exact en_of h Tryz.func28 en28 (by kernel_rfl)
 ·exact en_of h Tryz.func29 en29 (by kernel_rfl)
 ·exact en_of h Tryz.func30 en30 (by kernel_rfl)
 ·exact en_of h Tryz.func32 en32 (by kernel_rfl)
 ·exact en_of h Tryz.func33 en33 (by kernel_rfl)
 ·exact en_of h Tryz.func37 en37 (by kernel_rfl)
 ·exact en_of h Tryz.func38 en38 (by kernel_rfl)
 ·exact en_of h Tryz.func42 en42 (by kernel_rfl)
 ·exact en_of h Tryz.func43 en43 (by kernel_rfl)
 ·exact en_of h Tryz.func50 en50 (by kernel_rfl)
 ·exact en_of h Tryz.func51 en51 (by kernel_rfl)
 ·exact en_of h Tryz.func53 en53 (by kernel_rfl)
 ·exact en_of h Tryz.func55 en55 (by kernel_rfl)
 ·exact en_of h Tryz.func59 en59 (by kernel_rfl)
 ·exact en_of h Tryz.func63 en63 (by kernel_rfl)
 ·exact en_of h Tryz.func64 en64 (by kernel_rfl)
 ·exact en_of h Tryz.func66 en66 (by kernel_rfl)
 ·exact en_of h Tryz.func67 en67 (by kernel_rfl)
 ·exact en_of h Tryz.func68 en68 (by kernel_rfl)
 ·exact en_of h Tryz.func70 en70 (by kernel_rfl)
 ·exact en_of h Tryz.func71 en71 (by kernel_rfl)
 ·exact en_of h Tryz.func72 en72 (by kernel_rfl)
 ·exact en_of h Tryz.func73 en73 (by kernel_rfl)
 ·exact en_of h Tryz.func75 en75 (by kernel_rfl)
 ·exact en_of h Tryz.func76 en76 (by kernel_rfl)
 ·exact en_of h Tryz.func79 en79 (by kernel_rfl)
 ·exact en_of h Tryz.func80 en80 (by kernel_rfl)
 ·exact en_of h Tryz.func81 en81 (by kernel_rfl)
 ·exact en_of h Tryz.func82 en82 (by kernel_rfl)
 ·exact en_of h Tryz.func83 en83 (by kernel_rfl)
 ·exact en_of h Tryz.func84 en84 (by kernel_rfl)
 ·exact en_of h Tryz.func85 en85 (by kernel_rfl)
 ·exact en_of h Tryz.func86 en86 (by kernel_rfl)
 ·exact en_of h Tryz.func87 en87 (by kernel_rfl)
 ·exact en_of h Tryz.func88 en88 (by kernel_rfl)
 ·exact en_of h Tryz.func90 en90 (by kernel_rfl)
 ·exact en_of h Tryz.func91 en91 (by kernel_rfl)
 ·exact en_of h Tryz.func92 en92 (by kernel_rfl)
 ·exact en_of h Tryz.func93 en93 (by kernel_rfl)
 ·exact en_of h Tryz.func94 en94 (by kernel_rfl)
 ·exact en_of h Tryz.func95 en95 (by kernel_rfl)
 ·exact en_of h Tryz.func98 en98 (by kernel_rfl)
 ·exact en_of h Tryz.func99 en99 (by kernel_rfl)
 ·exact en_of h Tryz.func100 en100 (by kernel_rfl)
 ·exact en_of h Tryz.func101 en101 (by kernel_rfl)
 ·exact en_of h Tryz.func102 en102 (by kernel_rfl)
 ·exact en_of h Tryz.func103 en103 (by kernel_rfl)
 ·exact en_of h Tryz.func104 en104 (by kernel_rfl)
 ·exact en_of h Tryz.func105 en105 (by kernel_rfl)
 ·exact en_of h Tryz.func108 en108 (by kernel_rfl)
 ·exact en_of h Tryz.func109 en109 (by kernel_rfl)
 ·exact en_of h Tryz.func110 en110 (by kernel_rfl)
 ·exact en_of h Tryz.func111 en111 (by kernel_rfl)
 ·exact en_of h Tryz.func112 en112 (by kernel_rfl)
 ·exact en_of h Tryz.func114 en114 (by kernel_rfl)
 ·exact en_of h Tryz.func115 en115 (by kernel_rfl)
 ·exact en_of h Tryz.func116 en116 (by kernel_rfl)
 ·exact en_of h Tryz.func117 en117 (by kernel_rfl)
 ·exact en_of h Tryz.func118 en118 (by kernel_rfl)
 ·exact en_of h Tryz.func119 en119 (by kernel_rfl)
 ·exact en_of h Tryz.func120 en120 (by kernel_rfl)
 ·exact en_of h Tryz.func121 en121 (by kernel_rfl)
 ·exact en_of h Tryz.func123 en123 (by kernel_rfl)
 ·exact en_of h Tryz.func124 en124 (by kernel_rfl)
 ·exact en_of h Tryz.func125 en125 (by kernel_rfl)
 ·exact en_of h Tryz.func126 en126 (by kernel_rfl)
 ·exact en_of h Tryz.func129 en129 (by kernel_rfl)
 ·exact en_of h Tryz.func130 en130 (by kernel_rfl)
 ·exact en_of h Tryz.func131 en131 (by kernel_rfl)
 ·exact en_of h Tryz.func132 en132 (by kernel_rfl)
 ·exact en_of h Tryz.func133 en133 (by kernel_rfl)
 ·exact en_of h Tryz.func134 en134 (by kernel_rfl)
 ·exact en_of h Tryz.func135 en135 (by kernel_rfl)
 ·exact en_of h Tryz.func136 en136 (by kernel_rfl)
 ·exact en_of h Tryz.func137 en137 (by kernel_rfl)
 ·exact en_of h Tryz.func138 en138 (by kernel_rfl)
 ·exact en_of h Tryz.func139 en139 (by kernel_rfl)
 ·exact en_of h Tryz.func140 en140 (by kernel_rfl)
 ·exact en_of h Tryz.func141 en141 (by kernel_rfl)
 ·exact en_of h Tryz.func142 en142 (by kernel_rfl)
 ·exact en_of h Tryz.func144 en144 (by kernel_rfl)
 ·exact en_of h Tryz.func146 en146 (by kernel_rfl)
 ·exact en_of h Tryz.func147 en147 (by kernel_rfl)
 ·exact en_of h Tryz.func148 en148 (by kernel_rfl)
 ·exact en_of h Tryz.func149 en149 (by kernel_rfl)
 ·exact en_of h Tryz.func150 en150 (by kernel_rfl)
 ·exact en_of h Tryz.func151 en151 (by kernel_rfl)
 ·exact en_of h Tryz.func156 en156 (by kernel_rfl)
 ·exact en_of h Tryz.func157 en157 (by kernel_rfl)
 ·exact en_of h Tryz.func158 en158 (by kernel_rfl)
 ·exact en_of h Tryz.func160 en160 (by kernel_rfl)
 ·exact en_of h Tryz.func161 en161 (by kernel_rfl)
 ·exact en_of h Tryz.func162 en162 (by kernel_rfl)
 ·exact en_of h Tryz.func163 en163 (by kernel_rfl)
 ·exact en_of h Tryz.func164 en164 (by kernel_rfl)
 ·exact en_of h Tryz.func165 en165 (by kernel_rfl)
 ·exact en_of h Tryz.func166 en166 (by kernel_rfl)
 ·exact en_of h Tryz.func167 en167 (by kernel_rfl)
 ·exact en_of h Tryz.func168 en168 (by kernel_rfl)
 ·exact en_of h Tryz.func169 en169 (by kernel_rfl)
 ·exact en_of h Tryz.func170 en170 (by kernel_rfl)
 ·exact en_of h Tryz.func176 en176 (by kernel_rfl)
 ·exact en_of h Tryz.func177 en177 (by kernel_rfl)
 ·exact en_of h Tryz.func223 en223 (by kernel_rfl)
 ·exact en_of h Tryz.func224 en224 (by kernel_rfl)
 ·exact en_of h Tryz.func225 en225 (by kernel_rfl)
 ·exact en_of h Tryz.func226 en226 (by kernel_rfl)
 ·cases h⟩
theorem meth1(v:Value)(w:World):(method (Tryz.prog.types.size+Made.depth) 191 v "kelir/version.numbers").run Tryz.prog w = .ok (223,v) w:=by kernel_rfl
theorem meth2(v:Value)(w:World):(method (Tryz.prog.types.size+Made.depth) 193 v "kelir/version.numbers").run Tryz.prog w = .ok (224,v) w:=by kernel_rfl
theorem meth3(v:Value)(w:World):(method (Tryz.prog.types.size+Made.depth) 194 v "kelir/version.numbers").run Tryz.prog w = .ok (225,v) w:=by kernel_rfl
theorem meth4(v:Value)(w:World):(method (Tryz.prog.types.size+Made.depth) 195 v "kelir/version.numbers").run Tryz.prog w = .ok (226,v) w:=by kernel_rfl
theorem envOK:EnvOK Tryz.prog EE:=⟨fun t m f h v w=>by
 have h:methT t m=some f:=h
 unfold methT at h
 split at h
 ·split at h
  ·rename_i hm;subst hm;cases h;exact meth1 v w
  ·cases h
 ·split at h
  ·rename_i hm;subst hm;cases h;exact meth2 v w
  ·cases h
 ·split at h
  ·rename_i hm;subst hm;cases h;exact meth3 v w
  ·cases h
 ·split at h
  ·rename_i hm;subst hm;cases h;exact meth4 v w
  ·cases h
 ·cases h⟩
theorem follows:Tryz.prog.follows .mixedOrders=true:=by kernel_rfl
end Go.Den.Ve
end
section
namespace Go.Proofs
open Go.Shelf
def Tryz.lays156_ren:Go.Shelf.Ren:=⟨fun|156=>153|165=>172|166=>173|169=>174|240=>179|241=>180|276=>188|277=>189|n=>n,fun|31=>167|9=>9|3=>3|4=>4|0=>0|20=>20|72=>223|76=>227|70=>221|37=>111|75=>226|127=>233|164=>242|5=>5|80=>229|n=>n,fun|n=>n⟩
theorem Tryz.lays156:Go.Proofs.Lays.n156 Tryz.prog Tryz.lays156_ren:={
 mixed:=by kernel_rfl
 f156:=Tryz.func153.trans (congrArg some (by kernel_rfl))
 f165:=Tryz.func172.trans (congrArg some (by kernel_rfl))
 f166:=Tryz.func173.trans (congrArg some (by kernel_rfl))
 f169:=Tryz.func174.trans (congrArg some (by kernel_rfl))
 f240:=Tryz.func179.trans (congrArg some (by kernel_rfl))
 f241:=Tryz.func180.trans (congrArg some (by kernel_rfl))
 f276:=Tryz.func188.trans (congrArg some (by kernel_rfl))
 f277:=Tryz.func189.trans (congrArg some (by kernel_rfl))
 t0:=Tryz.underlying0
 a0:=Tryz.isAgg0
 z0:=Tryz.sizeOf0
 v0:=Tryz.zeroValue0
 t3:=Tryz.underlying3
 a3:=Tryz.isAgg3
 z3:=Tryz.sizeOf3
 v3:=Tryz.zeroValue3
 t4:=Tryz.underlying4
 a4:=Tryz.isAgg4
 z4:=Tryz.sizeOf4
 v4:=Tryz.zeroValue4
 t9:=Tryz.underlying9
 a9:=Tryz.isAgg9
 z9:=Tryz.sizeOf9
 v9:=Tryz.zeroValue9
 t20:=Tryz.underlying20
 a20:=Tryz.isAgg20
 z20:=Tryz.sizeOf20
 v20:=Tryz.zeroValue20
 t31:=Tryz.underlying167
 a31:=Tryz.isAgg167
 z31:=Tryz.sizeOf167
 v31:=Tryz.zeroValue167
 t37:=Tryz.underlying111
 a37:=Tryz.isAgg111
 z37:=Tryz.sizeOf111
 v37:=Tryz.zeroValue111
 t70:=Tryz.underlying221
 a70:=Tryz.isAgg221
 z70:=Tryz.sizeOf221
 v70:=Tryz.zeroValue221
 t72:=Tryz.underlying223
 a72:=Tryz.isAgg223
 z72:=Tryz.sizeOf223
 v72:=Tryz.zeroValue223
 t75:=Tryz.underlying226
 a75:=Tryz.isAgg226
 z75:=Tryz.sizeOf226
 v75:=Tryz.zeroValue226
 t76:=Tryz.underlying227
 a76:=Tryz.isAgg227
 z76:=Tryz.sizeOf227
 v76:=Tryz.zeroValue227
 t127:=Tryz.underlying233
 a127:=Tryz.isAgg233
 z127:=Tryz.sizeOf233
 v127:=Tryz.zeroValue233
 t164:=Tryz.underlying242
 a164:=Tryz.isAgg242
 z164:=Tryz.sizeOf242
 v164:=Tryz.zeroValue242 }
theorem Tryz.Builder_Extra_156:Builder.Extra Tryz.prog Tryz.lays156_ren:={
 sizeBuilder:=by kernel_rfl
 liesBuilder:=by kernel_rfl
 t5:=Tryz.underlying5
 a5:=Tryz.isAgg5
 z5:=Tryz.sizeOf5
 v5:=Tryz.zeroValue5
 infoByte:=by kernel_rfl
 cellsByte:=by kernel_rfl
 sizeByte:=by kernel_rfl
 neB5:=by decide }
open Go.RowKit in
theorem Tryz.strings_Join_none(a:Option Addr)(c:Nat)(sep:ByteArray)(w:World) :
  Calls Tryz.prog 153 #[.slice a 0 c,.string sep] w fun e w'=>e = .returned (.string ⟨#[]⟩)∧w'=w:=Any.strings_Join_none Tryz.lays156 Tryz.Builder_Extra_156 a c sep w
open Go.RowKit in
theorem Tryz.strings_Join(bk o c:Nat)(xs:List ByteArray)(sep:ByteArray)(w:World)(hcells:∀ (j:Nat) x,xs[j]? = some x→w.cell? ⟨bk,o+j,none⟩=some (.string x))(hbk:bk<w.heap.size)(hN:xs.length≤140737488355328)(hcap:xs.length≤c)(hlen:(Lib.join (xs.map (·.data.toList)) sep.data.toList).length≤140737488355328) :
  Calls Tryz.prog 153 #[.slice (some ⟨bk,o,none⟩) xs.length c,.string sep] w fun e w'=>e = .returned (.string ⟨(Lib.join (xs.map (·.data.toList)) sep.data.toList).toArray⟩)∧Below w.heap.size w w':=Any.strings_Join Tryz.lays156 Tryz.Builder_Extra_156 bk o c xs sep w hcells hbk hN hcap hlen
def Tryz.lays171_ren:Go.Shelf.Ren:=⟨fun|171=>152|243=>171|246=>178|283=>184|284=>185|285=>186|286=>187|129=>195|317=>194|318=>196|319=>197|320=>198|337=>204|338=>205|n=>n,fun|3=>3|9=>9|2=>2|4=>4|171=>236|0=>0|53=>237|37=>111|5=>5|173=>240|212=>251|51=>252|20=>20|213=>253|46=>254|232=>263|233=>264|n=>n,fun|17=>0|18=>4|19=>5|n=>n⟩
theorem Tryz.lays171:Go.Proofs.Lays.n171 Tryz.prog Tryz.lays171_ren:={
 mixed:=by kernel_rfl
 f129:=Tryz.func195.trans (congrArg some (by kernel_rfl))
 f171:=Tryz.func152.trans (congrArg some (by kernel_rfl))
 f243:=Tryz.func171.trans (congrArg some (by kernel_rfl))
 f246:=Tryz.func178.trans (congrArg some (by kernel_rfl))
 f283:=Tryz.func184.trans (congrArg some (by kernel_rfl))
 f284:=Tryz.func185.trans (congrArg some (by kernel_rfl))
 f285:=Tryz.func186.trans (congrArg some (by kernel_rfl))
 f286:=Tryz.func187.trans (congrArg some (by kernel_rfl))
 f317:=Tryz.func194.trans (congrArg some (by kernel_rfl))
 f318:=Tryz.func196.trans (congrArg some (by kernel_rfl))
 f319:=Tryz.func197.trans (congrArg some (by kernel_rfl))
 f320:=Tryz.func198.trans (congrArg some (by kernel_rfl))
 f337:=Tryz.func204.trans (congrArg some (by kernel_rfl))
 f338:=Tryz.func205.trans (congrArg some (by kernel_rfl))
 t0:=Tryz.underlying0
 a0:=Tryz.isAgg0
 z0:=Tryz.sizeOf0
 v0:=Tryz.zeroValue0
 t2:=Tryz.underlying2
 a2:=Tryz.isAgg2
 z2:=Tryz.sizeOf2
 v2:=Tryz.zeroValue2
 t3:=Tryz.underlying3
 a3:=Tryz.isAgg3
 z3:=Tryz.sizeOf3
 v3:=Tryz.zeroValue3
 t4:=Tryz.underlying4
 a4:=Tryz.isAgg4
 z4:=Tryz.sizeOf4
 v4:=Tryz.zeroValue4
 t5:=Tryz.underlying5
 a5:=Tryz.isAgg5
 z5:=Tryz.sizeOf5
 v5:=Tryz.zeroValue5
 t9:=Tryz.underlying9
 a9:=Tryz.isAgg9
 z9:=Tryz.sizeOf9
 v9:=Tryz.zeroValue9
 t20:=Tryz.underlying20
 a20:=Tryz.isAgg20
 z20:=Tryz.sizeOf20
 v20:=Tryz.zeroValue20
 t37:=Tryz.underlying111
 a37:=Tryz.isAgg111
 z37:=Tryz.sizeOf111
 v37:=Tryz.zeroValue111
 t46:=Tryz.underlying254
 a46:=Tryz.isAgg254
 z46:=Tryz.sizeOf254
 v46:=Tryz.zeroValue254
 t51:=Tryz.underlying252
 a51:=Tryz.isAgg252
 z51:=Tryz.sizeOf252
 v51:=Tryz.zeroValue252
 t53:=Tryz.underlying237
 a53:=Tryz.isAgg237
 z53:=Tryz.sizeOf237
 v53:=Tryz.zeroValue237
 t171:=Tryz.underlying236
 a171:=Tryz.isAgg236
 z171:=Tryz.sizeOf236
 v171:=Tryz.zeroValue236
 t173:=Tryz.underlying240
 a173:=Tryz.isAgg240
 z173:=Tryz.sizeOf240
 v173:=Tryz.zeroValue240
 t212:=Tryz.underlying251
 a212:=Tryz.isAgg251
 z212:=Tryz.sizeOf251
 v212:=Tryz.zeroValue251
 t213:=Tryz.underlying253
 a213:=Tryz.isAgg253
 z213:=Tryz.sizeOf253
 t232:=Tryz.underlying263
 a232:=Tryz.isAgg263
 z232:=Tryz.sizeOf263
 v232:=Tryz.zeroValue263
 t233:=Tryz.underlying264
 a233:=Tryz.isAgg264
 z233:=Tryz.sizeOf264
 v233:=Tryz.zeroValue264
 g17:=by kernel_rfl
 g18:=by kernel_rfl
 g19:=by kernel_rfl }
open Go.RowKit Go.Sort Go.Lib in
theorem Tryz.strconv_Itoa_small(i:Nat)(hi:i<100)(w:World) :
  Calls Tryz.prog 152 #[.int .i64 i] w fun e w'=>e = .returned (.string ⟨(Lib.decDigits i).toArray⟩)∧w'=w:=Any.strconv_Itoa_small Tryz.lays171 i hi w
def Tryz.lays146_ren:Go.Shelf.Ren:=⟨fun|146=>155|221=>175|268=>181|138=>182|143=>183|195=>190|197=>191|218=>192|219=>193|260=>199|217=>200|225=>201|224=>202|267=>203|266=>206|314=>207|n=>n,fun|9=>9|31=>167|3=>3|4=>4|0=>0|105=>246|21=>21|5=>5|46=>254|119=>257|139=>260|138=>259|146=>261|51=>252|n=>n,fun|1=>1|3=>2|4=>3|n=>n⟩
theorem Tryz.lays146:Go.Proofs.Lays.n146 Tryz.prog Tryz.lays146_ren:={
 mixed:=by kernel_rfl
 f138:=Tryz.func182.trans (congrArg some (by kernel_rfl))
 f143:=Tryz.func183.trans (congrArg some (by kernel_rfl))
 f146:=Tryz.func155.trans (congrArg some (by kernel_rfl))
 f195:=Tryz.func190.trans (congrArg some (by kernel_rfl))
 f197:=Tryz.func191.trans (congrArg some (by kernel_rfl))
 f217:=Tryz.func200.trans (congrArg some (by kernel_rfl))
 f218:=Tryz.func192.trans (congrArg some (by kernel_rfl))
 f219:=Tryz.func193.trans (congrArg some (by kernel_rfl))
 f221:=Tryz.func175.trans (congrArg some (by kernel_rfl))
 f224:=Tryz.func202.trans (congrArg some (by kernel_rfl))
 f225:=Tryz.func201.trans (congrArg some (by kernel_rfl))
 f260:=Tryz.func199.trans (congrArg some (by kernel_rfl))
 f266:=Tryz.func206.trans (congrArg some (by kernel_rfl))
 f267:=Tryz.func203.trans (congrArg some (by kernel_rfl))
 f268:=Tryz.func181.trans (congrArg some (by kernel_rfl))
 f314:=Tryz.func207.trans (congrArg some (by kernel_rfl))
 t0:=Tryz.underlying0
 a0:=Tryz.isAgg0
 z0:=Tryz.sizeOf0
 v0:=Tryz.zeroValue0
 t3:=Tryz.underlying3
 a3:=Tryz.isAgg3
 z3:=Tryz.sizeOf3
 v3:=Tryz.zeroValue3
 t4:=Tryz.underlying4
 a4:=Tryz.isAgg4
 z4:=Tryz.sizeOf4
 v4:=Tryz.zeroValue4
 t5:=Tryz.underlying5
 a5:=Tryz.isAgg5
 z5:=Tryz.sizeOf5
 v5:=Tryz.zeroValue5
 t9:=Tryz.underlying9
 a9:=Tryz.isAgg9
 z9:=Tryz.sizeOf9
 v9:=Tryz.zeroValue9
 t21:=Tryz.underlying21
 a21:=Tryz.isAgg21
 z21:=Tryz.sizeOf21
 v21:=Tryz.zeroValue21
 t31:=Tryz.underlying167
 a31:=Tryz.isAgg167
 z31:=Tryz.sizeOf167
 v31:=Tryz.zeroValue167
 t46:=Tryz.underlying254
 a46:=Tryz.isAgg254
 z46:=Tryz.sizeOf254
 v46:=Tryz.zeroValue254
 t51:=Tryz.underlying252
 a51:=Tryz.isAgg252
 z51:=Tryz.sizeOf252
 v51:=Tryz.zeroValue252
 t105:=Tryz.underlying246
 a105:=Tryz.isAgg246
 z105:=Tryz.sizeOf246
 v105:=Tryz.zeroValue246
 t119:=Tryz.underlying257
 a119:=Tryz.isAgg257
 z119:=Tryz.sizeOf257
 t138:=Tryz.underlying259
 a138:=Tryz.isAgg259
 z138:=Tryz.sizeOf259
 v138:=Tryz.zeroValue259
 t139:=Tryz.underlying260
 a139:=Tryz.isAgg260
 z139:=Tryz.sizeOf260
 v139:=Tryz.zeroValue260
 t146:=Tryz.underlying261
 a146:=Tryz.isAgg261
 z146:=Tryz.sizeOf261
 v146:=Tryz.zeroValue261
 g1:=by kernel_rfl
 g3:=by kernel_rfl
 g4:=by kernel_rfl }
open Go.RowKit Go.Lib in
theorem Tryz.strings_Split(s sep:ByteArray)(m:Int)(w:World)(hs:s.size<4294967281)(hm:w.cell? ⟨1,0,none⟩=some (.int .i64 m))(h1:1≤sep.size) :
  Calls Tryz.prog 155 #[.string s,.string sep] w fun e w' =>
   e = .returned (.slice (some ⟨w.heap.size,0,none⟩) (Lib.countB s sep+1) (Lib.countB s sep+1))∧w'=w.alloc (.cells ((Lib.splitB sep 0 (Lib.countB s sep) s).map Value.string).toArray 9):=Any.strings_Split Tryz.lays146 (by kernel_rfl) s sep m w hs hm h1
end Go.Proofs
end

/- Part of the proofs of laws of the package version. Texts: VwF, VwG, VwB, VxA, VxC, VxCb, VxD, VxI. -/
import Derived.Test.YtehdcjbdhkkipaaGreatDoorVFAn
set_option linter.unusedSimpArgs false
set_option linter.unusedVariables false
section
namespace Go.Den.Ve
def growN (w:Nat) (l:List Int):List (List Int):=(List.range w).map fun (x:Nat)=>l++[(x:Int)]
theorem lists_grow (w:Nat):∀ k,listsL w (k+1)=(listsL w k).flatMap (growN w)
 | 0=>by
  simp only [listsL,growN,List.flatMap_cons,List.flatMap_nil,List.append_nil,List.nil_append,List.map_cons,List.map_nil]
  induction List.range w with
  | nil=>rfl
  | cons x l ih=>rw [List.flatMap_cons,ih];rfl
 | k+1=>by
  have ih:=lists_grow w k
  have e:listsL w (k+1+1)=(List.range w).flatMap fun (x:Nat)=>(listsL w (k+1)).map fun l=>(x:Int)::l:=rfl
  have e2:listsL w (k+1)=(List.range w).flatMap fun (x:Nat)=>(listsL w k).map fun l=>(x:Int)::l:=rfl
  rw [e]
  conv=>rhs;rw [e2]
  rw [List.flatMap_assoc]
  congr 1
  funext x
  rw [ih,List.map_flatMap,List.flatMap_map]
  congr 1
  funext l
  simp only [growN,List.map_map]
  rfl
def preL (w k:Nat):List (List Int):=(List.range k).flatMap (listsL w)
theorem preL_succ (w k:Nat):preL w (k+1)=preL w k++listsL w k:=by simp [preL,List.range_succ]
theorem preL_len {w:Nat} (hw:w≤3):∀ k,(preL w k).length≤3 ^ k
 | 0=>by simp [preL]
 | k+1=>by
  have h:=preL_len hw k
  rw [preL_succ,List.length_append,lists_pow]
  have h2:w ^ k≤3 ^ k:=Nat.pow_le_pow_left hw k
  have:3 ^ (k+1)=3*3 ^ k:=by rw [Nat.pow_succ];omega
  omega
def outA (w k m x:Nat):List (List Int):=preL w (k+1)++(((listsL w k).take m).flatMap (growN w)++(growN w ((listsL w k).getD m [])).take x)
def costsL (b:BK) (i:Nat) (w:Nat):List Int:=(linesL w).map (cost1 b i)
end Go.Den.Ve
end
section
namespace Go.Den
end Go.Den
namespace Go.Den.Ve
def LeastP (X:List (List Int)) (m:List Int→Int) (st:St) (v:PV) (st':St):Prop:=∃ u,v = .tuple [u,iv (minL m X)]∧RetW st (leastL m X).length ((leastL m X).flatMap encL) u st'
end Go.Den.Ve
end
section
namespace Go.Den.Ve
theorem cost_snoc (x:Sp):∀ s:List Sp,costL (s++[x])=costL s+if x.1=1 then 0 else 1
 | []=>by simp [costL]
 | y::s=>by rw [List.cons_append,costL,cost_snoc x s,costL];omega
theorem cost_le:∀ s:List Sp,costL s≤s.length
 | []=>Nat.le_refl _
 | x::s=>by have:=cost_le s;rw [costL,List.length_cons];split <;> omega
theorem soon_pre (s t:List Sp):∀ l:List Sp,soonL (l++s) (l++t)=soonL s t
 | []=>rfl
 | a::l=>by rw [List.cons_append,List.cons_append,soonL,if_pos rfl];exact soon_pre s t l
end Go.Den.Ve
end
section
namespace Go.Den.Ve
def anyArg (b:BP) (l1 l2:List Int):Bool:=smallB b&&(decide ((l1.length:Int)≤6)&&decide ((l2.length:Int)≤6))
end Go.Den.Ve
end
section
namespace Go.Den.Ve
end Go.Den.Ve
end
section
namespace Go.Den.Ve
end Go.Den.Ve
end
section
namespace Go.Den.Ve
def allH (X:List (List Int)) (l:List Int):Bool:=X.all fun x=>holdL x l
def allHK (X:List (List Int)) (l:List Int) (k:Nat):Bool:=(X.take k).all fun x=>holdL x l
def ComR (X:List (List Int)) (w:Nat):List Int:=commonR (allH X) [] (linesL w)
end Go.Den.Ve
end
section
namespace Go.Den.Ve
theorem same_at {a b:BP} (h:a.bk=b.bk):a.words=b.words∧∃ hl:a.cs.length=b.cs.length,∀ (i:Nat) (hi:i<a.cs.length),∃ hk:a.cs[i].ls.length=b.cs[i].ls.length,∀ (k:Nat) (hk':k<a.cs[i].ls.length),a.cs[i].ls[k].lost=b.cs[i].ls[k].lost∧a.cs[i].ls[k].l=b.cs[i].ls[k].l:=by
 have h1:a.words=b.words:=congrArg BK.words h
 have h2:a.cs.map CP.c=b.cs.map CP.c:=congrArg BK.copies h
 have hl:a.cs.length=b.cs.length:=by have:=congrArg List.length h2;simpa using this
 refine ⟨h1,hl,fun i hi=>?_⟩
 have h3:a.cs[i].c=b.cs[i].c:=by
  have e:(a.cs.map CP.c)[i]? = (b.cs.map CP.c)[i]? := by rw [h2]
  rw [List.getElem?_map,List.getElem?_map,List.getElem?_eq_getElem hi,List.getElem?_eq_getElem (by omega)] at e
  exact Option.some.inj e
 have hk:a.cs[i].ls.length=b.cs[i].ls.length:=by have:=congrArg List.length h3;simpa using this
 refine ⟨hk,fun k hk'=>?_⟩
 have h4:a.cs[i].ls[k].ln=b.cs[i].ls[k].ln:=by
  have e:(a.cs[i].ls.map LP.ln)[k]? = (b.cs[i].ls.map LP.ln)[k]? := by show a.cs[i].c[k]? = b.cs[i].c[k]?;rw [h3]
  rw [List.getElem?_map,List.getElem?_map,List.getElem?_eq_getElem hk',List.getElem?_eq_getElem (by omega)] at e
  exact Option.some.inj e
 exact ⟨congrArg LN.lost h4,congrArg LN.words h4⟩
set_option maxHeartbeats 4000000 in
theorem c77 (a b:BP) (h:a.bk=b.bk) (hN:SmB a) (hM:∀ c∈a.cs,∀ x∈c.ls,x.l.length<1000000) (st:St):Cl EE (.func 77 [] []) [a.pv,b.pv] st (.ret (.bool true)) st:=by
 have ha:=a.h
 have hb:=b.h
 have hn:=hN.n
 obtain ⟨e1,e2,hall⟩:=same_at h
 have p1:(a.words != b.words)=false:=by rw [e1];simp
 have p2:((a.cs.length:Int) != b.cs.length)=false:=by rw [e2];simp
 refine cF2 pr77 fn77 (fun tm hl h0 h1=>?_)
 refine go2 (bw5 hl h0 h1 p1 p2) fnil ?_
 refine wp_for [5] (fun i vs S=>vs=[iv i]∧i≤a.cs.length∧S=(({ heap:=st.heap,lo:=st.heap.length }:St).push (.var [iv a.words,a.v])).push (.var [iv b.words,b.v])) (fun i=>a.cs.length - i) ⟨(sR hl),Nat.zero_le _,rfl⟩ ?_
 rintro i tm1 S ⟨hv,hi,rfl⟩ hS
 simp only [List.map_cons,List.map_nil,List.cons.injEq,and_true] at hv
 have hl1:tm1.length=92:=lN hS hl;have i2:tg tm1 2 = .ptr st.heap.length 0:=tQ hS hl;have i3:tg tm1 3 = .ptr (st.heap.length+1) 0:=tQ hS hl;clear hS
 refine go2 (bw3 hl1 hv i2) fnil ?_
 refine ⟨decide ((i:Int)<a.cs.length),(sG hl1),fun hbi=>?_,fun hbi=>?_⟩
 ·refine go2 hl1 fnil ?_
  exact fQ hl1
 have hlt:i<a.cs.length:=by have:=of_decide_eq_true hbi;omega
 have hlt2:i<b.cs.length:=by omega
 have hwi:IntKind.wrap .i64 ((i:Int)+1)=((i+1:Nat):Int):=wrap_nat (n:=i+1) (by omega)
 refine ⟨by omega,?_⟩
 obtain ⟨e3,hin⟩:=hall i hlt
 have hA:=a.cs[i].h
 have hB:=b.cs[i].h
 have hak:=hN.k _ (List.getElem_mem hlt)
 have p3:((a.cs[i].ls.length:Int) != b.cs[i].ls.length)=false:=by rw [e3];simp
 refine go2 (bw5 hl1 hv i2 i3 p3) fnil ?_
 refine wp_for [6] (fun k vs S=>vs=[iv k]∧k≤a.cs[i].ls.length∧S=(({ heap:=st.heap,lo:=st.heap.length }:St).push (.var [iv a.words,a.v])).push (.var [iv b.words,b.v])) (fun k=>a.cs[i].ls.length - k) ⟨(sR hl1),Nat.zero_le _,rfl⟩ ?_
 rintro k tm2 S ⟨hv6,hk,rfl⟩ hS2
 simp only [List.map_cons,List.map_nil,List.cons.injEq,and_true] at hv6
 have hl2:tm2.length=92:=lN hS2 hl1;have j2:tg tm2 2 = .ptr st.heap.length 0:=tQ hS2 (bw4 hl1 i2 i3 hv);have j3:tg tm2 3 = .ptr (st.heap.length+1) 0:=tQ hS2 (bw4 hl1 i2 i3 hv);have j5:tg tm2 5=iv i:=tQ hS2 (bw4 hl1 i2 i3 hv);clear hS2
 refine go2 (bw4 hl2 hv6 j2 j5) fnil ?_
 refine ⟨decide ((k:Int)<a.cs[i].ls.length),(sG hl2),fun hbk=>?_,fun hbk=>?_⟩
 ·refine go2 (bw3 hl2 j5 hwi) fnil ?_
  exact ⟨(sG hl2),by omega,rfl⟩
 have hltk:k<a.cs[i].ls.length:=by have:=of_decide_eq_true hbk;omega
 have hltk2:k<b.cs[i].ls.length:=by omega
 have hwk:IntKind.wrap .i64 ((k:Int)+1)=((k+1:Nat):Int):=wrap_nat (n:=k+1) (by omega)
 refine ⟨by omega,?_⟩
 obtain ⟨e4,e5⟩:=hin k hltk
 have p4:(a.cs[i].ls[k].lost==b.cs[i].ls[k].lost)=true:=by rw [e4];simp
 have hXa:=a.cs[i].ls[k].h
 have hXb:=b.cs[i].ls[k].h
 have k27:=fun st=>c27 a.cs[i].ls[k].w b.cs[i].ls[k].w a.cs[i].ls[k].l b.cs[i].ls[k].l hXa hXb (hM _ (List.getElem_mem hlt) _ (List.getElem_mem hltk)) st
 rw [e5,beq_self_eq_true] at k27
 refine go2 (bw7 hl2 hv6 j2 j3 j5 p4 hwk) (bw k27 fnil) ?_
 exact ⟨(sG hl2),by omega,rfl⟩
theorem bk_small {a b:BP} (h:a.bk=b.bk) (hM:∀ c∈b.cs,∀ x∈c.ls,x.l.length<1000000):∀ c∈a.cs,∀ x∈c.ls,x.l.length<1000000:=fun c hc x hx=>by
 obtain ⟨_,e2,hall⟩:=same_at h
 obtain ⟨i,hi,rfl⟩:=List.mem_iff_getElem.1 hc
 obtain ⟨k,hk,rfl⟩:=List.mem_iff_getElem.1 hx
 obtain ⟨e3,hin⟩:=hall i hi
 rw [(hin k hk).2]
 exact hM _ (List.getElem_mem _) _ (List.getElem_mem _)
set_option maxHeartbeats 16000000 in
theorem c20 (b:BP) (st:St):Cl EE (.func 20 [] []) [b.pv] st (.ret (.bool true)) st:=by
 have hb:=b.h
 have k28:=fun st=>c28 b st
 refine cF1 pr20 fn20 (fun tm hl h0=>?_)
 cases hA:smallB b
 ·rw [hA] at k28
  refine go2 (bw hl h0) (bw3 k28 c25 fnil) ?_
  exact fQ hl
 rw [hA] at k28
 obtain ⟨hN,hM⟩:=smallB_yes hA
 have hM':∀ c∈b.cs,∀ x∈c.ls,x.l.length<1000000:=fun c hc x hx=>by have:=hM c hc x hx;omega
 have k30:=fun st=>c30 b hN hM' st
 have k74:=fun st=>c74 b hN st
 cases hK:bookB b.bk
 ·rw [hK] at k30
  simp only [hK,Bool.false_eq_true,if_false] at k74
  refine go2 (bw5 hl h0 zs nee @beq_self_eq_true.{0}) (bw5 k28 k30 k74 c25 fnil) ?_
  exact fQ hl
 have hB:=bookB_iff.1 hK
 rw [hK] at k30
 simp only [hK,if_true] at k74
 have k76:=fun st=>c76 b hB st
 refine go2 (bw hl h0) (bw4 k28 k30 k74 fnil) ?_
 refine cR hl (c75 (textV b.bk) _) ?_
 rintro v S1 ⟨b2,rfl,hbk,hsm,hx,hlo⟩
 rw [read_textV hB] at hbk ⊢
 simp only at hbk
 have b1:hp S1 st.heap.length=some (.var [iv b.words,b.v]):=hx.hp (sG fnil)
 have m1:=hp_lt b1
 have q1:=hx.1
 simp only [lo_push,len_push] at q1 hlo
 have k77:=fun st=>c77 b2 b hbk hsm (bk_small hbk hM') st
 have hb2:=b2.h
 refine go2 (bw6 hl b1 zs nee @beq_self_eq_true.{0} (n4 m1)) (bw4 k76 k77 c25 fnil) ?_
 exact fQ hl
def nilB:BP:=⟨0,.nilslice,[],.nil⟩
theorem nilB_pv:nilB.pv = .agg [iv 0,.nilslice]:=rfl
set_option maxHeartbeats 16000000 in
theorem c22 (b:BP) (at' dg:Int) (st:St):Cl EE (.func 22 [] []) [b.pv,iv at',iv dg] st (.ret (.bool true)) st:=by
 have hb:=b.h
 have k28:=fun st=>c28 b st
 refine cF3 pr22 fn22 (fun tm hl h0 h1 h2=>?_)
 cases hA:smallB b
 ·rw [hA] at k28
  refine go2 (bw4 hl h0 h1 h2) (bw3 k28 c25 fnil) ?_
  exact fQ hl
 rw [hA] at k28
 obtain ⟨hN,hM⟩:=smallB_yes hA
 have hM':∀ c∈b.cs,∀ x∈c.ls,x.l.length<1000000:=fun c hc x hx=>by have:=hM c hc x hx;omega
 have k30:=fun st=>c30 b hN hM' st
 have k74:=fun st=>c74 b hN st
 cases hK:bookB b.bk
 ·rw [hK] at k30
  refine go2 (bw4 hl h0 h1 h2) (bw4 k28 k30 c25 fnil) ?_
  exact fQ hl
 have hB:=bookB_iff.1 hK
 rw [hK] at k30
 simp only [hK,if_true] at k74
 cases d1:decide (dg<0)
 case true =>
  refine go2 (bw5 hl h0 h1 h2 d1) (bw4 k28 k30 c25 fnil) ?_
  exact fQ hl
 cases d2:decide (dg>9)
 case true =>
  refine go2 (bw6 hl h0 h1 h2 d1 d2) (bw4 k28 k30 c25 fnil) ?_
  exact fQ hl
 have hd1:=of_decide_eq_false d1
 have hd2:=of_decide_eq_false d2
 have hsl:=textV_len hB
 have hsp:∀ {i:Nat} (hi:i<(textV b.bk).length) {d:UInt8},isDig d=true→isDig (textV b.bk)[i]=true→(textV b.bk)[i]≠d→parsedV ((textV b.bk).set i d)=none:=fun {i} hi {d} h1 h2 h3=>spoiltV hB hi h1 h2 h3
 generalize textV b.bk=s at k74 hsl hsp
 cases d3:decide (at'<0)
 case true =>
  refine go2 (bw8 hl h0 h1 h2 d1 d2 d3 zs) (bw5 k28 k30 k74 c25 fnil) ?_
  exact fQ hl
 have hd3:=of_decide_eq_false d3
 obtain ⟨k,rfl⟩:∃ k:Nat,at'=k:=⟨at'.toNat,by omega⟩
 cases d4:decide ((k:Int)≥s.length)
 case true =>
  refine go2 (bw9 hl h0 h1 h2 d1 d2 d3 d4 zs) (bw5 k28 k30 k74 c25 fnil) ?_
  exact fQ hl
 have hk:k<s.length:=by have:=of_decide_eq_false d4;omega
 have hix:=getElem?_toB s k hk
 have hk0:((0:Int)≤(k:Int))=True:=by simp
 have hb255:s[k].toNat<256:=s[k].toNat_lt
 cases d5:decide ((s[k].toNat:Int)<48)
 case true =>
  refine go2 (bw14 hl h0 h1 h2 d1 d2 d3 d4 d5 @op_indexStr hk0 Int.toNat_natCast hix zs) (bw5 k28 k30 k74 c25 fnil) ?_
  exact fQ hl
 cases d6:decide ((s[k].toNat:Int)>57)
 case true =>
  refine go2 (bw15 hl h0 h1 h2 d1 d2 d3 d4 d5 d6 @op_indexStr hk0 Int.toNat_natCast hix zs) (bw5 k28 k30 k74 c25 fnil) ?_
  exact fQ hl
 have hd5:=of_decide_eq_false d5
 have hd6:=of_decide_eq_false d6
 have wb:IntKind.wrap .u8 ((s[k].toNat:Int) - 48)=((s[k].toNat - 48:Nat):Int):=by rw [show (s[k].toNat:Int) - 48=((s[k].toNat - 48:Nat):Int) by omega];exact wrap8 (by omega)
 have wc:IntKind.wrap .i64 ((s[k].toNat - 48:Nat):Int)=((s[k].toNat - 48:Nat):Int):=wrap_nat (by omega)
 cases d7:(((s[k].toNat - 48:Nat):Int)==dg)
 case true =>
  refine go2 (bw18 hl h0 h1 h2 d1 d2 d3 d4 d5 d6 d7 wb wc @op_indexStr hk0 Int.toNat_natCast hix zs) (bw5 k28 k30 k74 c25 fnil) ?_
  exact fQ hl
 obtain ⟨m,rfl⟩:∃ m:Nat,dg=m:=⟨dg.toNat,by omega⟩
 have hdn:(UInt8.ofNat (48+m)).toNat=48+m:=by
  rw [UInt8.toNat_ofNat'];exact Nat.mod_eq_of_lt (by omega)
 have wd:IntKind.wrap .i64 (48+(m:Int))=((48+m:Nat):Int):=by rw [show 48+(m:Int)=((48+m:Nat):Int) by omega];exact wrap_nat (by omega)
 have we:IntKind.wrap .u8 ((48+m:Nat):Int)=((48+m:Nat):Int):=wrap8 (by omega)
 have hnone:parsedV (s.set k (UInt8.ofNat (48+m)))=none:=hsp hk (by simp only [isDig,hdn,Bool.and_eq_true,decide_eq_true_eq];omega) (by simp only [isDig,Bool.and_eq_true,decide_eq_true_eq];omega) (fun h=>by
  rw [h,hdn] at d7
  simp at d7)
 have hxl:(s.set k (UInt8.ofNat (48+m))).length=s.length:=List.length_set
 have hr:readV (s.set k (UInt8.ofNat (48+m)))=(⟨0,[]⟩,4):=by
  unfold readV
  rw [if_neg (by omega),hnone]
 have zf:(((4:Int)==4)=true):=rfl
 refine go2 (bw18 hl h0 h1 h2 d1 d2 d3 d4 d5 d6 d7 wb wc @op_indexStr hk0 Int.toNat_natCast hix zs) (bw4 k28 k30 k74 fnil) ?_
 refine wops_one (v := .hslice (st.heap.length+1) 1 s.length) (st1:=(({ heap:=st.heap,lo:=st.heap.length }:St).push (.var [iv b.words,b.v])).push (.arr (bytesV s))) rfl (fun rec=>by
  rw [step_s2b (s:=s) (sR hl) (by simp only [maxList];omega)]
  simp only [len_push]) ?_
 refine go2 (bw5 hl h1 h2 wd we) fnil ?_
 refine wops_one (v := .aptr (st.heap.length+1) (k*1)) rfl (fun rec=>by
  rw [op_indexAddr (l:=st.heap.length+1) (n:=s.length) (j:=k) (sR hl) (sR (bw hl h1)) hk]) ?_
 refine wops_one (v:=undef) (st1:=setVar ((({ heap:=st.heap,lo:=st.heap.length }:St).push (.var [iv b.words,b.v])).push (.arr (bytesV s))) (st.heap.length+1) (.arr (bytesV (s.set k (UInt8.ofNat (48+m)))))) rfl (fun rec=>by
  rw [step_setA (l:=st.heap.length+1) (off:=k*1) (k := .u8) (n:=((48+m:Nat):Int)) (cs:=bytesV s) (sR hl) (sR hl) (sG fnil) (by simp [bytesV];omega)]
  have q1:=splice_V hk (UInt8.ofNat (48+m))
  rw [hdn] at q1
  rw [Nat.mul_one,q1]) ?_
 refine go2 hl fnil ?_
 refine wops_one (v := .str (toB (s.set k (UInt8.ofNat (48+m))))) (st1:=setVar ((({ heap:=st.heap,lo:=st.heap.length }:St).push (.var [iv b.words,b.v])).push (.arr (bytesV s))) (st.heap.length+1) (.arr (bytesV (s.set k (UInt8.ofNat (48+m)))))) rfl (fun rec=>by
  rw [step_b2h (l:=st.heap.length+1) (z:=1) (s:=s.set k (UInt8.ofNat (48+m))) (by rw [hxl];simp only [↓reduceIte,go_sem,hl];first|done|rfl) (sG fnil)]) ?_
 refine go2 hl fnil ?_
 refine cR hl (c75 (s.set k (UInt8.ofNat (48+m))) _) ?_
 rintro v S1 ⟨b2,rfl,hbk,hsm,hx,hlo⟩
 rw [hr] at hbk ⊢
 simp only at hbk
 have q1:=hx.1
 simp only [lo_push,len_push,lo_setVar,len_setVar] at q1 hlo
 have hb2:=b2.h
 have k77:=fun st=>c77 b2 nilB hbk hsm (bk_small (b:=nilB) hbk (fun c hc=>by cases hc)) st
 rw [nilB_pv] at k77
 refine go2 (bw hl zf) (bw3 k77 c25 fnil) ?_
 exact fQ hl
end Go.Den.Ve
end

/- Part of the proofs of laws of the package version. Texts: VeH, VeI, VeJ, VeK. -/
import Derived.Test.YtehdcjbdhkkipaaGreatDoorEAn
set_option linter.unusedSimpArgs false
set_option linter.unusedVariables false
section
namespace Go.Den.Ve
def bookW:List UInt8:=[98,111,111,107]
def copyW:List UInt8:=[99,111,112,121]
def lineW:List UInt8:=[108,105,110,101]
def lostW:List UInt8:=[108,111,115,116]
def lnRow (x:LN):List UInt8:=if x.lost then lostW else rowL lineW x.words
def copyRows (c:List LN):List (List UInt8):=copyW::c.map lnRow
def rowsV (b:BK):List (List UInt8):=rowL bookW [b.words]::b.copies.flatMap copyRows
def textV (b:BK):List UInt8:=sealL (rowsV b) 197
def toldV (row w:List UInt8):Option (List Int):=if (splitL 32 [] row).headD []=w then numsL (splitL 32 [] row).tail else none
def addLn (cs:List (List LN)) (x:LN):List (List LN):=cs.dropLast++[cs.getLastD []++[x]]
def stepV (cs:List (List LN)) (r:List UInt8):Option (List (List LN)) :=
 if r=copyW then some (cs++[[]])
 else if cs=[] then none
 else if r=lostW then some (addLn cs ⟨true,[]⟩)
 else (toldV r lineW).map fun ns=>addLn cs ⟨false,ns⟩
def foldV:List (List LN)→List (List UInt8)→Option (List (List LN))
 | cs,[]=>some cs
 | cs,r::rs=>match stepV cs r with
  | some cs'=>foldV cs' rs
  | none=>none
def rowsPV (rows:List (List UInt8)):Option BK :=
 if 3≤rows.length then
  match toldV (rows.headD []) bookW with
  | some [n]=>(foldV [] ((rows.drop 1).take (rows.length - 3))).map fun cs=>⟨n,cs⟩
  | _=>none
 else none
def parsedV (s:List UInt8):Option BK:=(rowsPV (splitL 10 [] s)).bind fun b=>if textV b==s then some b else none
structure OkLn (x:LN):Prop where
 n:∀ n∈x.words,0≤n∧n<100
 l:x.lost=true→x.words=[]
structure OkT (b:BK):Prop where
 w:0≤b.words∧b.words<100
 all:∀ c∈b.copies,∀ x∈c,OkLn x
theorem OkB.t{b:BK}(h:OkB b):OkT b:=by
 refine⟨⟨by have:=h.w1;omega,by have:=h.w3;omega⟩,fun c hc x hx=>?_⟩
 obtain⟨h1,h2⟩:=(h.all c hc).2 x hx
 exact⟨fun n hn=>by have:=(lineB_iff.1 h1).2 n hn;have:=h.w3;omega,h2⟩
theorem rowL_pre(w:List UInt8)(ns:List Int):∃ t,rowL w ns=w++t:=by
 refine snoc_ind (P:=fun ns=>∃ t,rowL w ns=w++t) ⟨[],by simp[rowL]⟩ ?_ ns
 rintro ns n ⟨t,e⟩
 exact⟨t++32::itoaL n.toNat,by rw[rowL_snoc,e];simp⟩
theorem line_not(ns:List Int):rowL lineW ns≠copyW∧rowL lineW ns≠lostW:=by
 obtain⟨t,e⟩:=rowL_pre lineW ns
 rw[e]
 constructor
 ·intro h;simp[lineW,copyW] at h
 ·intro h;simp[lineW,lostW] at h
theorem toldV_row{w:List UInt8}(hw:(32:UInt8)∉w)(ns:List Int)(h:∀ n∈ns,0≤n∧n<100):toldV (rowL w ns) w=some ns:=by
 unfold toldV
 rw[rowL_split hw ns h,List.headD_cons,List.tail_cons,if_pos rfl]
 exact numsL_map ns h
theorem addLn_snoc(pre:List (List LN))(l:List LN)(x:LN):addLn (pre++[l]) x=pre++[l++[x]]:=by simp[addLn]
theorem stepV_line(pre:List (List LN))(l:List LN){x:LN}(hx:OkLn x):stepV (pre++[l]) (lnRow x)=some (pre++[l++[x]]):=by
 unfold stepV lnRow
 cases hl:x.lost
 ·have h1:=line_not x.words
  simp only[Bool.false_eq_true,if_false]
  rw[if_neg h1.1,if_neg (by simp),if_neg h1.2,toldV_row (by decide) _ hx.n,Option.map_some,addLn_snoc]
  congr 4
  cases x;simp only at hl;rw[hl]
 ·simp only[if_true]
  rw[if_neg (by decide),if_neg (by simp),addLn_snoc]
  have:=hx.l hl
  congr 4
  cases x;simp only at hl this;rw[hl,this]
theorem foldV_lines:∀ (c:List LN) (pre:List (List LN)) (l:List LN) (rest:List (List UInt8)),(∀ x∈c,OkLn x)→foldV (pre++[l]) (c.map lnRow++rest)=foldV (pre++[l++c]) rest
 | [],pre,l,rest,_=>by simp
 | x::c,pre,l,rest,h=>by
  rw[List.map_cons,List.cons_append,foldV,stepV_line pre l (h x (by simp))]
  show foldV (pre++[l++[x]]) (c.map lnRow++rest)=_
  rw[foldV_lines c pre (l++[x]) rest (fun y hy=>h y (by simp[hy]))]
  simp
theorem foldV_copies:∀ (cs:List (List LN)) (pre:List (List LN)),(∀ c∈cs,∀ x∈c,OkLn x)→foldV pre (cs.flatMap copyRows)=some (pre++cs)
 | [],pre,_=>by simp[foldV]
 | c::cs,pre,h=>by
  have e:(c::cs).flatMap copyRows=copyW::(c.map lnRow++cs.flatMap copyRows):=by simp[copyRows]
  have e2:stepV pre copyW=some (pre++[[]]):=by rw[stepV,if_pos rfl]
  rw[e,foldV,e2]
  show foldV (pre++[[]]) (c.map lnRow++cs.flatMap copyRows)=_
  rw[foldV_lines c pre [] _ (h c (by simp)),foldV_copies cs _ (fun d hd=>h d (by simp[hd]))]
  simp
theorem rowsV_no{b:BK}(hw:0≤b.words∧b.words<100)(h:∀ c∈b.copies,∀ x∈c,∀ n∈x.words,0≤n∧n<100):∀ r∈rowsV b,(10:UInt8)∉r:=fun r hr=>by
 simp only[rowsV,List.mem_cons,List.mem_flatMap,copyRows,List.mem_map] at hr
 rcases hr with rfl|⟨c,hc,rfl|⟨x,hx,rfl⟩⟩
 ·exact rowL_no (by decide) _ (by simp only[List.mem_cons,List.not_mem_nil,or_false];rintro n rfl;exact hw)
 ·decide
 ·unfold lnRow
  split
  ·decide
  ·exact rowL_no (by decide) _ (h c hc x hx)
theorem endV_no(rows:List (List UInt8)):(10:UInt8)∉endRow rows 197∧(endRow rows 197).length≤10:=by
 unfold endRow
 have h:allSum rows rows.length % 197<197:=Nat.mod_lt _ (by decide)
 generalize allSum rows rows.length % 197=s at h
 have hd:∀ n,n<100→(10:UInt8)∉itoaL n:=fun n hn hb=>by
  have:=itoaL_mem hn _ hb
  revert this;decide
 constructor
 ·simp only[List.mem_append,not_or]
  exact⟨⟨⟨by decide,hd _ (by omega)⟩,hd _ (by omega)⟩,hd _ (by omega)⟩
 ·have h1:=itoaL_len (s / 100)
  have h2:=itoaL_len (s / 10 % 10)
  have h3:=itoaL_len (s % 10)
  simp only[List.length_append,endW,List.length_cons,List.length_nil]
  omega
theorem textV_rows{b:BK}(hw:0≤b.words∧b.words<100)(h:∀ c∈b.copies,∀ x∈c,∀ n∈x.words,0≤n∧n<100):splitL 10 [] (textV b)=rowsV b++[endRow (rowsV b) 197]++[[]]:=by
 rw[textV,seal_join]
 refine splitL_join _ fun r hr=>?_
 rcases List.mem_append.1 hr with h1|h1
 ·exact rowsV_no hw h r h1
 ·rw[List.mem_singleton.1 h1];exact (endV_no _).1
theorem OkT.rows{b:BK}(h:OkT b):splitL 10 [] (textV b)=rowsV b++[endRow (rowsV b) 197]++[[]]:=textV_rows h.w fun c hc x hx=>(h.all c hc x hx).n
theorem parsed_textV{b:BK}(hb:OkT b):parsedV (textV b)=some b:=by
 have e1:rowsPV (splitL 10 [] (textV b))=some b:=by
  rw[hb.rows]
  unfold rowsPV
  have hl:(rowsV b++[endRow (rowsV b) 197]++[[]]).length=(b.copies.flatMap copyRows).length+3:=by simp[rowsV]
  have e2:(rowsV b++[endRow (rowsV b) 197]++[[]]).headD []=rowL bookW [b.words]:=rfl
  have e3:toldV (rowL bookW [b.words]) bookW=some [b.words]:=toldV_row (by decide) [b.words] (by simp only[List.mem_cons,List.not_mem_nil,or_false];rintro n rfl;exact hb.w)
  have e4:((rowsV b++[endRow (rowsV b) 197]++[[]]).drop 1).take ((b.copies.flatMap copyRows).length+3 - 3)=b.copies.flatMap copyRows:=by
   have:(rowsV b++[endRow (rowsV b) 197]++[[]]).drop 1=b.copies.flatMap copyRows++([endRow (rowsV b) 197]++[[]]):=by simp[rowsV]
   rw[this,Nat.add_sub_cancel,List.take_left']
   rfl
  rw[hl,if_pos (by omega),e2,e3,e4]
  show (foldV [] (b.copies.flatMap copyRows)).map _=_
  rw[foldV_copies _ _ hb.all]
  rfl
 unfold parsedV
 rw[e1]
 simp
theorem addLn_ok{cs:List (List LN)}(h:∀ c∈cs,∀ x∈c,OkLn x){y:LN}(hy:OkLn y):∀ c∈addLn cs y,∀ x∈c,OkLn x:=by
 intro c hc x hx
 unfold addLn at hc
 rcases List.mem_append.1 hc with hc|hc
 ·exact h c (List.dropLast_subset _ hc) x hx
 ·rw[List.mem_singleton.1 hc] at hx
  rcases List.mem_append.1 hx with hx|hx
  ·cases hcs:cs.getLast? with
   | none =>
    rw[List.getLastD_eq_getLast?,hcs] at hx
    cases hx
   | some d =>
    rw[List.getLastD_eq_getLast?,hcs] at hx
    exact h d (List.mem_of_getLast? hcs) x hx
  ·rw[List.mem_singleton.1 hx];exact hy
theorem toldV_ok{row w:List UInt8}{ns:List Int}(h:toldV row w=some ns):∀ n∈ns,0≤n∧n<100:=by
 unfold toldV at h
 split at h
 ·exact (numsL_ok h).2
 ·cases h
theorem stepV_ok{cs cs':List (List LN)}{r:List UInt8}(h:∀ c∈cs,∀ x∈c,OkLn x)(e:stepV cs r=some cs'):∀ c∈cs',∀ x∈c,OkLn x:=by
 unfold stepV at e
 split at e
 ·cases e
  intro c hc x hx
  rcases List.mem_append.1 hc with hc|hc
  ·exact h c hc x hx
  ·rw[List.mem_singleton.1 hc] at hx;cases hx
 ·split at e
  ·cases e
  ·split at e
   ·cases e
    exact addLn_ok h ⟨fun n hn=>(by cases hn),fun _=>rfl⟩
   ·obtain⟨ns,e1,rfl⟩:=Option.map_eq_some_iff.1 e
    exact addLn_ok h ⟨toldV_ok e1,fun hl=>(by cases hl)⟩
theorem foldV_ok:∀ {rs:List (List UInt8)} {cs cs':List (List LN)},(∀ c∈cs,∀ x∈c,OkLn x)→foldV cs rs=some cs'→∀ c∈cs',∀ x∈c,OkLn x
 | [],cs,cs',h,e=>by rw[foldV] at e;cases e;exact h
 | r::rs,cs,cs',h,e=>by
  rw[foldV] at e
  split at e
  ·rename_i d hd
   exact foldV_ok (stepV_ok h hd) e
  ·cases e
theorem parsedV_some{s:List UInt8}{b:BK}(h:parsedV s=some b):OkT b∧textV b=s:=by
 unfold parsedV at h
 obtain⟨c,h1,h2⟩:=Option.bind_eq_some_iff.1 h
 split at h2
 ·rename_i ht
  cases h2
  refine⟨?_,eq_of_beq ht⟩
  unfold rowsPV at h1
  split at h1
  ·split at h1
   ·rename_i n hn
    obtain⟨cs,h3,rfl⟩:=Option.map_eq_some_iff.1 h1
    exact⟨toldV_ok hn n (by simp),foldV_ok (fun c hc=>by cases hc) h3⟩
   ·cases h1
  ·cases h1
 ·cases h2
end Go.Den.Ve
end
section
namespace Go.Den.Ve
theorem joinL_sum:∀ rows:List (List UInt8),(joinL rows).length=(rows.map fun r=>r.length+1).sum
 | []=>rfl
 | r::rows=>by
  have e:joinL (r::rows)=r++10::joinL rows:=by simp[joinL]
  rw[e,List.map_cons,List.sum_cons,← joinL_sum rows];simp;omega
theorem itoaL_one{n:Nat}(h:n<10):(itoaL n).length=1:=by unfold itoaL;rw[if_pos h];rfl
theorem rowL_short(w:List UInt8)(ns:List Int):(∀ n∈ns,0≤n∧n<10)→(rowL w ns).length=w.length+2*ns.length:=by
 refine snoc_ind (P:=fun ns=>(∀ n∈ns,0≤n∧n<10)→(rowL w ns).length=w.length+2*ns.length) (fun _=>by simp[rowL]) ?_ ns
 intro ns n ih h
 have hn:=h n (by simp)
 rw[rowL_snoc,List.length_append,ih (fun x hx=>h x (by simp[hx])),List.length_cons,itoaL_one (by omega),List.length_append]
 simp;omega
theorem lnRow_len{w:Int}(hw:w≤3){x:LN}(h:lineB w x.words=true):(lnRow x).length≤12:=by
 unfold lnRow
 split
 ·decide
 ·obtain⟨h1,h2⟩:=lineB_iff.1 h
  rw[rowL_short _ _ (fun n hn=>by have:=h2 n hn;omega)]
  simp only[lineW,List.length_cons,List.length_nil];omega
theorem copyRows_sum{w:Int}(hw:w≤3):∀ (c:List LN),(∀ x∈c,lineB w x.words=true)→((c.map lnRow).map fun r=>r.length+1).sum≤13*c.length
 | [],_=>by simp
 | x::c,h=>by
  have h1:=copyRows_sum hw c fun y hy=>h y (by simp[hy])
  have h2:=lnRow_len hw (h x (by simp))
  simp only[List.map_cons,List.sum_cons,List.length_cons];omega
theorem copies_sum{w:Int}(hw:w≤3):∀ (cs:List (List LN)),(∀ c∈cs,c.length≤4∧∀ x∈c,lineB w x.words=true)→((cs.flatMap copyRows).map fun r=>r.length+1).sum≤57*cs.length
 | [],_=>by simp
 | c::cs,h=>by
  have h1:=copies_sum hw cs fun d hd=>h d (by simp[hd])
  have h2:=copyRows_sum hw c (h c (by simp)).2
  have h3:=(h c (by simp)).1
  rw[List.flatMap_cons,List.map_append,List.sum_append]
  simp only[copyRows,List.map_cons,List.sum_cons,List.length_cons,copyW,List.length_nil]
  simp only[List.map_map] at h2 ⊢
  omega
theorem copies_rows:∀ (cs:List (List LN)),(∀ c∈cs,c.length≤4)→(cs.flatMap copyRows).length≤5*cs.length
 | [],_=>by simp
 | c::cs,h=>by
  have h1:=copies_rows cs fun d hd=>h d (by simp[hd])
  have h3:=h c (by simp)
  rw[List.flatMap_cons,List.length_append]
  simp only[copyRows,List.length_cons,List.length_map]
  omega
theorem rowsV_len{b:BK}(hb:OkB b):∀ r∈rowsV b,r.length≤12:=fun r hr=>by
 have:=hb.w1
 have:=hb.w3
 simp only[rowsV,List.mem_cons,List.mem_flatMap,copyRows,List.mem_map] at hr
 rcases hr with rfl|⟨c,hc,rfl|⟨x,hx,rfl⟩⟩
 ·rw[rowL_short _ _ (by simp only[List.mem_cons,List.not_mem_nil,or_false];rintro n rfl;omega)];simp[bookW]
 ·decide
 ·exact lnRow_len hb.w3 ((hb.all c hc).2 x hx).1
theorem rowsV_many{b:BK}(hb:OkB b):(rowsV b).length≤26:=by
 have h1:=copies_rows b.copies fun c hc=>by have:=(hb.all c hc).1;have:=hb.l4;omega
 have:=hb.c5
 simp only[rowsV,List.length_cons];omega
theorem textV_len{b:BK}(hb:OkB b):(textV b).length≤400:=by
 have:=hb.w1
 have:=hb.w3
 have:=hb.c5
 have h1:=copies_sum hb.w3 b.copies fun c hc=>⟨by have:=(hb.all c hc).1;have:=hb.l4;omega,fun x hx=>((hb.all c hc).2 x hx).1⟩
 have h2:=(endV_no (rowsV b)).2
 have h3:(rowL bookW [b.words]).length=6:=by
  rw[rowL_short _ _ (by simp only[List.mem_cons,List.not_mem_nil,or_false];rintro n rfl;omega)];rfl
 rw[textV,seal_join,joinL_sum,List.map_append,List.sum_append]
 simp only[rowsV,List.map_cons,List.sum_cons,List.map_nil,List.sum_nil] at h1 h2 ⊢
 omega
theorem endV_inj{R Q:List (List UInt8)}(h:endRow R 197=endRow Q 197):totT 0 R % 197=totT 0 Q % 197:=by
 have key:∀ m:Fin 197,valL (itoaL (m.val / 100)++itoaL (m.val / 10 % 10)++itoaL (m.val % 10))=m.val:=by decide +kernel
 have e:∀ R:List (List UInt8),endRow R 197=endW++(itoaL (totT 0 R % 197 / 100)++itoaL (totT 0 R % 197 / 10 % 10)++itoaL (totT 0 R % 197 % 10)):=fun R=>by
  unfold endRow
  rw[allSum_T R R.length (Nat.le_refl _),List.take_length]
  simp
 rw[e,e] at h
 have h2:=List.append_cancel_left h
 have h3:=key ⟨totT 0 R % 197,Nat.mod_lt _ (by decide)⟩
 have h4:=key ⟨totT 0 Q % 197,Nat.mod_lt _ (by decide)⟩
 simp only at h3 h4
 rw[← h3,← h4,h2]
theorem weightV_no{a b e:Nat}(ha:a<14)(hb:b<28)(he:e<10)(h:e*a*b % 197=0):e=0∨a=0∨b=0:=by
 have key:∀ e:Fin 10,∀ a:Fin 14,∀ b:Fin 28,e.val*a.val*b.val % 197=0→e.val=0∨a.val=0∨b.val=0:=by decide +kernel
 exact key ⟨e,he⟩ ⟨a,ha⟩ ⟨b,hb⟩ h
theorem digitV_no{A x y a b:Nat}(ha:a<13)(hb:b<27)(hx:48≤x∧x≤57)(hy:48≤y∧y≤57)(h:(A+x*(a+1)*(b+1)) % 197=(A+y*(a+1)*(b+1)) % 197):x=y:=by
 have main:∀ x y:Nat,x≤y→y<x+10→(A+x*(a+1)*(b+1)) % 197=(A+y*(a+1)*(b+1)) % 197→x=y:=fun x y hxy hlt h=>by
  obtain⟨e,rfl⟩:∃ e,y=x+e:=⟨y - x,by omega⟩
  rw[Nat.add_mul,Nat.add_mul] at h
  have h2:e*(a+1)*(b+1) % 197=0:=by omega
  rcases weightV_no (by omega) (by omega) (by omega) h2 with h3|h3|h3 <;> omega
 by_cases hxy:x≤y
 ·exact main x y hxy (by omega) h
 ·exact (main y x (by omega) (by omega) h.symm).symm
theorem spoiltV{b:BK}(hb:OkB b){i:Nat}(hi:i<(textV b).length){d:UInt8}(hd:isDig d=true)(ho:isDig (textV b)[i]=true)(hne:(textV b)[i]≠d):parsedV ((textV b).set i d)=none:=by
 cases hp:parsedV ((textV b).set i d) with
 | none=>rfl
 | some c' =>
  exfalso
  obtain⟨hc',ht⟩:=parsedV_some hp
  have dig:∀ b:UInt8,isDig b=true→(48≤b.toNat∧b.toNat≤57)∧b≠10:=fun b hb=>by
   simp only[isDig,Bool.and_eq_true,decide_eq_true_eq] at hb
   refine⟨hb,?_⟩
   rintro rfl
   revert hb;decide
  obtain⟨R1,R2,u,v,e1,e2⟩:=splitL_set 10 d (dig d hd).2 (textV b) [] i hi (dig _ ho).2
  rw[hb.t.rows] at e1
  rw[← ht,hc'.rows] at e2
  generalize hxd:(textV b)[i]=x at e1 ho hne
  have hR2:R2=[]∨∃ S z,R2=S++[z]:=by
   cases hz:R2.reverse with
   | nil=>exact .inl (by simpa using hz)
   | cons z S=>exact .inr ⟨S.reverse,z,by have:=congrArg List.reverse hz;simpa using this⟩
  rcases hR2 with rfl|⟨S,z,rfl⟩
  ·have:=(app_last e1).2
   simp at this
  have f1:(rowsV b++[endRow (rowsV b) 197])++[[]]=(R1++(u++x::v)::S)++[z]:=by rw[e1];simp
  have f2:(rowsV c'++[endRow (rowsV c') 197])++[[]]=(R1++(u++d::v)::S)++[z]:=by rw[e2];simp
  have g1:=(app_last f1).1
  have g2:=(app_last f2).1
  have hS:S=[]∨∃ S2 z2,S=S2++[z2]:=by
   cases hz:S.reverse with
   | nil=>exact .inl (by simpa using hz)
   | cons z2 S2=>exact .inr ⟨S2.reverse,z2,by have:=congrArg List.reverse hz;simpa using this⟩
  rcases hS with rfl|⟨S2,z2,rfl⟩
  ·obtain⟨a1,a2⟩:=app_last g1
   obtain⟨b1,b2⟩:=app_last g2
   rw[a1] at a2
   rw[b1,a2] at b2
   have:=List.append_cancel_left b2
   simp only[List.cons.injEq] at this
   exact hne this.1
  ·have k1:rowsV b++[endRow (rowsV b) 197]=(R1++(u++x::v)::S2)++[z2]:=by rw[g1];simp
   have k2:rowsV c'++[endRow (rowsV c') 197]=(R1++(u++d::v)::S2)++[z2]:=by rw[g2];simp
   obtain⟨a1,a2⟩:=app_last k1
   obtain⟨b1,b2⟩:=app_last k2
   have hmod:=endV_inj (a2.trans b2.symm)
   have hrl:=rowsV_len hb (u++x::v) (by rw[a1];simp)
   have hrn:=rowsV_many hb
   rw[a1] at hrn
   simp only[List.length_append,List.length_cons] at hrl hrn
   rw[a1,b1,totT_app,totT_app] at hmod
   simp only[totT,rowT_app,rowT,Nat.zero_add] at hmod
   refine hne (UInt8.toNat_inj.1 (digitV_no (a:=u.length) (b:=R1.length) (A:=totT 0 R1+(rowT R1.length 0 u+rowT R1.length (u.length+1) v+totT (R1.length+1) S2)) (by omega) (by omega) (dig x ho).1 (dig d hd).1 ?_))
   rw[show totT 0 R1+(rowT R1.length 0 u+rowT R1.length (u.length+1) v+totT (R1.length+1) S2)+x.toNat*(u.length+1)*(R1.length+1)=totT 0 R1+(rowT R1.length 0 u+(x.toNat*(u.length+1)*(R1.length+1)+rowT R1.length (u.length+1) v)+totT (R1.length+1) S2) by omega,show totT 0 R1+(rowT R1.length 0 u+rowT R1.length (u.length+1) v+totT (R1.length+1) S2)+d.toNat*(u.length+1)*(R1.length+1)=totT 0 R1+(rowT R1.length 0 u+(d.toNat*(u.length+1)*(R1.length+1)+rowT R1.length (u.length+1) v)+totT (R1.length+1) S2) by omega]
   exact hmod
end Go.Den.Ve
end
section
namespace Go.Den.Ve
def headW (r:List UInt8):List UInt8:=(splitL 32 [] r).headD []
def rowOk (i:Nat) (r:List UInt8):Bool:=(wordsL r).all numB&&(decide (i≠0) || decide ((wordsL r).length=1))
def refStep (cs:List (List LN)) (r:List UInt8):List (List LN) :=
 if headW r=copyW then cs++[[]] else if cs=[] then cs else addLn cs ⟨decide (headW r=lostW),rowNs r⟩
def refB (rows:List (List UInt8)) (m:Nat):BK:=if m=0 then ⟨0,[]⟩ else ⟨(rowNs (rows.getD 0 [])).getD 0 0,((rows.take m).drop 1).foldl refStep []⟩
def refOkV (rows:List (List UInt8)) (m:Nat):Bool:=(List.range m).all fun i=>rowOk i (rows.getD i [])
def refV (s:List UInt8):Option BK:=if refOkV (splitL 10 [] s) ((splitL 10 [] s).length - 2)&&(textV (refB (splitL 10 [] s) ((splitL 10 [] s).length - 2))==s) then some (refB (splitL 10 [] s) ((splitL 10 [] s).length - 2)) else none
theorem rowL_words{w:List UInt8}(hw:(32:UInt8)∉w){ns:List Int}(h:∀ n∈ns,0≤n∧n<100):headW (rowL w ns)=w∧(wordsL (rowL w ns)).all numB=true∧(wordsL (rowL w ns)).length=ns.length∧rowNs (rowL w ns)=ns:=by
 unfold headW rowNs wordsL
 rw[rowL_split hw ns h]
 refine⟨rfl,?_,by simp,?_⟩
 ·rw[List.tail_cons,List.all_map,List.all_eq_true]
  intro n hn
  have:=h n hn
  exact (itoaL_num (n:=n.toNat) (by omega)).1
 ·rw[List.tail_cons,List.map_map]
  conv=>rhs;rw[← List.map_id ns]
  apply List.map_congr_left
  intro n hn
  have:=h n hn
  simp only[Function.comp_apply,(itoaL_num (n:=n.toNat) (by omega)).2,id]
  omega
theorem word_row{w:List UInt8}(hw:(32:UInt8)∉w):headW w=w∧wordsL w=[]∧rowNs w=[]:=by
 unfold headW rowNs wordsL
 rw[splitL_none 32 w [] hw]
 exact⟨rfl,rfl,rfl⟩
theorem lnRow_ok{x:LN}(hx:OkLn x):(wordsL (lnRow x)).all numB=true∧∀ cs,cs≠[]→refStep cs (lnRow x)=addLn cs x:=by
 unfold lnRow refStep
 cases hl:x.lost
 ·simp only[Bool.false_eq_true,if_false]
  obtain⟨h1,h2,_,h4⟩:=rowL_words (w:=lineW) (by decide) hx.n
  refine⟨h2,fun cs hc=>?_⟩
  rw[h1,if_neg (by decide),if_neg hc,h4]
  congr 1
  cases x;simp only at hl;rw[hl];rfl
 ·simp only[if_true]
  obtain⟨h1,h2,h3⟩:=word_row (w:=lostW) (by decide)
  refine⟨by rw[h2];rfl,fun cs hc=>?_⟩
  rw[h1,if_neg (by decide),if_neg hc,h3]
  have:=hx.l hl
  congr 1
  cases x;simp only at hl this;rw[hl,this];rfl
theorem refStep_lines:∀ (c:List LN) (pre:List (List LN)) (l:List LN),(∀ x∈c,OkLn x)→(c.map lnRow).foldl refStep (pre++[l])=pre++[l++c]
 | [],pre,l,_=>by simp
 | x::c,pre,l,h=>by
  rw[List.map_cons,List.foldl_cons,(lnRow_ok (h x (by simp))).2 _ (by simp),addLn_snoc,refStep_lines c pre (l++[x]) (fun y hy=>h y (by simp[hy]))]
  simp
theorem refStep_copies:∀ (cs:List (List LN)) (pre:List (List LN)),(∀ c∈cs,∀ x∈c,OkLn x)→(cs.flatMap copyRows).foldl refStep pre=pre++cs
 | [],pre,_=>by simp
 | c::cs,pre,h=>by
  have e:(c::cs).flatMap copyRows=copyW::(c.map lnRow++cs.flatMap copyRows):=by simp[copyRows]
  have e2:refStep pre copyW=pre++[[]]:=by rw[refStep,(word_row (w:=copyW) (by decide)).1,if_pos rfl]
  rw[e,List.foldl_cons,e2,List.foldl_append,refStep_lines c pre [] (h c (by simp)),refStep_copies cs _ (fun d hd=>h d (by simp[hd]))]
  simp
def clearLn (x:LN):LN:=if x.lost then ⟨true,[]⟩ else x
def clearB (b:BK):BK:=⟨b.words,b.copies.map fun c=>c.map clearLn⟩
theorem rowNs_ok{i:Nat}{r:List UInt8}(h:rowOk i r=true):∀ n∈rowNs r,0≤n∧n<100:=fun n hn=>by
 unfold rowOk at h
 rw[Bool.and_eq_true] at h
 obtain⟨w,hw,rfl⟩:=List.mem_map.1 hn
 have h1:=List.all_eq_true.1 h.1 w hw
 unfold numB at h1
 simp only[Bool.and_eq_true,decide_eq_true_eq] at h1
 have:=valL_bound h1.1 h1.2.1
 omega
theorem refStep_in:∀ (rs:List (List UInt8)) (cs:List (List LN)),(∀ r∈rs,∀ n∈rowNs r,0≤n∧n<100)→(∀ c∈cs,∀ x∈c,∀ n∈x.words,0≤n∧n<100)→∀ c∈rs.foldl refStep cs,∀ x∈c,∀ n∈x.words,0≤n∧n<100
 | [],cs,_,h=>h
 | r::rs,cs,hr,h=>by
  rw[List.foldl_cons]
  refine refStep_in rs _ (fun q hq=>hr q (by simp[hq])) ?_
  unfold refStep
  split
  ·intro c hc x hx
   rcases List.mem_append.1 hc with hc|hc
   ·exact h c hc x hx
   ·rw[List.mem_singleton.1 hc] at hx;cases hx
  ·split
   ·exact h
   ·intro c hc x hx
    unfold addLn at hc
    rcases List.mem_append.1 hc with hc|hc
    ·exact h c (List.dropLast_subset _ hc) x hx
    ·rw[List.mem_singleton.1 hc] at hx
     rcases List.mem_append.1 hx with hx|hx
     ·cases hcs:cs.getLast? with
      | none=>rw[List.getLastD_eq_getLast?,hcs] at hx;cases hx
      | some d=>rw[List.getLastD_eq_getLast?,hcs] at hx;exact h d (List.mem_of_getLast? hcs) x hx
     ·rw[List.mem_singleton.1 hx];exact hr r (by simp)
theorem refB_in{rows:List (List UInt8)}{m:Nat}(hm:m≤rows.length)(h:refOkV rows m=true):(0≤(refB rows m).words∧(refB rows m).words<100)∧∀ c∈(refB rows m).copies,∀ x∈c,∀ n∈x.words,0≤n∧n<100:=by
 unfold refOkV at h
 rw[List.all_eq_true] at h
 unfold refB
 split
 ·exact⟨⟨by decide,by decide⟩,fun c hc=>by cases hc⟩
 ·rename_i h0
  have hr:∀ r∈rows.take m,∀ n∈rowNs r,0≤n∧n<100:=fun r hr=>by
   obtain⟨i,hi,e⟩:=List.mem_iff_getElem.1 hr
   have hi':i<m:=by rw[List.length_take] at hi;omega
   have:=h i (List.mem_range.2 hi')
   have e2:rows.getD i []=r:=by
    rw[← e,List.getElem_take,List.getD_eq_getElem?_getD,List.getElem?_eq_getElem (by omega)];rfl
   rw[e2] at this
   exact rowNs_ok this
  refine⟨?_,refStep_in _ _ (fun r hr'=>hr r (List.drop_subset _ _ hr')) (fun c hc=>by cases hc)⟩
  have:=h 0 (List.mem_range.2 (by omega))
  exact getD_ok (rowNs_ok this) 0
def readV (s:List UInt8):BK×Int:=if s.length>400 then (⟨0,[]⟩,3) else match parsedV s with
 | some b=>if bookB b then (b,0) else (⟨0,[]⟩,2)
 | none=>(⟨0,[]⟩,4)
theorem read_textV{b:BK}(hb:OkB b):readV (textV b)=(b,0):=by
 have:=textV_len hb
 rw[readV,if_neg (by omega),parsed_textV hb.t]
 simp only
 rw[if_pos (bookB_iff.2 hb)]
end Go.Den.Ve
end
section
namespace Go.Den.Ve
structure S5 where
 kind:Nat
 word:Int
 di:Nat
 dj:Nat
 left:Nat
def kmv:Nat→List Int→List Int→Option (Nat×Nat×Int)
 | 0,a::_,b::_=>if a=b then some (1,1,a) else none
 | 1,a::_,b::_=>if a=b then none else some (1,1,b)
 | 2,_,b::_=>some (0,1,b)
 | 3,a::_,_=>some (1,0,a)
 | _,_,_=>none
def kst (l m:List Int) (k:Nat) (v:Nat×Nat×Int):S5:=⟨1+k,v.2.2,v.1,v.2.1,lev (l.drop v.1) (m.drop v.2.1)+if k=0 then 0 else 1⟩
def candT (k:Nat) (l m:List Int):List S5:=(List.range k).filterMap fun k=>(kmv k l m).map (kst l m k)
theorem candT_succ(k:Nat)(l m:List Int):candT (k+1) l m=candT k l m++((kmv k l m).map (kst l m k)).toList:=by
 unfold candT
 rw[List.range_succ,List.filterMap_append]
 cases h:kmv k l m <;> simp[h]
theorem candT_len(l m:List Int):∀ k,(candT k l m).length≤k
 | 0=>Nat.le_refl _
 | k+1=>by
  rw[candT_succ,List.length_append]
  have:=candT_len l m k
  cases kmv k l m <;> simp <;> omega
theorem kmv_le{k:Nat}{l m:List Int}{v:Nat×Nat×Int}(h:kmv k l m=some v):v.1≤l.length∧v.2.1≤m.length∧1≤v.1+v.2.1:=by
 unfold kmv at h
 split at h
 ·split at h
  ·cases h;simp
  ·cases h
 ·split at h
  ·cases h
  ·cases h;simp
 ·cases h;simp
 ·cases h;simp
 ·cases h
theorem cand_best(l m:List Int)(h:l≠[]∨m≠[]):∃ x,bestF (fun x y=>decide (x.left<y.left)) (candT 4 l m)=some x∧x∈candT 4 l m∧x.left=lev l m∧x.di≤l.length∧x.dj≤m.length∧1≤x.di+x.dj∧stepsL l m=((x.kind:Int),x.word)::stepsL (l.drop x.di) (m.drop x.dj):=by
 cases l with
 | nil=>cases m with
  | nil=>simp at h
  | cons b m =>
   refine⟨⟨3,b,0,1,lev [] m+1⟩,rfl,by simp[candT,kmv,kst,List.range_succ],by rw[lev_nil,lev_nil];rfl,by simp,by simp,by simp,?_⟩
   rw[stepsL];rfl
 | cons a l=>cases m with
  | nil =>
   refine⟨⟨4,a,1,0,lev l []+1⟩,rfl,by simp[candT,kmv,kst,List.range_succ],by rw[lev_cons_nil],by simp,by simp,by simp,?_⟩
   rw[stepsL];rfl
  | cons b m =>
   by_cases e:a=b
   ·have hc:candT 4 (a::l) (b::m)=[⟨1,a,1,1,lev l m⟩,⟨3,b,0,1,lev (a::l) m+1⟩,⟨4,a,1,0,lev l (b::m)+1⟩]:=by
     simp[candT,kmv,kst,List.range_succ,e]
    have h1:lev l m≤lev (a::l) m+1:=by
     have:=lev_tri l (a::l) m
     have h3:lev l (a::l)≤1:=by have:=lev_add a l l;rw[lev_self] at this;exact this
     omega
    have h2:lev l m≤lev l (b::m)+1:=by
     have:=lev_tri l (b::m) m
     have h3:lev (b::m) m≤1:=by have:=lev_drop b m m;rw[lev_self] at this;exact this
     omega
    refine⟨⟨1,a,1,1,lev l m⟩,?_,by rw[hc];simp,?_,by simp,by simp,by simp,?_⟩
    ·rw[hc]
     have d1:decide (lev (a::l) m+1<lev l m)=false:=by simp;omega
     have d2:decide (lev l (b::m)+1<lev l m)=false:=by simp;omega
     simp only[bestF,List.foldl_cons,List.foldl_nil,d1,d2,Bool.false_eq_true,if_false]
    ·subst e;rw[lev_keep]
    ·rw[stepsL,if_pos e];rfl
   ·have hc:candT 4 (a::l) (b::m)=[⟨2,b,1,1,lev l m+1⟩,⟨3,b,0,1,lev (a::l) m+1⟩,⟨4,a,1,0,lev l (b::m)+1⟩]:=by
     simp[candT,kmv,kst,List.range_succ,e]
    have ho:=lev_other e l m
    by_cases h1:lev l m≤lev (a::l) m∧lev l m≤lev l (b::m)
    ·refine⟨⟨2,b,1,1,lev l m+1⟩,?_,by rw[hc];simp,by show lev l m+1=_;omega,by simp,by simp,by simp,?_⟩
     ·rw[hc]
      have d1:decide (lev (a::l) m+1<lev l m+1)=false:=by simp;omega
      have d2:decide (lev l (b::m)+1<lev l m+1)=false:=by simp;omega
      simp only[bestF,List.foldl_cons,List.foldl_nil,d1,d2,Bool.false_eq_true,if_false]
     ·rw[stepsL,if_neg e,if_pos h1];rfl
    ·by_cases h2:lev (a::l) m≤lev l (b::m)
     ·refine⟨⟨3,b,0,1,lev (a::l) m+1⟩,?_,by rw[hc];simp,by show lev (a::l) m+1=_;omega,by simp,by simp,by simp,?_⟩
      ·rw[hc]
       have d1:decide (lev (a::l) m+1<lev l m+1)=true:=by simp;omega
       have d2:decide (lev l (b::m)+1<lev (a::l) m+1)=false:=by simp;omega
       simp only[bestF,List.foldl_cons,List.foldl_nil,d1,d2,Bool.false_eq_true,if_false,if_true]
      ·rw[stepsL,if_neg e,if_neg h1,if_pos h2];rfl
     ·refine⟨⟨4,a,1,0,lev l (b::m)+1⟩,?_,by rw[hc];simp,by show lev l (b::m)+1=_;omega,by simp,by simp,by simp,?_⟩
      ·rw[hc]
       have d2:decide (lev l (b::m)+1<lev l m+1)=true:=by simp;omega
       have d3:decide (lev l (b::m)+1<lev (a::l) m+1)=true:=by simp;omega
       simp only[bestF,List.foldl_cons,List.foldl_nil]
       by_cases hd:lev (a::l) m+1<lev l m+1
       ·simp only[decide_eq_true hd,d3,if_true]
       ·simp only[decide_eq_false hd,d2,Bool.false_eq_true,if_false,if_true]
      ·rw[stepsL,if_neg e,if_neg h1,if_neg h2];rfl
end Go.Den.Ve
end

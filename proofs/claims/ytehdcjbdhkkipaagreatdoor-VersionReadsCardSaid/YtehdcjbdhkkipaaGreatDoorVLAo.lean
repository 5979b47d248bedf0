/- Part of the proofs of laws of the package version. Texts: VeI, VeJ, VeK, VnFnZ. -/
import Derived.Test.YtehdcjbdhkkipaaGreatDoorVLAn
import Derived.Test.YtehdcjbdhkkipaaGreatDoorVLAa
set_option linter.unusedSimpArgs false
set_option linter.unusedVariables false
section
namespace Go.Den.Ve
theorem joinL_sum:∀ rows:List (List UInt8),(joinL rows).length=(rows.map fun r=>r.length+1).sum
 | []=>rfl
 | r::rows=>by
  have e:joinL (r::rows)=r++10::joinL rows:=by simp[joinL]
  rw[e,List.map_cons,List.sum_cons,← joinL_sum rows];simp;omega
theorem itoaL_one{n:Nat}(h:n<10):(itoaL n).length=1:=by unfold itoaL;rw[if_pos h];rfl
theorem rowL_short(w:List UInt8)(ns:List Int):(∀ n∈ns,0≤n∧n<10)→(rowL w ns).length=w.length+2*ns.length:=by
 refine snoc_ind (P:=fun ns=>(∀ n∈ns,0≤n∧n<10)→(rowL w ns).length=w.length+2*ns.length) (fun _=>by simp[rowL]) ?_ ns
 intro ns n ih h
 have hn:=h n (by simp)
 rw[rowL_snoc,List.length_append,ih (fun x hx=>h x (by simp[hx])),List.length_cons,itoaL_one (by omega),List.length_append]
 simp;omega
theorem lnRow_len{w:Int}(hw:w≤3){x:LN}(h:lineB w x.words=true):(lnRow x).length≤12:=by
 unfold lnRow
 split
 ·decide
 ·obtain⟨h1,h2⟩:=lineB_iff.1 h
  rw[rowL_short _ _ (fun n hn=>by have:=h2 n hn;omega)]
  simp only[lineW,List.length_cons,List.length_nil];omega
theorem copyRows_sum{w:Int}(hw:w≤3):∀ (c:List LN),(∀ x∈c,lineB w x.words=true)→((c.map lnRow).map fun r=>r.length+1).sum≤13*c.length
 | [],_=>by simp
 | x::c,h=>by
  have h1:=copyRows_sum hw c fun y hy=>h y (by simp[hy])
  have h2:=lnRow_len hw (h x (by simp))
  simp only[List.map_cons,List.sum_cons,List.length_cons];omega
theorem copies_sum{w:Int}(hw:w≤3):∀ (cs:List (List LN)),(∀ c∈cs,c.length≤4∧∀ x∈c,lineB w x.words=true)→((cs.flatMap copyRows).map fun r=>r.length+1).sum≤57*cs.length
 | [],_=>by simp
 | c::cs,h=>by
  have h1:=copies_sum hw cs fun d hd=>h d (by simp[hd])
  have h2:=copyRows_sum hw c (h c (by simp)).2
  have h3:=(h c (by simp)).1
  rw[List.flatMap_cons,List.map_append,List.sum_append]
  simp only[copyRows,List.map_cons,List.sum_cons,List.length_cons,copyW,List.length_nil]
  simp only[List.map_map] at h2 ⊢
  omega
theorem copies_rows:∀ (cs:List (List LN)),(∀ c∈cs,c.length≤4)→(cs.flatMap copyRows).length≤5*cs.length
 | [],_=>by simp
 | c::cs,h=>by
  have h1:=copies_rows cs fun d hd=>h d (by simp[hd])
  have h3:=h c (by simp)
  rw[List.flatMap_cons,List.length_append]
  simp only[copyRows,List.length_cons,List.length_map]
  omega
theorem rowsV_len{b:BK}(hb:OkB b):∀ r∈rowsV b,r.length≤12:=fun r hr=>by
 have:=hb.w1
 have:=hb.w3
 simp only[rowsV,List.mem_cons,List.mem_flatMap,copyRows,List.mem_map] at hr
 rcases hr with rfl|⟨c,hc,rfl|⟨x,hx,rfl⟩⟩
 ·rw[rowL_short _ _ (by simp only[List.mem_cons,List.not_mem_nil,or_false];rintro n rfl;omega)];simp[bookW]
 ·decide
 ·exact lnRow_len hb.w3 ((hb.all c hc).2 x hx).1
theorem rowsV_many{b:BK}(hb:OkB b):(rowsV b).length≤26:=by
 have h1:=copies_rows b.copies fun c hc=>by have:=(hb.all c hc).1;have:=hb.l4;omega
 have:=hb.c5
 simp only[rowsV,List.length_cons];omega
theorem textV_len{b:BK}(hb:OkB b):(textV b).length≤400:=by
 have:=hb.w1
 have:=hb.w3
 have:=hb.c5
 have h1:=copies_sum hb.w3 b.copies fun c hc=>⟨by have:=(hb.all c hc).1;have:=hb.l4;omega,fun x hx=>((hb.all c hc).2 x hx).1⟩
 have h2:=(endV_no (rowsV b)).2
 have h3:(rowL bookW [b.words]).length=6:=by
  rw[rowL_short _ _ (by simp only[List.mem_cons,List.not_mem_nil,or_false];rintro n rfl;omega)];rfl
 rw[textV,seal_join,joinL_sum,List.map_append,List.sum_append]
 simp only[rowsV,List.map_cons,List.sum_cons,List.map_nil,List.sum_nil] at h1 h2 ⊢
 omega
end Go.Den.Ve
end
section
namespace Go.Den.Ve
def headW (r:List UInt8):List UInt8:=(splitL 32 [] r).headD []
def rowOk (i:Nat) (r:List UInt8):Bool:=(wordsL r).all numB&&(decide (i≠0) || decide ((wordsL r).length=1))
def refStep (cs:List (List LN)) (r:List UInt8):List (List LN) :=
 if headW r=copyW then cs++[[]] else if cs=[] then cs else addLn cs ⟨decide (headW r=lostW),rowNs r⟩
def refB (rows:List (List UInt8)) (m:Nat):BK:=if m=0 then ⟨0,[]⟩ else ⟨(rowNs (rows.getD 0 [])).getD 0 0,((rows.take m).drop 1).foldl refStep []⟩
def refOkV (rows:List (List UInt8)) (m:Nat):Bool:=(List.range m).all fun i=>rowOk i (rows.getD i [])
def refV (s:List UInt8):Option BK:=if refOkV (splitL 10 [] s) ((splitL 10 [] s).length - 2)&&(textV (refB (splitL 10 [] s) ((splitL 10 [] s).length - 2))==s) then some (refB (splitL 10 [] s) ((splitL 10 [] s).length - 2)) else none
theorem rowL_words{w:List UInt8}(hw:(32:UInt8)∉w){ns:List Int}(h:∀ n∈ns,0≤n∧n<100):headW (rowL w ns)=w∧(wordsL (rowL w ns)).all numB=true∧(wordsL (rowL w ns)).length=ns.length∧rowNs (rowL w ns)=ns:=by
 unfold headW rowNs wordsL
 rw[rowL_split hw ns h]
 refine⟨rfl,?_,by simp,?_⟩
 ·rw[List.tail_cons,List.all_map,List.all_eq_true]
  intro n hn
  have:=h n hn
  exact (itoaL_num (n:=n.toNat) (by omega)).1
 ·rw[List.tail_cons,List.map_map]
  conv=>rhs;rw[← List.map_id ns]
  apply List.map_congr_left
  intro n hn
  have:=h n hn
  simp only[Function.comp_apply,(itoaL_num (n:=n.toNat) (by omega)).2,id]
  omega
theorem word_row{w:List UInt8}(hw:(32:UInt8)∉w):headW w=w∧wordsL w=[]∧rowNs w=[]:=by
 unfold headW rowNs wordsL
 rw[splitL_none 32 w [] hw]
 exact⟨rfl,rfl,rfl⟩
theorem lnRow_ok{x:LN}(hx:OkLn x):(wordsL (lnRow x)).all numB=true∧∀ cs,cs≠[]→refStep cs (lnRow x)=addLn cs x:=by
 unfold lnRow refStep
 cases hl:x.lost
 ·simp only[Bool.false_eq_true,if_false]
  obtain⟨h1,h2,_,h4⟩:=rowL_words (w:=lineW) (by decide) hx.n
  refine⟨h2,fun cs hc=>?_⟩
  rw[h1,if_neg (by decide),if_neg hc,h4]
  congr 1
  cases x;simp only at hl;rw[hl];rfl
 ·simp only[if_true]
  obtain⟨h1,h2,h3⟩:=word_row (w:=lostW) (by decide)
  refine⟨by rw[h2];rfl,fun cs hc=>?_⟩
  rw[h1,if_neg (by decide),if_neg hc,h3]
  have:=hx.l hl
  congr 1
  cases x;simp only at hl this;rw[hl,this];rfl
theorem refStep_lines:∀ (c:List LN) (pre:List (List LN)) (l:List LN),(∀ x∈c,OkLn x)→(c.map lnRow).foldl refStep (pre++[l])=pre++[l++c]
 | [],pre,l,_=>by simp
 | x::c,pre,l,h=>by
  rw[List.map_cons,List.foldl_cons,(lnRow_ok (h x (by simp))).2 _ (by simp),addLn_snoc,refStep_lines c pre (l++[x]) (fun y hy=>h y (by simp[hy]))]
  simp
theorem refStep_copies:∀ (cs:List (List LN)) (pre:List (List LN)),(∀ c∈cs,∀ x∈c,OkLn x)→(cs.flatMap copyRows).foldl refStep pre=pre++cs
 | [],pre,_=>by simp
 | c::cs,pre,h=>by
  have e:(c::cs).flatMap copyRows=copyW::(c.map lnRow++cs.flatMap copyRows):=by simp[copyRows]
  have e2:refStep pre copyW=pre++[[]]:=by rw[refStep,(word_row (w:=copyW) (by decide)).1,if_pos rfl]
  rw[e,List.foldl_cons,e2,List.foldl_append,refStep_lines c pre [] (h c (by simp)),refStep_copies cs _ (fun d hd=>h d (by simp[hd]))]
  simp
theorem rowsV_ok{b:BK}(hb:OkT b)(i:Nat)(hi:i<(rowsV b).length):rowOk i (rowsV b)[i]=true:=by
 have hall:∀ r∈rowsV b,(wordsL r).all numB=true:=fun r hr=>by
  simp only[rowsV,List.mem_cons,List.mem_flatMap,copyRows,List.mem_map] at hr
  rcases hr with rfl|⟨c,hc,rfl|⟨x,hx,rfl⟩⟩
  ·exact (rowL_words (w:=bookW) (by decide) (ns:=[b.words]) (by simp only[List.mem_cons,List.not_mem_nil,or_false];rintro n rfl;exact hb.w)).2.1
  ·rw[(word_row (w:=copyW) (by decide)).2.1];rfl
  ·exact (lnRow_ok (hb.all c hc x hx)).1
 unfold rowOk
 rw[hall _ (List.getElem_mem hi),Bool.true_and,Bool.or_eq_true,decide_eq_true_eq,decide_eq_true_eq]
 cases i with
 | zero=>exact .inr (rowL_words (w:=bookW) (by decide) (ns:=[b.words]) (by simp only[List.mem_cons,List.not_mem_nil,or_false];rintro n rfl;exact hb.w)).2.2.1
 | succ i=>exact .inl (by omega)
theorem refV_text{b:BK}(hb:OkT b):refV (textV b)=some b:=by
 have hm:(splitL 10 [] (textV b)).length - 2=(rowsV b).length:=by rw[hb.rows];simp
 have h1:refOkV (splitL 10 [] (textV b)) ((splitL 10 [] (textV b)).length - 2)=true:=by
  rw[hm]
  unfold refOkV
  rw[List.all_eq_true]
  intro i hi
  rw[List.mem_range] at hi
  have:(splitL 10 [] (textV b)).getD i []=(rowsV b)[i]:=by
   rw[hb.rows,List.append_assoc,List.getD_eq_getElem?_getD,List.getElem?_append_left hi,List.getElem?_eq_getElem hi];rfl
  rw[this];exact rowsV_ok hb i hi
 have h2:refB (splitL 10 [] (textV b)) ((splitL 10 [] (textV b)).length - 2)=b:=by
  rw[hm]
  unfold refB
  rw[if_neg (by simp[rowsV])]
  have e1:(splitL 10 [] (textV b)).getD 0 []=rowL bookW [b.words]:=by rw[hb.rows];rfl
  have e2:((splitL 10 [] (textV b)).take (rowsV b).length).drop 1=b.copies.flatMap copyRows:=by
   rw[hb.rows,List.append_assoc,List.take_left']
   ·rfl
   ·rfl
  rw[e1,e2,refStep_copies _ _ hb.all,(rowL_words (w:=bookW) (by decide) (ns:=[b.words]) (by simp only[List.mem_cons,List.not_mem_nil,or_false];rintro n rfl;exact hb.w)).2.2.2]
  rfl
 unfold refV
 rw[h1,h2]
 simp
def clearLn (x:LN):LN:=if x.lost then ⟨true,[]⟩ else x
def clearB (b:BK):BK:=⟨b.words,b.copies.map fun c=>c.map clearLn⟩
theorem clear_row(x:LN):lnRow (clearLn x)=lnRow x:=by
 unfold clearLn
 split
 ·rename_i h;simp[lnRow,h]
 ·rfl
theorem clear_rows(b:BK):rowsV (clearB b)=rowsV b:=by
 unfold rowsV clearB
 congr 1
 simp only[List.flatMap_map]
 congr 1
 funext c
 simp only[copyRows,List.map_map]
 congr 1
 apply List.map_congr_left
 intro x _
 exact clear_row x
theorem rowNs_ok{i:Nat}{r:List UInt8}(h:rowOk i r=true):∀ n∈rowNs r,0≤n∧n<100:=fun n hn=>by
 unfold rowOk at h
 rw[Bool.and_eq_true] at h
 obtain⟨w,hw,rfl⟩:=List.mem_map.1 hn
 have h1:=List.all_eq_true.1 h.1 w hw
 unfold numB at h1
 simp only[Bool.and_eq_true,decide_eq_true_eq] at h1
 have:=valL_bound h1.1 h1.2.1
 omega
theorem refStep_in:∀ (rs:List (List UInt8)) (cs:List (List LN)),(∀ r∈rs,∀ n∈rowNs r,0≤n∧n<100)→(∀ c∈cs,∀ x∈c,∀ n∈x.words,0≤n∧n<100)→∀ c∈rs.foldl refStep cs,∀ x∈c,∀ n∈x.words,0≤n∧n<100
 | [],cs,_,h=>h
 | r::rs,cs,hr,h=>by
  rw[List.foldl_cons]
  refine refStep_in rs _ (fun q hq=>hr q (by simp[hq])) ?_
  unfold refStep
  split
  ·intro c hc x hx
   rcases List.mem_append.1 hc with hc|hc
   ·exact h c hc x hx
   ·rw[List.mem_singleton.1 hc] at hx;cases hx
  ·split
   ·exact h
   ·intro c hc x hx
    unfold addLn at hc
    rcases List.mem_append.1 hc with hc|hc
    ·exact h c (List.dropLast_subset _ hc) x hx
    ·rw[List.mem_singleton.1 hc] at hx
     rcases List.mem_append.1 hx with hx|hx
     ·cases hcs:cs.getLast? with
      | none=>rw[List.getLastD_eq_getLast?,hcs] at hx;cases hx
      | some d=>rw[List.getLastD_eq_getLast?,hcs] at hx;exact h d (List.mem_of_getLast? hcs) x hx
     ·rw[List.mem_singleton.1 hx];exact hr r (by simp)
theorem refB_in{rows:List (List UInt8)}{m:Nat}(hm:m≤rows.length)(h:refOkV rows m=true):(0≤(refB rows m).words∧(refB rows m).words<100)∧∀ c∈(refB rows m).copies,∀ x∈c,∀ n∈x.words,0≤n∧n<100:=by
 unfold refOkV at h
 rw[List.all_eq_true] at h
 unfold refB
 split
 ·exact⟨⟨by decide,by decide⟩,fun c hc=>by cases hc⟩
 ·rename_i h0
  have hr:∀ r∈rows.take m,∀ n∈rowNs r,0≤n∧n<100:=fun r hr=>by
   obtain⟨i,hi,e⟩:=List.mem_iff_getElem.1 hr
   have hi':i<m:=by rw[List.length_take] at hi;omega
   have:=h i (List.mem_range.2 hi')
   have e2:rows.getD i []=r:=by
    rw[← e,List.getElem_take,List.getD_eq_getElem?_getD,List.getElem?_eq_getElem (by omega)];rfl
   rw[e2] at this
   exact rowNs_ok this
  refine⟨?_,refStep_in _ _ (fun r hr'=>hr r (List.drop_subset _ _ hr')) (fun c hc=>by cases hc)⟩
  have:=h 0 (List.mem_range.2 (by omega))
  exact getD_ok (rowNs_ok this) 0
theorem refV_eq(s:List UInt8):refV s=parsedV s:=by
 cases hp:parsedV s with
 | some b =>
  obtain⟨hb,rfl⟩:=parsedV_some hp
  exact refV_text hb
 | none =>
  unfold refV
  split
  ·rename_i h
   exfalso
   rw[Bool.and_eq_true] at h
   obtain⟨h1,h2⟩:=h
   have h3:=refB_in (Nat.sub_le _ _) h1
   have h4:=eq_of_beq h2
   generalize refB (splitL 10 [] s) ((splitL 10 [] s).length - 2)=b at h3 h4
   have hc:OkT (clearB b):=⟨h3.1,fun c hc x hx=>by
    obtain⟨d,hd,rfl⟩:=List.mem_map.1 hc
    obtain⟨y,hy,rfl⟩:=List.mem_map.1 hx
    unfold clearLn
    split
    ·exact⟨fun n hn=>(by cases hn),fun _=>rfl⟩
    ·rename_i hl
     exact⟨h3.2 d hd y hy,fun hl2=>absurd hl2 hl⟩⟩
   have h5:=parsed_textV hc
   have h6:textV (clearB b)=s:=by rw[← h4];unfold textV;rw[clear_rows]
   rw[h6,hp] at h5
   cases h5
  ·rfl
def readV (s:List UInt8):BK×Int:=if s.length>400 then (⟨0,[]⟩,3) else match parsedV s with
 | some b=>if bookB b then (b,0) else (⟨0,[]⟩,2)
 | none=>(⟨0,[]⟩,4)
theorem read_textV{b:BK}(hb:OkB b):readV (textV b)=(b,0):=by
 have:=textV_len hb
 rw[readV,if_neg (by omega),parsed_textV hb.t]
 simp only
 rw[if_pos (bookB_iff.2 hb)]
end Go.Den.Ve
end
section
namespace Go.Den.Ve
structure S5 where
 kind:Nat
 word:Int
 di:Nat
 dj:Nat
 left:Nat
def kmv:Nat→List Int→List Int→Option (Nat×Nat×Int)
 | 0,a::_,b::_=>if a=b then some (1,1,a) else none
 | 1,a::_,b::_=>if a=b then none else some (1,1,b)
 | 2,_,b::_=>some (0,1,b)
 | 3,a::_,_=>some (1,0,a)
 | _,_,_=>none
def kst (l m:List Int) (k:Nat) (v:Nat×Nat×Int):S5:=⟨1+k,v.2.2,v.1,v.2.1,lev (l.drop v.1) (m.drop v.2.1)+if k=0 then 0 else 1⟩
def candT (k:Nat) (l m:List Int):List S5:=(List.range k).filterMap fun k=>(kmv k l m).map (kst l m k)
theorem candT_succ(k:Nat)(l m:List Int):candT (k+1) l m=candT k l m++((kmv k l m).map (kst l m k)).toList:=by
 unfold candT
 rw[List.range_succ,List.filterMap_append]
 cases h:kmv k l m <;> simp[h]
theorem candT_len(l m:List Int):∀ k,(candT k l m).length≤k
 | 0=>Nat.le_refl _
 | k+1=>by
  rw[candT_succ,List.length_append]
  have:=candT_len l m k
  cases kmv k l m <;> simp <;> omega
theorem kmv_le{k:Nat}{l m:List Int}{v:Nat×Nat×Int}(h:kmv k l m=some v):v.1≤l.length∧v.2.1≤m.length∧1≤v.1+v.2.1:=by
 unfold kmv at h
 split at h
 ·split at h
  ·cases h;simp
  ·cases h
 ·split at h
  ·cases h
  ·cases h;simp
 ·cases h;simp
 ·cases h;simp
 ·cases h
theorem cand_best(l m:List Int)(h:l≠[]∨m≠[]):∃ x,bestF (fun x y=>decide (x.left<y.left)) (candT 4 l m)=some x∧x∈candT 4 l m∧x.left=lev l m∧x.di≤l.length∧x.dj≤m.length∧1≤x.di+x.dj∧stepsL l m=((x.kind:Int),x.word)::stepsL (l.drop x.di) (m.drop x.dj):=by
 cases l with
 | nil=>cases m with
  | nil=>simp at h
  | cons b m =>
   refine⟨⟨3,b,0,1,lev [] m+1⟩,rfl,by simp[candT,kmv,kst,List.range_succ],by rw[lev_nil,lev_nil];rfl,by simp,by simp,by simp,?_⟩
   rw[stepsL];rfl
 | cons a l=>cases m with
  | nil =>
   refine⟨⟨4,a,1,0,lev l []+1⟩,rfl,by simp[candT,kmv,kst,List.range_succ],by rw[lev_cons_nil],by simp,by simp,by simp,?_⟩
   rw[stepsL];rfl
  | cons b m =>
   by_cases e:a=b
   ·have hc:candT 4 (a::l) (b::m)=[⟨1,a,1,1,lev l m⟩,⟨3,b,0,1,lev (a::l) m+1⟩,⟨4,a,1,0,lev l (b::m)+1⟩]:=by
     simp[candT,kmv,kst,List.range_succ,e]
    have h1:lev l m≤lev (a::l) m+1:=by
     have:=lev_tri l (a::l) m
     have h3:lev l (a::l)≤1:=by have:=lev_add a l l;rw[lev_self] at this;exact this
     omega
    have h2:lev l m≤lev l (b::m)+1:=by
     have:=lev_tri l (b::m) m
     have h3:lev (b::m) m≤1:=by have:=lev_drop b m m;rw[lev_self] at this;exact this
     omega
    refine⟨⟨1,a,1,1,lev l m⟩,?_,by rw[hc];simp,?_,by simp,by simp,by simp,?_⟩
    ·rw[hc]
     have d1:decide (lev (a::l) m+1<lev l m)=false:=by simp;omega
     have d2:decide (lev l (b::m)+1<lev l m)=false:=by simp;omega
     simp only[bestF,List.foldl_cons,List.foldl_nil,d1,d2,Bool.false_eq_true,if_false]
    ·subst e;rw[lev_keep]
    ·rw[stepsL,if_pos e];rfl
   ·have hc:candT 4 (a::l) (b::m)=[⟨2,b,1,1,lev l m+1⟩,⟨3,b,0,1,lev (a::l) m+1⟩,⟨4,a,1,0,lev l (b::m)+1⟩]:=by
     simp[candT,kmv,kst,List.range_succ,e]
    have ho:=lev_other e l m
    by_cases h1:lev l m≤lev (a::l) m∧lev l m≤lev l (b::m)
    ·refine⟨⟨2,b,1,1,lev l m+1⟩,?_,by rw[hc];simp,by show lev l m+1=_;omega,by simp,by simp,by simp,?_⟩
     ·rw[hc]
      have d1:decide (lev (a::l) m+1<lev l m+1)=false:=by simp;omega
      have d2:decide (lev l (b::m)+1<lev l m+1)=false:=by simp;omega
      simp only[bestF,List.foldl_cons,List.foldl_nil,d1,d2,Bool.false_eq_true,if_false]
     ·rw[stepsL,if_neg e,if_pos h1];rfl
    ·by_cases h2:lev (a::l) m≤lev l (b::m)
     ·refine⟨⟨3,b,0,1,lev (a::l) m+1⟩,?_,by rw[hc];simp,by show lev (a::l) m+1=_;omega,by simp,by simp,by simp,?_⟩
      ·rw[hc]
       have d1:decide (lev (a::l) m+1<lev l m+1)=true:=by simp;omega
       have d2:decide (lev l (b::m)+1<lev (a::l) m+1)=false:=by simp;omega
       simp only[bestF,List.foldl_cons,List.foldl_nil,d1,d2,Bool.false_eq_true,if_false,if_true]
      ·rw[stepsL,if_neg e,if_neg h1,if_pos h2];rfl
     ·refine⟨⟨4,a,1,0,lev l (b::m)+1⟩,?_,by rw[hc];simp,by show lev l (b::m)+1=_;omega,by simp,by simp,by simp,?_⟩
      ·rw[hc]
       have d2:decide (lev l (b::m)+1<lev l m+1)=true:=by simp;omega
       have d3:decide (lev l (b::m)+1<lev (a::l) m+1)=true:=by simp;omega
       simp only[bestF,List.foldl_cons,List.foldl_nil]
       by_cases hd:lev (a::l) m+1<lev l m+1
       ·simp only[decide_eq_true hd,d3,if_true]
       ·simp only[decide_eq_false hd,d2,Bool.false_eq_true,if_false,if_true]
      ·rw[stepsL,if_neg e,if_neg h1,if_neg h2];rfl
end Go.Den.Ve
end
section
namespace Go.Den.Z
abbrev a (xa xb) := (⟨.val (.t xa),some xb,none⟩ : DOper)
abbrev b (xa xb xc) := (⟨.load false xa (.t xb),some xc,none⟩ : DOper)
abbrev c (xa xb) := (⟨.val (.c (.int .i64 xa)),some xb,none⟩ : DOper)
abbrev d (xa xb xc) := (⟨.binI .add (.t xa) (.c (.int .i64 xb)),some xc,none⟩ : DOper)
abbrev e (xa xb xc) := (⟨.fieldAddr xa (.t xb),some xc,none⟩ : DOper)
abbrev f (xa xb xc) := (⟨.call (.c (.func xa [] [])) [.t xb],some xc,none⟩ : DOper)
abbrev g (xa xb xc) := (⟨.load true xa (.t xb),some xc,none⟩ : DOper)
abbrev h (xa xb xc xd) := (⟨.indexAddr xa (.t xb) (.t xc),some xd,none⟩ : DOper)
abbrev i (xa xb xc) := (⟨.store xa (.t xb) (.t xc),none,none⟩ : DOper)
abbrev j (xa) := (⟨.val (.c (.bool false)),some xa,none⟩ : DOper)
abbrev k (xa xb xc xd) := (⟨.call (.c (.func xa [] [])) [(.t xb),(.t xc)],some xd,none⟩ : DOper)
abbrev l (xa xb) := (⟨.len (.t xa),some xb,none⟩ : DOper)
abbrev m (xa xb xc) := (⟨.binI .lss (.t xa) (.t xb),some xc,none⟩ : DOper)
abbrev n (xa xb xc) := (⟨.pick (.t xa) (.c (.bool true)) (.t xb),some xc,none⟩ : DOper)
abbrev o (xa) := (⟨.val (.c .nilslice),some xa,none⟩ : DOper)
abbrev p (xa xb xc) := (⟨.extract (.t xa) xb,some xc,none⟩ : DOper)
abbrev q (xa xb) := (⟨.box (.t xa),some xb,none⟩ : DOper)
abbrev r (xa xb xc) := (⟨.val (.t xa),some xb,some (xc,false)⟩ : DOper)
abbrev s (xa xb xc xd) := (⟨.append false xa (.t xb) (.t xc),some xd,none⟩ : DOper)
abbrev t (xa xb xc) := (⟨.pick (.t xa) (.t xb) (.c (.bool false)),some xc,none⟩ : DOper)
abbrev u (xa xb xc xd) := (⟨.load false xa (.t xb),some xc,some (xd,false)⟩ : DOper)
abbrev v (xa xb xc xd xe) := (⟨.call (.c (.func xa [] [])) [(.t xb),(.t xc)],some xd,some (xe,false)⟩ : DOper)
abbrev w (xa xb xc xd) := (⟨.indexAddr xa (.t xb) (.c (.int .i64 xc)),some xd,none⟩ : DOper)
abbrev x (xa xb) := (⟨.not (.t xa),some xb,none⟩ : DOper)
abbrev y (xa xb xc xd) := (⟨.binI .neq (.t xa) (.c (.int .i64 xb)),some xc,some (xd,false)⟩ : DOper)
abbrev z (xa xb xc) := (⟨.val (.t xa),some xb,some (xc,true)⟩ : DOper)
abbrev A (xa xb xc xd xe xf xg) := (⟨.buildSlice xa xb [(.int .i64 xc)] [(xd,xe,(.t xf))],some xg,none⟩ : DOper)
abbrev B (xa xb xc xd) := (⟨.fieldAddr xa (.t xb),some xc,some (xd,false)⟩ : DOper)
abbrev C (xa xb xc xd xe xf) := (⟨.alloc [(.int .i64 xa),(.int .i64 xb),(.int .i64 xc),(.int .i64 xd),(.int .i64 xe)],some xf,none⟩ : DOper)
abbrev D (xa xb) := (⟨.call (.c (.func xa [] [])) [],some xb,none⟩ : DOper)
abbrev E (xa xb xc xd xe xf xg xh xi xj xk) := (⟨.buildSlice xa xb [(.int .i64 xc),(.int .i64 xd)] [(xe,xf,(.c (.int .i64 xg))),(xh,xi,(.c (.int .i64 xj)))],some xk,none⟩ : DOper)
abbrev F (xa xb xc) := (⟨.not (.t xa),some xb,some (xc,false)⟩ : DOper)
abbrev G (xa xb xc xd) := (⟨.call (.c (.func xa [] [])) [(.t xb),(.c (.int .i64 xc))],some xd,none⟩ : DOper)
abbrev H (xa xb xc) := (⟨.binI .sub (.t xa) (.c (.int .i64 xb)),some xc,none⟩ : DOper)
abbrev I (xa xb xc xd) := (⟨.load true xa (.t xb),some xc,some (xd,false)⟩ : DOper)
abbrev J (xa xb xc xd) := (⟨.load false xa (.t xb),some xc,some (xd,true)⟩ : DOper)
abbrev K (xa xb) := (⟨.alloc [(.int .i64 xa),.nilslice],some xb,none⟩ : DOper)
abbrev L (xa) := (⟨.alloc [(.bool false),.nilslice],some xa,none⟩ : DOper)
abbrev M (xa xb xc) := (⟨.binI .eql (.t xa) (.t xb),some xc,none⟩ : DOper)
abbrev N (xa) := (⟨.val (.c (.bool true)),some xa,none⟩ : DOper)
abbrev O (xa xb xc xd xe xf xg xh xi) := (⟨.build [(.int .i64 xa),.nilslice,(.int .i64 xb)] [(xc,xd,(.t xe)),(xf,xg,(.t xh))],some xi,none⟩ : DOper)
abbrev P (xa xb xc xd xe) := (⟨.call (.c (.func xa [] [])) [(.t xb),(.t xc)],some xd,some (xe,true)⟩ : DOper)
abbrev Q (xa xb xc) := (⟨.binI .lss (.t xa) (.c (.int .i64 xb)),some xc,none⟩ : DOper)
abbrev R (xa xb xc) := (⟨.binI .geq (.t xa) (.c (.int .i64 xb)),some xc,none⟩ : DOper)
abbrev S (xa xb xc) := (⟨.alloc [(.int .i64 xa),(.int .i64 xb)],some xc,none⟩ : DOper)
abbrev T (xa xb xc) := (⟨.binS .add (.t xa) (.t xb),some xc,none⟩ : DOper)
abbrev U (xa xb xc) := (⟨.binI .neq (.t xa) (.t xb),some xc,none⟩ : DOper)
abbrev V (xa xb xc xd xe) := (⟨.indexAddr xa (.t xb) (.t xc),some xd,some (xe,false)⟩ : DOper)
abbrev W (xa xb xc xd xe xf xg xh xi) := (⟨.build [(.int .i64 xa),(.int .i64 xb)] [(xc,xd,(.t xe)),(xf,xg,(.t xh))],some xi,none⟩ : DOper)
abbrev X (xa xb xc xd) := (⟨.fieldAddr xa (.t xb),some xc,some (xd,true)⟩ : DOper)
abbrev Y (xa xb xc) := (⟨.binI .rem (.t xa) (.c (.int .i64 xb)),some xc,none⟩ : DOper)
abbrev Z (xa xb xc) := (⟨.binI .gtr (.t xa) (.c (.int .i64 xb)),some xc,none⟩ : DOper)
abbrev a0 (xa xb xc xd xe) := (⟨.alloc [(.int .i64 xa),(.int .i64 xb),(.int .i64 xc),(.int .i64 xd)],some xe,none⟩ : DOper)
abbrev a1 (xa xb xc xd xe xf) := (⟨.buildSlice xa xb [.nilslice] [(xc,xd,(.t xe))],some xf,none⟩ : DOper)
abbrev a2 (xa xb xc xd xe xf xg xh xi xj) := (⟨.build [(.int .i64 xa),(.int .i64 xb)] [(xc,xd,(.c (.int .i64 xe))),(xf,xg,(.c (.int .i64 xh)))],some xi,some (xj,false)⟩ : DOper)
abbrev a3 (xa xb xc xd xe xf xg xh xi) := (⟨.buildSlice xa xb [(.bool false),.nilslice,(.bool false),.nilslice] [(xc,xd,(.t xe)),(xf,xg,(.t xh))],some xi,none⟩ : DOper)
abbrev a4 (xa xb xc) := (⟨.binI .mul (.t xa) (.t xb),some xc,none⟩ : DOper)
abbrev a5 (xa) := (⟨.alloc [.nilslice],some xa,none⟩ : DOper)
abbrev a6 (xa xb xc) := (⟨.binI .quo (.t xa) (.c (.int .i64 xb)),some xc,none⟩ : DOper)
abbrev a7 (xa xb xc) := (⟨.binI .neq (.t xa) (.c (.int .i64 xb)),some xc,none⟩ : DOper)
abbrev a8 (xa xb xc) := (⟨.binI .eql (.t xa) (.c (.int .i64 xb)),some xc,none⟩ : DOper)
abbrev a9 (xa xb xc xd xe) := (⟨.indexVar xa xb (.t xc) (.t xd),some xe,none⟩ : DOper)
abbrev b0 (xa xb) := (⟨.lenStr (.t xa),some xb,none⟩ : DOper)
abbrev b1 (xa xb xc) := (⟨.binI .add (.t xa) (.t xb),some xc,none⟩ : DOper)
abbrev b2 (xa xb xc) := (⟨.call (.t xa) [.t xb],some xc,none⟩ : DOper)
abbrev b3 (xa xb xc xd xe) := (⟨.call (.c (.func xa [] [])) [(.t xb),(.c (.int .i64 xc)),(.t xd)],some xe,none⟩ : DOper)
abbrev b4 (xa xb) := (⟨.build [(.int .i64 xa),.nilslice] [],some xb,none⟩ : DOper)
abbrev b5 (xa xb xc) := (⟨.mkIface xa (.t xb),some xc,none⟩ : DOper)
abbrev b6 (xa xb xc xd) := (⟨.call (.c (.func xa [] [])) [(.t xb),(.c (.func xc [] []))],some xd,none⟩ : DOper)
abbrev b7 (xa xb xc) := (⟨.len (.t xa),some xb,some (xc,true)⟩ : DOper)
abbrev b8 (xa xb) := (⟨.alloc [.nilslice,(.int .i64 xa)],some xb,none⟩ : DOper)
abbrev b9 (xa xb xc xd) := (⟨.load true xa (.t xb),some xc,some (xd,true)⟩ : DOper)
abbrev c0 (xa xb xc xd) := (⟨.alloc [(.int .i64 xa),(.int .i64 xb),(.int .i64 xc)],some xd,none⟩ : DOper)
abbrev c1 (xa xb xc xd xe xf xg xh xi xj xk xl) := (⟨.buildSlice xa xb [(.int .i64 xc),(.int .i64 xd)] [(xe,xf,(.c (.int .i64 xg))),(xh,xi,(.c (.int .i64 xj)))],some xk,some (xl,false)⟩ : DOper)
abbrev c2 (xa xb xc xd xe) := (⟨.call (.c (.func xa [] [])) [(.t xb),(.c (.int .i64 xc)),(.c (.int .i64 xd))],some xe,none⟩ : DOper)
abbrev c3 (xa xb xc) := (⟨.binI .add (.c (.int .i64 xa)) (.t xb),some xc,none⟩ : DOper)
abbrev c4 (xa xb xc) := (⟨.binS .eql (.t xa) (.t xb),some xc,none⟩ : DOper)
abbrev c5 (xa xb xc) := (⟨.indexStr (.t xa) (.t xb),some xc,none⟩ : DOper)
abbrev c6 (xa xb xc) := (⟨.not (.t xa),some xb,some (xc,true)⟩ : DOper)
abbrev c7 (xa xb xc xd) := (⟨.pick (.t xa) (.t xb) (.c (.bool false)),some xc,some (xd,false)⟩ : DOper)
abbrev c8 (xa) := (⟨.panic (.t xa),none,none⟩ : DOper)
abbrev c9 (xa xb xc xd) := (⟨.mkFunc xa [] [.t xb],some xc,some (xd,true)⟩ : DOper)
abbrev d0 (xa xb xc xd) := (⟨.call (.t xa) [(.t xb),(.t xc)],some xd,none⟩ : DOper)
abbrev d1 (xa xb xc xd xe xf xg) := (⟨.buildSlice xa xb [(.int .i64 xc)] [(xd,xe,(.c (.int .i64 xf)))],some xg,none⟩ : DOper)
abbrev d2 (xa xb xc xd xe) := (⟨.call (.c (.func xa [] [])) [(.t xb),(.t xc),(.t xd)],some xe,none⟩ : DOper)
end Go.Den.Z
end

/- Part of the proofs of laws of the package version. Texts: VeJ, VeK, VnFnZ. -/
import Derived.Test.YtehdcjbdhkkipaaGreatDoorVMAn
import Derived.Test.YtehdcjbdhkkipaaGreatDoorVMAa
set_option linter.unusedSimpArgs false
set_option linter.unusedVariables false
section
namespace Go.Den.Ve
def headW (r:List UInt8):List UInt8:=(splitL 32 [] r).headD []
def rowOk (i:Nat) (r:List UInt8):Bool:=(wordsL r).all numB&&(decide (i≠0) || decide ((wordsL r).length=1))
def refStep (cs:List (List LN)) (r:List UInt8):List (List LN) :=
 if headW r=copyW then cs++[[]] else if cs=[] then cs else addLn cs ⟨decide (headW r=lostW),rowNs r⟩
def refB (rows:List (List UInt8)) (m:Nat):BK:=if m=0 then ⟨0,[]⟩ else ⟨(rowNs (rows.getD 0 [])).getD 0 0,((rows.take m).drop 1).foldl refStep []⟩
def refOkV (rows:List (List UInt8)) (m:Nat):Bool:=(List.range m).all fun i=>rowOk i (rows.getD i [])
def refV (s:List UInt8):Option BK:=if refOkV (splitL 10 [] s) ((splitL 10 [] s).length - 2)&&(textV (refB (splitL 10 [] s) ((splitL 10 [] s).length - 2))==s) then some (refB (splitL 10 [] s) ((splitL 10 [] s).length - 2)) else none
theorem rowL_words{w:List UInt8}(hw:(32:UInt8)∉w){ns:List Int}(h:∀ n∈ns,0≤n∧n<100):headW (rowL w ns)=w∧(wordsL (rowL w ns)).all numB=true∧(wordsL (rowL w ns)).length=ns.length∧rowNs (rowL w ns)=ns:=by
 unfold headW rowNs wordsL
 rw[rowL_split hw ns h]
 refine⟨rfl,?_,by simp,?_⟩
 ·rw[List.tail_cons,List.all_map,List.all_eq_true]
  intro n hn
  have:=h n hn
  exact (itoaL_num (n:=n.toNat) (by omega)).1
 ·rw[List.tail_cons,List.map_map]
  conv=>rhs;rw[← List.map_id ns]
  apply List.map_congr_left
  intro n hn
  have:=h n hn
  simp only[Function.comp_apply,(itoaL_num (n:=n.toNat) (by omega)).2,id]
  omega
theorem word_row{w:List UInt8}(hw:(32:UInt8)∉w):headW w=w∧wordsL w=[]∧rowNs w=[]:=by
 unfold headW rowNs wordsL
 rw[splitL_none 32 w [] hw]
 exact⟨rfl,rfl,rfl⟩
theorem lnRow_ok{x:LN}(hx:OkLn x):(wordsL (lnRow x)).all numB=true∧∀ cs,cs≠[]→refStep cs (lnRow x)=addLn cs x:=by
 unfold lnRow refStep
 cases hl:x.lost
 ·simp only[Bool.false_eq_true,if_false]
  obtain⟨h1,h2,_,h4⟩:=rowL_words (w:=lineW) (by decide) hx.n
  refine⟨h2,fun cs hc=>?_⟩
  rw[h1,if_neg (by decide),if_neg hc,h4]
  congr 1
  cases x;simp only at hl;rw[hl];rfl
 ·simp only[if_true]
  obtain⟨h1,h2,h3⟩:=word_row (w:=lostW) (by decide)
  refine⟨by rw[h2];rfl,fun cs hc=>?_⟩
  rw[h1,if_neg (by decide),if_neg hc,h3]
  have:=hx.l hl
  congr 1
  cases x;simp only at hl this;rw[hl,this];rfl
theorem refStep_lines:∀ (c:List LN) (pre:List (List LN)) (l:List LN),(∀ x∈c,OkLn x)→(c.map lnRow).foldl refStep (pre++[l])=pre++[l++c]
 | [],pre,l,_=>by simp
 | x::c,pre,l,h=>by
  rw[List.map_cons,List.foldl_cons,(lnRow_ok (h x (by simp))).2 _ (by simp),addLn_snoc,refStep_lines c pre (l++[x]) (fun y hy=>h y (by simp[hy]))]
  simp
theorem refStep_copies:∀ (cs:List (List LN)) (pre:List (List LN)),(∀ c∈cs,∀ x∈c,OkLn x)→(cs.flatMap copyRows).foldl refStep pre=pre++cs
 | [],pre,_=>by simp
 | c::cs,pre,h=>by
  have e:(c::cs).flatMap copyRows=copyW::(c.map lnRow++cs.flatMap copyRows):=by simp[copyRows]
  have e2:refStep pre copyW=pre++[[]]:=by rw[refStep,(word_row (w:=copyW) (by decide)).1,if_pos rfl]
  rw[e,List.foldl_cons,e2,List.foldl_append,refStep_lines c pre [] (h c (by simp)),refStep_copies cs _ (fun d hd=>h d (by simp[hd]))]
  simp
def clearLn (x:LN):LN:=if x.lost then ⟨true,[]⟩ else x
def clearB (b:BK):BK:=⟨b.words,b.copies.map fun c=>c.map clearLn⟩
theorem refStep_in:∀ (rs:List (List UInt8)) (cs:List (List LN)),(∀ r∈rs,∀ n∈rowNs r,0≤n∧n<100)→(∀ c∈cs,∀ x∈c,∀ n∈x.words,0≤n∧n<100)→∀ c∈rs.foldl refStep cs,∀ x∈c,∀ n∈x.words,0≤n∧n<100
 | [],cs,_,h=>h
 | r::rs,cs,hr,h=>by
  rw[List.foldl_cons]
  refine refStep_in rs _ (fun q hq=>hr q (by simp[hq])) ?_
  unfold refStep
  split
  ·intro c hc x hx
   rcases List.mem_append.1 hc with hc|hc
   ·exact h c hc x hx
   ·rw[List.mem_singleton.1 hc] at hx;cases hx
  ·split
   ·exact h
   ·intro c hc x hx
    unfold addLn at hc
    rcases List.mem_append.1 hc with hc|hc
    ·exact h c (List.dropLast_subset _ hc) x hx
    ·rw[List.mem_singleton.1 hc] at hx
     rcases List.mem_append.1 hx with hx|hx
     ·cases hcs:cs.getLast? with
      | none=>rw[List.getLastD_eq_getLast?,hcs] at hx;cases hx
      | some d=>rw[List.getLastD_eq_getLast?,hcs] at hx;exact h d (List.mem_of_getLast? hcs) x hx
     ·rw[List.mem_singleton.1 hx];exact hr r (by simp)
def readV (s:List UInt8):BK×Int:=if s.length>400 then (⟨0,[]⟩,3) else match parsedV s with
 | some b=>if bookB b then (b,0) else (⟨0,[]⟩,2)
 | none=>(⟨0,[]⟩,4)
theorem read_textV{b:BK}(hb:OkB b):readV (textV b)=(b,0):=by
 have:=textV_len hb
 rw[readV,if_neg (by omega),parsed_textV hb.t]
 simp only
 rw[if_pos (bookB_iff.2 hb)]
end Go.Den.Ve
end
section
namespace Go.Den.Ve
structure S5 where
 kind:Nat
 word:Int
 di:Nat
 dj:Nat
 left:Nat
def kmv:Nat→List Int→List Int→Option (Nat×Nat×Int)
 | 0,a::_,b::_=>if a=b then some (1,1,a) else none
 | 1,a::_,b::_=>if a=b then none else some (1,1,b)
 | 2,_,b::_=>some (0,1,b)
 | 3,a::_,_=>some (1,0,a)
 | _,_,_=>none
def kst (l m:List Int) (k:Nat) (v:Nat×Nat×Int):S5:=⟨1+k,v.2.2,v.1,v.2.1,lev (l.drop v.1) (m.drop v.2.1)+if k=0 then 0 else 1⟩
def candT (k:Nat) (l m:List Int):List S5:=(List.range k).filterMap fun k=>(kmv k l m).map (kst l m k)
theorem candT_succ(k:Nat)(l m:List Int):candT (k+1) l m=candT k l m++((kmv k l m).map (kst l m k)).toList:=by
 unfold candT
 rw[List.range_succ,List.filterMap_append]
 cases h:kmv k l m <;> simp[h]
theorem candT_len(l m:List Int):∀ k,(candT k l m).length≤k
 | 0=>Nat.le_refl _
 | k+1=>by
  rw[candT_succ,List.length_append]
  have:=candT_len l m k
  cases kmv k l m <;> simp <;> omega
theorem kmv_le{k:Nat}{l m:List Int}{v:Nat×Nat×Int}(h:kmv k l m=some v):v.1≤l.length∧v.2.1≤m.length∧1≤v.1+v.2.1:=by
 unfold kmv at h
 split at h
 ·split at h
  ·cases h;simp
  ·cases h
 ·split at h
  ·cases h
  ·cases h;simp
 ·cases h;simp
 ·cases h;simp
 ·cases h
theorem cand_best(l m:List Int)(h:l≠[]∨m≠[]):∃ x,bestF (fun x y=>decide (x.left<y.left)) (candT 4 l m)=some x∧x∈candT 4 l m∧x.left=lev l m∧x.di≤l.length∧x.dj≤m.length∧1≤x.di+x.dj∧stepsL l m=((x.kind:Int),x.word)::stepsL (l.drop x.di) (m.drop x.dj):=by
 cases l with
 | nil=>cases m with
  | nil=>simp at h
  | cons b m =>
   refine⟨⟨3,b,0,1,lev [] m+1⟩,rfl,by simp[candT,kmv,kst,List.range_succ],by rw[lev_nil,lev_nil];rfl,by simp,by simp,by simp,?_⟩
   rw[stepsL];rfl
 | cons a l=>cases m with
  | nil =>
   refine⟨⟨4,a,1,0,lev l []+1⟩,rfl,by simp[candT,kmv,kst,List.range_succ],by rw[lev_cons_nil],by simp,by simp,by simp,?_⟩
   rw[stepsL];rfl
  | cons b m =>
   by_cases e:a=b
   ·have hc:candT 4 (a::l) (b::m)=[⟨1,a,1,1,lev l m⟩,⟨3,b,0,1,lev (a::l) m+1⟩,⟨4,a,1,0,lev l (b::m)+1⟩]:=by
     simp[candT,kmv,kst,List.range_succ,e]
    have h1:lev l m≤lev (a::l) m+1:=by
     have:=lev_tri l (a::l) m
     have h3:lev l (a::l)≤1:=by have:=lev_add a l l;rw[lev_self] at this;exact this
     omega
    have h2:lev l m≤lev l (b::m)+1:=by
     have:=lev_tri l (b::m) m
     have h3:lev (b::m) m≤1:=by have:=lev_drop b m m;rw[lev_self] at this;exact this
     omega
    refine⟨⟨1,a,1,1,lev l m⟩,?_,by rw[hc];simp,?_,by simp,by simp,by simp,?_⟩
    ·rw[hc]
     have d1:decide (lev (a::l) m+1<lev l m)=false:=by simp;omega
     have d2:decide (lev l (b::m)+1<lev l m)=false:=by simp;omega
     simp only[bestF,List.foldl_cons,List.foldl_nil,d1,d2,Bool.false_eq_true,if_false]
    ·subst e;rw[lev_keep]
    ·rw[stepsL,if_pos e];rfl
   ·have hc:candT 4 (a::l) (b::m)=[⟨2,b,1,1,lev l m+1⟩,⟨3,b,0,1,lev (a::l) m+1⟩,⟨4,a,1,0,lev l (b::m)+1⟩]:=by
     simp[candT,kmv,kst,List.range_succ,e]
    have ho:=lev_other e l m
    by_cases h1:lev l m≤lev (a::l) m∧lev l m≤lev l (b::m)
    ·refine⟨⟨2,b,1,1,lev l m+1⟩,?_,by rw[hc];simp,by show lev l m+1=_;omega,by simp,by simp,by simp,?_⟩
     ·rw[hc]
      have d1:decide (lev (a::l) m+1<lev l m+1)=false:=by simp;omega
      have d2:decide (lev l (b::m)+1<lev l m+1)=false:=by simp;omega
      simp only[bestF,List.foldl_cons,List.foldl_nil,d1,d2,Bool.false_eq_true,if_false]
     ·rw[stepsL,if_neg e,if_pos h1];rfl
    ·by_cases h2:lev (a::l) m≤lev l (b::m)
     ·refine⟨⟨3,b,0,1,lev (a::l) m+1⟩,?_,by rw[hc];simp,by show lev (a::l) m+1=_;omega,by simp,by simp,by simp,?_⟩
      ·rw[hc]
       have d1:decide (lev (a::l) m+1<lev l m+1)=true:=by simp;omega
       have d2:decide (lev l (b::m)+1<lev (a::l) m+1)=false:=by simp;omega
       simp only[bestF,List.foldl_cons,List.foldl_nil,d1,d2,Bool.false_eq_true,if_false,if_true]
      ·rw[stepsL,if_neg e,if_neg h1,if_pos h2];rfl
     ·refine⟨⟨4,a,1,0,lev l (b::m)+1⟩,?_,by rw[hc];simp,by show lev l (b::m)+1=_;omega,by simp,by simp,by simp,?_⟩
      ·rw[hc]
       have d2:decide (lev l (b::m)+1<lev l m+1)=true:=by simp;omega
       have d3:decide (lev l (b::m)+1<lev (a::l) m+1)=true:=by simp;omega
       simp only[bestF,List.foldl_cons,List.foldl_nil]
       by_cases hd:lev (a::l) m+1<lev l m+1
       ·simp only[decide_eq_true hd,d3,if_true]
       ·simp only[decide_eq_false hd,d2,Bool.false_eq_true,if_false,if_true]
      ·rw[stepsL,if_neg e,if_neg h1,if_neg h2];rfl
end Go.Den.Ve
end
section
namespace Go.Den.Z
abbrev a (xa xb) := (⟨.val (.t xa),some xb,none⟩ : DOper)
abbrev b (xa xb xc) := (⟨.load false xa (.t xb),some xc,none⟩ : DOper)
abbrev c (xa xb) := (⟨.val (.c (.int .i64 xa)),some xb,none⟩ : DOper)
abbrev d (xa xb xc) := (⟨.binI .add (.t xa) (.c (.int .i64 xb)),some xc,none⟩ : DOper)
abbrev e (xa xb xc) := (⟨.fieldAddr xa (.t xb),some xc,none⟩ : DOper)
abbrev f (xa xb xc) := (⟨.load true xa (.t xb),some xc,none⟩ : DOper)
abbrev g (xa xb xc) := (⟨.call (.c (.func xa [] [])) [.t xb],some xc,none⟩ : DOper)
abbrev h (xa xb xc xd) := (⟨.indexAddr xa (.t xb) (.t xc),some xd,none⟩ : DOper)
abbrev i (xa xb xc xd) := (⟨.call (.c (.func xa [] [])) [(.t xb),(.t xc)],some xd,none⟩ : DOper)
abbrev j (xa xb xc) := (⟨.store xa (.t xb) (.t xc),none,none⟩ : DOper)
abbrev k (xa xb) := (⟨.len (.t xa),some xb,none⟩ : DOper)
abbrev l (xa) := (⟨.val (.c (.bool false)),some xa,none⟩ : DOper)
abbrev m (xa xb xc) := (⟨.pick (.t xa) (.c (.bool true)) (.t xb),some xc,none⟩ : DOper)
abbrev n (xa xb xc) := (⟨.binI .lss (.t xa) (.t xb),some xc,none⟩ : DOper)
abbrev o (xa xb xc) := (⟨.extract (.t xa) xb,some xc,none⟩ : DOper)
abbrev p (xa xb xc) := (⟨.val (.t xa),some xb,some (xc,false)⟩ : DOper)
abbrev q (xa) := (⟨.val (.c .nilslice),some xa,none⟩ : DOper)
abbrev r (xa xb) := (⟨.box (.t xa),some xb,none⟩ : DOper)
abbrev s (xa xb xc xd) := (⟨.append false xa (.t xb) (.t xc),some xd,none⟩ : DOper)
abbrev t (xa xb xc) := (⟨.pick (.t xa) (.t xb) (.c (.bool false)),some xc,none⟩ : DOper)
abbrev u (xa xb xc xd xe) := (⟨.call (.c (.func xa [] [])) [(.t xb),(.t xc)],some xd,some (xe,false)⟩ : DOper)
abbrev v (xa xb xc) := (⟨.val (.t xa),some xb,some (xc,true)⟩ : DOper)
abbrev w (xa xb) := (⟨.not (.t xa),some xb,none⟩ : DOper)
abbrev x (xa xb xc xd) := (⟨.binI .neq (.t xa) (.c (.int .i64 xb)),some xc,some (xd,false)⟩ : DOper)
abbrev y (xa xb xc xd) := (⟨.indexAddr xa (.t xb) (.c (.int .i64 xc)),some xd,none⟩ : DOper)
abbrev z (xa xb xc xd) := (⟨.load false xa (.t xb),some xc,some (xd,false)⟩ : DOper)
abbrev A (xa xb xc xd xe xf xg) := (⟨.buildSlice xa xb [(.int .i64 xc)] [(xd,xe,(.t xf))],some xg,none⟩ : DOper)
abbrev B (xa xb xc) := (⟨.not (.t xa),some xb,some (xc,false)⟩ : DOper)
abbrev C (xa xb) := (⟨.call (.c (.func xa [] [])) [],some xb,none⟩ : DOper)
abbrev D (xa xb xc xd xe xf) := (⟨.alloc [(.int .i64 xa),(.int .i64 xb),(.int .i64 xc),(.int .i64 xd),(.int .i64 xe)],some xf,none⟩ : DOper)
abbrev E (xa xb xc xd) := (⟨.load true xa (.t xb),some xc,some (xd,false)⟩ : DOper)
abbrev F (xa xb xc xd xe xf xg xh xi xj xk) := (⟨.buildSlice xa xb [(.int .i64 xc),(.int .i64 xd)] [(xe,xf,(.c (.int .i64 xg))),(xh,xi,(.c (.int .i64 xj)))],some xk,none⟩ : DOper)
abbrev G (xa xb xc xd) := (⟨.load false xa (.t xb),some xc,some (xd,true)⟩ : DOper)
abbrev H (xa xb xc xd) := (⟨.fieldAddr xa (.t xb),some xc,some (xd,false)⟩ : DOper)
abbrev I (xa xb xc) := (⟨.binI .sub (.t xa) (.c (.int .i64 xb)),some xc,none⟩ : DOper)
abbrev J (xa) := (⟨.alloc [(.bool false),.nilslice],some xa,none⟩ : DOper)
abbrev K (xa xb xc xd) := (⟨.call (.c (.func xa [] [])) [(.t xb),(.c (.int .i64 xc))],some xd,none⟩ : DOper)
abbrev L (xa xb xc xd) := (⟨.fieldAddr xa (.t xb),some xc,some (xd,true)⟩ : DOper)
abbrev M (xa xb xc xd xe xf) := (⟨.buildSlice xa xb [.nilslice] [(xc,xd,(.t xe))],some xf,none⟩ : DOper)
abbrev N (xa xb xc) := (⟨.binI .eql (.t xa) (.t xb),some xc,none⟩ : DOper)
abbrev O (xa xb xc xd xe xf xg xh xi) := (⟨.build [(.int .i64 xa),.nilslice,(.int .i64 xb)] [(xc,xd,(.t xe)),(xf,xg,(.t xh))],some xi,none⟩ : DOper)
abbrev P (xa xb xc xd xe) := (⟨.call (.c (.func xa [] [])) [(.t xb),(.c (.int .i64 xc)),(.t xd)],some xe,none⟩ : DOper)
abbrev Q (xa xb xc) := (⟨.binI .neq (.t xa) (.c (.int .i64 xb)),some xc,none⟩ : DOper)
abbrev R (xa xb xc) := (⟨.binI .lss (.t xa) (.c (.int .i64 xb)),some xc,none⟩ : DOper)
abbrev S (xa xb xc) := (⟨.alloc [(.int .i64 xa),(.int .i64 xb)],some xc,none⟩ : DOper)
abbrev T (xa xb) := (⟨.alloc [(.int .i64 xa),.nilslice],some xb,none⟩ : DOper)
abbrev U (xa xb xc) := (⟨.binS .add (.t xa) (.t xb),some xc,none⟩ : DOper)
abbrev V (xa xb xc xd xe xf xg xh xi) := (⟨.build [(.int .i64 xa),(.int .i64 xb)] [(xc,xd,(.t xe)),(xf,xg,(.t xh))],some xi,none⟩ : DOper)
abbrev W (xa xb xc) := (⟨.binI .rem (.t xa) (.c (.int .i64 xb)),some xc,none⟩ : DOper)
abbrev X (xa xb xc) := (⟨.binI .geq (.t xa) (.c (.int .i64 xb)),some xc,none⟩ : DOper)
abbrev Y (xa xb xc xd xe) := (⟨.alloc [(.int .i64 xa),(.int .i64 xb),(.int .i64 xc),(.int .i64 xd)],some xe,none⟩ : DOper)
abbrev Z (xa) := (⟨.val (.c (.bool true)),some xa,none⟩ : DOper)
abbrev a0 (xa xb xc xd xe xf xg xh xi xj) := (⟨.build [(.int .i64 xa),(.int .i64 xb)] [(xc,xd,(.c (.int .i64 xe))),(xf,xg,(.c (.int .i64 xh)))],some xi,some (xj,false)⟩ : DOper)
abbrev a1 (xa xb xc xd xe xf xg xh xi) := (⟨.buildSlice xa xb [(.bool false),.nilslice,(.bool false),.nilslice] [(xc,xd,(.t xe)),(xf,xg,(.t xh))],some xi,none⟩ : DOper)
abbrev a2 (xa xb xc) := (⟨.binI .neq (.t xa) (.t xb),some xc,none⟩ : DOper)
abbrev a3 (xa) := (⟨.alloc [.nilslice],some xa,none⟩ : DOper)
abbrev a4 (xa xb xc) := (⟨.binI .quo (.t xa) (.c (.int .i64 xb)),some xc,none⟩ : DOper)
abbrev a5 (xa xb xc) := (⟨.binI .gtr (.t xa) (.c (.int .i64 xb)),some xc,none⟩ : DOper)
abbrev a6 (xa xb xc xd xe) := (⟨.indexVar xa xb (.t xc) (.t xd),some xe,none⟩ : DOper)
abbrev a7 (xa xb xc xd) := (⟨.pick (.t xa) (.t xb) (.c (.bool false)),some xc,some (xd,false)⟩ : DOper)
abbrev a8 (xa xb xc xd xe) := (⟨.call (.c (.func xa [] [])) [(.t xb),(.t xc)],some xd,some (xe,true)⟩ : DOper)
abbrev a9 (xa xb xc) := (⟨.call (.t xa) [.t xb],some xc,none⟩ : DOper)
abbrev b0 (xa xb xc xd xe) := (⟨.indexAddr xa (.t xb) (.t xc),some xd,some (xe,false)⟩ : DOper)
abbrev b1 (xa xb xc) := (⟨.mkIface xa (.t xb),some xc,none⟩ : DOper)
abbrev b2 (xa xb xc xd) := (⟨.call (.c (.func xa [] [])) [(.t xb),(.c (.func xc [] []))],some xd,none⟩ : DOper)
abbrev b3 (xa xb xc) := (⟨.binI .eql (.t xa) (.c (.int .i64 xb)),some xc,none⟩ : DOper)
abbrev b4 (xa xb) := (⟨.alloc [.nilslice,(.int .i64 xa)],some xb,none⟩ : DOper)
abbrev b5 (xa xb xc) := (⟨.binI .mul (.t xa) (.t xb),some xc,none⟩ : DOper)
abbrev b6 (xa xb xc) := (⟨.binI .add (.t xa) (.t xb),some xc,none⟩ : DOper)
abbrev b7 (xa xb xc xd) := (⟨.alloc [(.int .i64 xa),(.int .i64 xb),(.int .i64 xc)],some xd,none⟩ : DOper)
abbrev b8 (xa xb xc xd) := (⟨.binI .eql (.t xa) (.t xb),some xc,some (xd,false)⟩ : DOper)
abbrev b9 (xa xb xc xd xe xf xg xh xi xj xk xl) := (⟨.buildSlice xa xb [(.int .i64 xc),(.int .i64 xd)] [(xe,xf,(.c (.int .i64 xg))),(xh,xi,(.c (.int .i64 xj)))],some xk,some (xl,false)⟩ : DOper)
abbrev c0 (xa xb xc) := (⟨.not (.t xa),some xb,some (xc,true)⟩ : DOper)
abbrev c1 (xa xb xc) := (⟨.len (.t xa),some xb,some (xc,true)⟩ : DOper)
abbrev c2 (xa xb xc xd xe) := (⟨.call (.c (.func xa [] [])) [(.t xb),(.c (.int .i64 xc)),(.c (.int .i64 xd))],some xe,none⟩ : DOper)
abbrev c3 (xa xb xc) := (⟨.binI .add (.c (.int .i64 xa)) (.t xb),some xc,none⟩ : DOper)
abbrev c4 (xa) := (⟨.panic (.t xa),none,none⟩ : DOper)
abbrev c5 (xa xb xc xd) := (⟨.build [(.bool false),.nilslice] [(xa,xb,(.t xc))],some xd,none⟩ : DOper)
abbrev c6 (xa xb xc xd) := (⟨.mkFunc xa [] [.t xb],some xc,some (xd,true)⟩ : DOper)
abbrev c7 (xa xb xc xd) := (⟨.load true xa (.t xb),some xc,some (xd,true)⟩ : DOper)
abbrev c8 (xa xb xc xd) := (⟨.call (.t xa) [(.t xb),(.t xc)],some xd,none⟩ : DOper)
abbrev c9 (xa xb xc xd xe xf xg) := (⟨.buildSlice xa xb [(.int .i64 xc)] [(xd,xe,(.c (.int .i64 xf)))],some xg,none⟩ : DOper)
abbrev d0 (xa xb xc xd xe) := (⟨.call (.c (.func xa [] [])) [(.t xb),(.t xc),(.t xd)],some xe,none⟩ : DOper)
abbrev d1 (xa xb xc) := (⟨.binS .eql (.t xa) (.t xb),some xc,none⟩ : DOper)
abbrev d2 (xa xb xc xd) := (⟨.binI .lss (.t xa) (.c (.int .i64 xb)),some xc,some (xd,true)⟩ : DOper)
end Go.Den.Z
end

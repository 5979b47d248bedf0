/- Part of the proofs of laws of the package version. Texts: VeC, VeD, VeE, VeF. -/
import Derived.Test.YtehdcjbdhkkipaaGreatDoorEAm
set_option linter.unusedSimpArgs false
set_option linter.unusedVariables false
section
namespace Go.Den.Ve
abbrev Sp:=Int×Int
def stepsL:List Int→List Int→List Sp
 | [],[]=>[]
 | [],b::m=>(3,b)::stepsL [] m
 | a::l,[]=>(4,a)::stepsL l []
 | a::l,b::m =>
  if a=b then (1,a)::stepsL l m
  else if lev l m≤lev (a::l) m∧lev l m≤lev l (b::m) then (2,b)::stepsL l m
  else if lev (a::l) m≤lev l (b::m) then (3,b)::stepsL (a::l) m
  else (4,a)::stepsL l (b::m)
 termination_by l m=>l.length+m.length
def led1 (x:Sp):List Int→List Int→Option (List Int×List Int)
 | a::l,b::m =>
  if x.1=1 then (if x.2=b∧a=b then some (l,m) else none)
  else if x.1=2 then (if x.2=b∧a≠b then some (l,m) else none)
  else if x.1=3 then (if x.2=b then some (a::l,m) else none)
  else if x.1=4 then (if x.2=a then some (l,b::m) else none) else none
 | [],b::m=>if x.1=3∧x.2=b then some ([],m) else none
 | a::l,[]=>if x.1=4∧x.2=a then some (l,[]) else none
 | [],[]=>none
def ledL:List Sp→List Int→List Int→Bool
 | [],l,m=>l.isEmpty&&m.isEmpty
 | x::s,l,m=>match led1 x l m with
  | none=>false
  | some p=>ledL s p.1 p.2
def costL:List Sp→Nat
 | []=>0
 | x::s=>costL s+if x.1=1 then 0 else 1
inductive Led:List Sp→List Int→List Int→Prop
 | nil:Led [] [] []
 | keep {s:List Sp} {l m:List Int} (a:Int) (h:Led s l m):Led ((1,a)::s) (a::l) (a::m)
 | change {s:List Sp} {l m:List Int} (a b:Int) (e:a≠b) (h:Led s l m):Led ((2,b)::s) (a::l) (b::m)
 | add {s:List Sp} {l m:List Int} (b:Int) (h:Led s l m):Led ((3,b)::s) l (b::m)
 | drop {s:List Sp} {l m:List Int} (a:Int) (h:Led s l m):Led ((4,a)::s) (a::l) m
theorem led_of:∀ {s:List Sp} {l m:List Int},ledL s l m=true→Led s l m
 | [],[],[],_ => .nil
 | [],a::l,m,h=>by simp [ledL] at h
 | [],[],b::m,h=>by simp [ledL] at h
 | (k,w)::s,[],[],h=>by simp [ledL,led1] at h
 | (k,w)::s,[],b::m,h=>by
  simp only [ledL,led1] at h
  by_cases e:k=3∧w=b
  ·obtain ⟨rfl,rfl⟩:=e
   simp only [and_self,if_true] at h
   exact .add _ (led_of h)
  ·rw [if_neg e] at h;cases h
 | (k,w)::s,a::l,[],h=>by
  simp only [ledL,led1] at h
  by_cases e:k=4∧w=a
  ·obtain ⟨rfl,rfl⟩:=e
   simp only [and_self,if_true] at h
   exact .drop _ (led_of h)
  ·rw [if_neg e] at h;cases h
 | (k,w)::s,a::l,b::m,h=>by
  simp only [ledL,led1] at h
  by_cases e1:k=1
  ·subst e1
   rw [if_pos rfl] at h
   by_cases e:w=b∧a=b
   ·obtain ⟨rfl,rfl⟩:=e
    rw [if_pos ⟨rfl,rfl⟩] at h
    exact .keep _ (led_of h)
   ·rw [if_neg e] at h;cases h
  ·rw [if_neg e1] at h
   by_cases e2:k=2
   ·subst e2
    rw [if_pos rfl] at h
    by_cases e:w=b∧a≠b
    ·rw [if_pos e] at h
     obtain ⟨rfl,e⟩:=e
     exact .change _ _ e (led_of h)
    ·rw [if_neg e] at h;cases h
   ·rw [if_neg e2] at h
    by_cases e3:k=3
    ·subst e3
     rw [if_pos rfl] at h
     by_cases e:w=b
     ·subst e
      rw [if_pos rfl] at h
      exact .add _ (led_of h)
     ·rw [if_neg e] at h;cases h
    ·rw [if_neg e3] at h
     by_cases e4:k=4
     ·subst e4
      rw [if_pos rfl] at h
      by_cases e:w=a
      ·subst e
       rw [if_pos rfl] at h
       exact .drop _ (led_of h)
      ·rw [if_neg e] at h;cases h
     ·rw [if_neg e4] at h;cases h
theorem Led.is {s:List Sp} {l m:List Int} (h:Led s l m):ledL s l m=true:=by
 induction h with
 | nil=>rfl
 | keep a _ ih=>simp [ledL,led1,ih]
 | change a b e _ ih=>simp [ledL,led1,e,ih]
 | @add s l m b _ ih=>cases l <;> simp [ledL,led1,ih]
 | @drop s l m a _ ih=>cases m <;> simp [ledL,led1,ih]
theorem Led.ed {s:List Sp} {l m:List Int} (h:Led s l m):Ed l m (costL s):=by
 induction h with
 | nil=>exact .nil
 | keep a _ ih=>exact .keep a ih
 | change a b e _ ih=>exact .change a b ih
 | add b _ ih=>exact .add b ih
 | drop a _ ih=>exact .drop a ih
theorem Led.cost {s:List Sp} {l m:List Int} (h:Led s l m):lev l m≤costL s:=lev_le h.ed
theorem Led.len {s:List Sp} {l m:List Int} (h:Led s l m):s.length≤l.length+m.length:=by
 induction h with
 | nil=>exact Nat.le_refl _
 | keep a _ ih=>simp only [List.length_cons];omega
 | change a b e _ ih=>simp only [List.length_cons];omega
 | add b _ ih=>simp only [List.length_cons];omega
 | drop a _ ih=>simp only [List.length_cons];omega
theorem steps_led (l m:List Int):Led (stepsL l m) l m:=by
 fun_induction stepsL l m with
 | case1=>exact .nil
 | case2 b m ih=>exact .add b ih
 | case3 a l ih=>exact .drop a ih
 | case4 l b m ih=>exact .keep b ih
 | case5 a l b m h1 h2 ih=>exact .change a b h1 ih
 | case6 a l b m h1 h2 h3 ih=>exact .add b ih
 | case7 a l b m h1 h2 h3 ih=>exact .drop a ih
theorem steps_cost (l m:List Int):costL (stepsL l m)=lev l m:=by
 fun_induction stepsL l m with
 | case1=>rfl
 | case2 b m ih=>rw [costL,ih,lev_nil,lev_nil];rfl
 | case3 a l ih=>rw [costL,ih,lev_cons_nil];rfl
 | case4 l b m ih=>rw [costL,ih,lev_keep];rfl
 | case5 a l b m h1 h2 ih=>rw [costL,ih,lev_other h1,if_neg (by simp)];omega
 | case6 a l b m h1 h2 h3 ih=>rw [costL,ih,lev_other h1,if_neg (by simp)];omega
 | case7 a l b m h1 h2 h3 ih=>rw [costL,ih,lev_other h1,if_neg (by simp)];omega
def soonL:List Sp→List Sp→Bool
 | a::s,b::t=>if a=b then soonL s t else decide (a.1<b.1) || (decide (a.1=b.1)&&decide (a.2<b.2))
 | [],_::_=>true
 | _,[]=>false
theorem soon_self:∀ s:List Sp,soonL s s=false
 | []=>rfl
 | a::s=>by rw [soonL,if_pos rfl];exact soon_self s
theorem steps_first {s:List Sp} {l m:List Int} (h:Led s l m):costL s≤lev l m→soonL s (stepsL l m)=false:=by
 induction h with
 | nil=>intro _;rw [stepsL];rfl
 | @keep s l m a h ih =>
  intro hc
  rw [stepsL,if_pos rfl,soonL,if_pos rfl]
  rw [costL,lev_keep] at hc
  exact ih (by simpa using hc)
 | @change s l m a b e h ih =>
  intro hc
  have h1:=h.cost
  rw [costL,lev_other e,if_neg (by simp)] at hc
  rw [stepsL,if_neg e,if_pos (by omega),soonL,if_pos rfl]
  exact ih (by omega)
 | @add s l m b h ih =>
  intro hc
  have h1:=h.cost
  cases l with
  | nil =>
   rw [stepsL,soonL,if_pos rfl]
   rw [costL,if_neg (by simp)] at hc
   have:=lev_nil (b::m)
   have:=lev_nil m
   simp only [List.length_cons] at *
   exact ih (by omega)
  | cons a l =>
   rw [costL,if_neg (by simp)] at hc
   by_cases e:a=b
   ·subst e
    rw [stepsL,if_pos rfl,soonL,if_neg (by simp)];simp
   rw [lev_other e] at hc
   rw [stepsL,if_neg e]
   by_cases h2:lev l m≤lev (a::l) m∧lev l m≤lev l (b::m)
   ·rw [if_pos h2,soonL,if_neg (by simp)];simp
   rw [if_neg h2,if_pos (by omega),soonL,if_pos rfl]
   exact ih (by omega)
 | @drop s l m a h ih =>
  intro hc
  have h1:=h.cost
  cases m with
  | nil =>
   rw [stepsL,soonL,if_pos rfl]
   rw [costL,if_neg (by simp),lev_cons_nil] at hc
   exact ih (by omega)
  | cons b m =>
   rw [costL,if_neg (by simp)] at hc
   rw [stepsL]
   by_cases e:a=b
   ·subst e
    rw [if_pos rfl,soonL,if_neg (by simp)];simp
   ·rw [lev_other e] at hc
    rw [if_neg e]
    by_cases h2:lev l m≤lev (a::l) m∧lev l m≤lev l (b::m)
    ·rw [if_pos h2,soonL,if_neg (by simp)];simp
    ·rw [if_neg h2]
     by_cases h3:lev (a::l) m≤lev l (b::m)
     ·rw [if_pos h3,soonL,if_neg (by simp)];simp
     ·rw [if_neg h3,soonL,if_pos rfl]
      exact ih (by omega)
def stepsR:List Int→List Int→Int→Option (List Sp)
 | [],[],n=>if n=0 then some [] else none
 | [],b::m,n=>if n<0 then none else (stepsR [] m (n - 1)).map fun s=>(3,b)::s
 | a::l,[],n=>if n<0 then none else (stepsR l [] (n - 1)).map fun s=>(4,a)::s
 | a::l,b::m,n=>if n<0 then none else
  match stepsR l m (if a=b then n else n - 1) with
  | some s=>some (((if a=b then 1 else 2),b)::s)
  | none=>match stepsR (a::l) m (n - 1) with
   | some s=>some ((3,b)::s)
   | none=>(stepsR l (b::m) (n - 1)).map fun s=>(4,a)::s
 termination_by l m=>l.length+m.length
theorem stepsR_lt (l m:List Int) (n:Int):n<lev l m→stepsR l m n=none:=by
 fun_induction stepsR l m n with
 | case1=>intro h;have:=lev_nil [];simp at this;omega
 | case2 n h=>intro _;rfl
 | case3 b m n h=>intro _;rfl
 | case4 b m n h ih =>
  intro hn;have:=lev_nil (b::m);have:=lev_nil m;simp only [List.length_cons] at *
  rw [ih (by omega)];rfl
 | case5 a l n h=>intro _;rfl
 | case6 a l n h ih =>
  intro hn;rw [lev_cons_nil] at hn
  rw [ih (by omega)];rfl
 | case7 a l b m n h=>intro _;rfl
 | case8 a l b m n h s hs ih =>
  intro hn
  by_cases e:a=b
  ·rw [e,lev_keep] at hn
   rw [dif_pos e] at ih hs
   rw [ih hn] at hs;cases hs
  ·rw [lev_other e] at hn
   rw [dif_neg e] at ih hs
   rw [ih (by omega)] at hs;cases hs
 | case9 a l b m n h hs s hs2 ih1 ih2 =>
  intro hn
  have q:lev (a::l) (b::m)≤lev (a::l) m+1:=lev_add _ _ _
  rw [ih2 (by omega)] at hs2;cases hs2
 | case10 a l b m n h hs hs2 ih1 ih2 ih3 =>
  intro hn
  have q:lev (a::l) (b::m)≤lev l (b::m)+1:=lev_drop _ _ _
  rw [ih3 (by omega)];rfl
theorem stepsR_lev (l m:List Int):stepsR l m (lev l m)=some (stepsL l m):=by
 fun_induction stepsL l m with
 | case1=>rw [stepsR];rfl
 | case2 b m ih =>
  rw [stepsR,if_neg (by omega)]
  have:((lev [] (b::m):Nat):Int) - 1=lev [] m:=by have:=lev_nil (b::m);have:=lev_nil m;simp only [List.length_cons] at *;omega
  rw [this,ih];rfl
 | case3 a l ih =>
  rw [stepsR,if_neg (by omega)]
  have:((lev (a::l) []:Nat):Int) - 1=lev l []:=by rw [lev_cons_nil];omega
  rw [this,ih];rfl
 | case4 l b m ih =>
  rw [stepsR,if_neg (by omega)]
  simp only [if_true,reduceIte,lev_keep,ih]
 | case5 a l b m h1 h2 ih =>
  rw [stepsR,if_neg (by omega)]
  have:((lev (a::l) (b::m):Nat):Int) - 1=lev l m:=by rw [lev_other h1];omega
  simp only [if_neg h1,this,ih]
 | case6 a l b m h1 h2 h3 ih =>
  rw [stepsR,if_neg (by omega)]
  have:((lev (a::l) (b::m):Nat):Int) - 1=lev (a::l) m:=by rw [lev_other h1];omega
  simp only [if_neg h1,this,ih]
  rw [stepsR_lt _ _ _ (by omega)]
 | case7 a l b m h1 h2 h3 ih =>
  rw [stepsR,if_neg (by omega)]
  have:((lev (a::l) (b::m):Nat):Int) - 1=lev l (b::m):=by rw [lev_other h1];omega
  simp only [if_neg h1,this,ih]
  rw [stepsR_lt _ _ _ (by omega),stepsR_lt _ _ _ (by omega)];rfl
end Go.Den.Ve
end
section
namespace Go.Den.Ve
theorem minL_cons {α:Type} (m:α→Int) (x:α) {l:List α} (h:l≠[]):minL m (x::l)=min (m x) (minL m l):=by
 cases l with
 | nil=>exact absurd rfl h
 | cons y l=>rfl
theorem minL_snoc {α:Type} (m:α→Int) (x:α):∀ {l:List α},l≠[]→minL m (l++[x])=min (minL m l) (m x)
 | [y],_=>rfl
 | y::z::l,_=>by
  have:=minL_snoc m x (l:=z::l) (by simp)
  rw [List.cons_append,minL_cons m y (l:=z::l++[x]) (by simp),this,minL_cons m y (l:=z::l) (by simp)]
  omega
theorem least_snoc {α:Type} (m:α→Int) (x:α) {l:List α} (h:l≠[]):leastL m (l++[x])=if m x<minL m l then [x] else if m x=minL m l then leastL m l++[x] else leastL m l:=by
 unfold leastL
 rw [minL_snoc m x h,List.filter_append]
 split
 ·rename_i h1
  rw [show min (minL m l) (m x)=m x by omega]
  have:l.filter (fun y=>m y==m x)=[]:=by
   rw [List.filter_eq_nil_iff]
   intro y hy e
   have:=minL_le (m:=m) y hy
   rw [beq_iff_eq] at e;omega
  rw [this];simp
 ·rename_i h1
  rw [show min (minL m l) (m x)=minL m l by omega]
  split
  ·rename_i h2
   simp [h2]
  ·rename_i h2
   simp [h2]
def holdL:List Int→List Int→Bool
 | _,[]=>true
 | [],_::_=>false
 | w::line,x::list=>if x=w then holdL line list else holdL line (x::list)
theorem hold_nil:∀ l,holdL l []=true
 | []=>rfl
 | _::_=>rfl
def commonL (w:Nat) (P:List Int→Bool):Nat→List Int
 | 0=>[]
 | k+1=>match (listsL w (k+1)).find? P with
  | some l=>l
  | none=>commonL w P k
def commonR (P:List Int→Bool):List Int→List (List Int)→List Int
 | out,[]=>out
 | out,l::t=>commonR P (if (decide (l.length>out.length)&&P l)=true then l else out) t
structure Longest (P:List Int→Bool) (ls:List (List Int)) (c:List Int):Prop where
 mem:c∈ls
 is:P c=true
 best:∀ l∈ls,P l=true→l.length<c.length∨l.length=c.length∧(l=c∨bef c l=true)
theorem find_first {lt:List Int→List Int→Bool} {P:List Int→Bool}:∀ {ls:List (List Int)} {c:List Int},ls.Pairwise (fun a b=>lt a b=true)→ls.find? P=some c→c∈ls∧P c=true∧∀ l∈ls,P l=true→l=c∨lt c l=true
 | [],_,_,h=>by cases h
 | x::ls,c,hp,h=>by
  rw [List.pairwise_cons] at hp
  rw [List.find?_cons] at h
  cases hx:P x
  ·rw [hx] at h
   obtain ⟨h1,h2,h3⟩:=find_first hp.2 h
   refine ⟨by simp [h1],h2,fun l hl hP=>?_⟩
   rcases List.mem_cons.1 hl with rfl|hl
   ·rw [hx] at hP;cases hP
   ·exact h3 l hl hP
  ·rw [hx] at h
   simp only [Option.some.injEq] at h
   subst h
   refine ⟨by simp,hx,fun l hl _=>?_⟩
   rcases List.mem_cons.1 hl with rfl|hl
   ·exact .inl rfl
   ·exact .inr (hp.1 l hl)
theorem common_longest {w:Nat} {P:List Int→Bool} (h0:P []=true):∀ {k:Nat},k≤4→(∀ l∈linesL w,P l=true→l.length≤k)→Longest P (linesL w) (commonL w P k)
 | 0,_,hl=>⟨mem_lines.2 ⟨by simp [commonL],by simp [commonL]⟩,h0,fun l h1 h2=>by
   have:=hl l h1 h2
   refine .inr ⟨by simp only [commonL,List.length_nil];omega,.inl ?_⟩
   cases l with
   | nil=>rfl
   | cons=>simp at this⟩
 | k+1,hk,hl=>by
  cases hf:(listsL w (k+1)).find? P with
  | some c =>
   obtain ⟨h1,h2,h3⟩:=find_first (lists_sorted w (k+1)) hf
   rw [mem_lists] at h1
   have e:commonL w P (k+1)=c:=by rw [commonL,hf]
   rw [e]
   refine ⟨mem_lines.2 ⟨by omega,h1.2⟩,h2,fun l hm hP=>?_⟩
   have q:=hl l hm hP
   by_cases hq:l.length=k+1
   ·exact .inr ⟨hq.trans h1.1.symm,h3 l (mem_lists.2 ⟨hq,(mem_lines.1 hm).2⟩) hP⟩
   ·exact .inl (by omega)
  | none =>
   have e:commonL w P (k+1)=commonL w P k:=by rw [commonL,hf]
   rw [e]
   refine common_longest h0 (by omega) fun l hm hP=>?_
   have q:=hl l hm hP
   by_cases hq:l.length=k+1
   ·rw [List.find?_eq_none] at hf
    exact absurd hP (hf l (mem_lists.2 ⟨hq,(mem_lines.1 hm).2⟩))
   ·omega
theorem common_is {w:Nat} {P:List Int→Bool} (h0:P []=true):Longest P (linesL w) (commonL w P 4):=common_longest h0 (Nat.le_refl _) fun l hl _=>(mem_lines.1 hl).1
theorem longest_one {P:List Int→Bool} {ls:List (List Int)} {c d:List Int} (hc:Longest P ls c) (hd:Longest P ls d):c=d:=by
 rcases hc.best d hd.mem hd.is with h1|⟨h1,h2|h2⟩
 ·rcases hd.best c hc.mem hc.is with h3|⟨h3,_⟩ <;> omega
 ·exact h2.symm
 ·rcases hd.best c hc.mem hc.is with h3|⟨h3,h4|h4⟩
  ·omega
  ·exact h4
  ·rw [bef_asym _ _ h2] at h4;cases h4
theorem commonR_is {P:List Int→Bool}:∀ {post pre:List (List Int)} {out:List Int},(pre++post).Pairwise (fun a b=>before a b=true)→(Longest P pre out)→Longest P (pre++post) (commonR P out post)
 | [],pre,out,_,h=>by rw [List.append_nil];exact h
 | x::post,pre,out,hp,h=>by
  have e:pre++x::post=(pre++[x])++post:=by simp
  rw [e] at hp ⊢
  rw [commonR]
  refine commonR_is hp ?_
  have hlt:∀ y∈pre,before y x=true:=fun y hy=>by
   rw [List.append_assoc,List.pairwise_append] at hp
   exact hp.2.2 y hy x (by simp)
  split
  ·rename_i hc
   simp only [Bool.and_eq_true,decide_eq_true_eq] at hc
   refine ⟨by simp,hc.2,fun l hl hP=>?_⟩
   rcases List.mem_append.1 hl with hl|hl
   ·rcases h.best l hl hP with h1|⟨h1,_⟩ <;> exact .inl (by omega)
   ·rw [List.mem_singleton.1 hl];exact .inr ⟨rfl,.inl rfl⟩
  ·rename_i hc
   simp only [Bool.and_eq_true,decide_eq_true_eq,not_and,Bool.not_eq_true] at hc
   refine ⟨by simp [h.mem],h.is,fun l hl hP=>?_⟩
   rcases List.mem_append.1 hl with hl|hl
   ·exact h.best l hl hP
   ·rw [List.mem_singleton.1 hl] at hP ⊢
    have q:=hlt out h.mem
    unfold before at q
    by_cases e2:out.length=x.length
    ·rw [if_pos e2] at q
     exact .inr ⟨e2.symm,.inr q⟩
    ·rw [if_neg e2,decide_eq_true_eq] at q
     rw [hc q] at hP;cases hP
theorem lines_cons (w:Nat):∃ t,linesL w=[]::t:=⟨(List.range' 1 4).flatMap fun k=>listsL w k,by rw [linesL];rfl⟩
theorem commonR_eq {w:Nat} {P:List Int→Bool} (h0:P []=true):commonR P [] (linesL w)=commonL w P 4:=by
 refine longest_one (P:=P) (ls:=linesL w) ?_ (common_is h0)
 obtain ⟨t,e⟩:=lines_cons w
 have hs:=lines_sorted w
 rw [e] at hs ⊢
 have:commonR P [] ([]::t)=commonR P [] t:=by rw [commonR];simp
 rw [this]
 exact commonR_is (pre:=[[]]) hs ⟨by simp,h0,fun l hl _ => .inr ⟨by rw [List.mem_singleton.1 hl],.inl (List.mem_singleton.1 hl)⟩⟩
end Go.Den.Ve
end
section
namespace Go.Den.Ve
def climbL (tree:List Int):Nat→Int→Int
 | 0,x=>x
 | k+1,x=>climbL tree k (if 0≤x then tree.getD x.toNat 0 else x)
def treeB (n:Nat) (tree:List Int):Bool :=
 decide (tree.length=n)&&(tree.all (fun x=>decide (-1≤x)&&decide (x<n))&&(List.range n).all fun i=>decide (climbL tree n i<0))
theorem climb_self {tree:List Int} {i:Nat} (h:tree.getD i 0=i):∀ k,climbL tree k i=i
 | 0=>rfl
 | k+1=>by rw [climbL,if_pos (by omega),Int.toNat_natCast,h];exact climb_self h k
def anyT (n:Nat):List (List Int):=(listsL (n+1) n).map fun l=>l.map fun x=>x - 1
theorem bef_map {f:Int→Int} (hf:∀ a b,a<b↔f a<f b):∀ l m:List Int,bef (l.map f) (m.map f)=bef l m
 | [],[]=>rfl
 | [],_::_=>rfl
 | _::_,[]=>rfl
 | a::l,b::m=>by
  simp only [List.map_cons,bef]
  have h1:=hf a b
  have h2:=hf b a
  by_cases e:a=b
  ·subst e;rw [if_pos rfl,if_pos rfl];exact bef_map hf l m
  ·rw [if_neg e,if_neg (by omega)]
   exact decide_eq_decide.2 h1.symm
theorem mem_any {n:Nat} {t:List Int}:t∈anyT n↔t.length=n∧∀ x∈t,-1≤x∧x<n:=by
 rw [anyT,List.mem_map]
 constructor
 ·rintro ⟨l,hl,rfl⟩
  obtain ⟨h1,h2⟩:=mem_lists.1 hl
  refine ⟨by rw [List.length_map,h1],fun x hx=>?_⟩
  obtain ⟨y,hy,rfl⟩:=List.mem_map.1 hx
  have:=h2 y hy
  omega
 ·rintro ⟨h1,h2⟩
  refine ⟨t.map fun x=>x+1,mem_lists.2 ⟨by rw [List.length_map,h1],fun x hx=>?_⟩,?_⟩
  ·obtain ⟨y,hy,rfl⟩:=List.mem_map.1 hx
   have:=h2 y hy
   omega
  ·rw [List.map_map]
   conv=>rhs;rw [← List.map_id t]
   apply List.map_congr_left
   intro x _
   simp only [Function.comp_apply,id];omega
theorem any_sorted (n:Nat):(anyT n).Pairwise (fun a b=>bef a b=true):=by
 rw [anyT,List.pairwise_map]
 exact (lists_sorted (n+1) n).imp fun {a b} h=>by rw [bef_map (fun a b=>by omega)];exact h
def treesL (n:Nat):List (List Int):=(anyT n).filter (treeB n)
theorem mem_trees {n:Nat} {t:List Int}:t∈treesL n↔treeB n t=true:=by
 rw [treesL,List.mem_filter,mem_any]
 constructor
 ·exact fun h=>h.2
 ·intro h
  refine ⟨?_,h⟩
  simp only [treeB,Bool.and_eq_true,List.all_eq_true,decide_eq_true_eq] at h
  exact ⟨h.1,h.2.1⟩
theorem trees_sorted (n:Nat):(treesL n).Pairwise (fun a b=>bef a b=true):=(any_sorted n).sublist List.filter_sublist
def growT (n i:Nat) (l:List Int):List (List Int):=((List.range (n+1)).filter fun (p:Nat)=>decide ((p:Int) - 1≠i)).map fun (p:Nat)=>l++[(p:Int) - 1]
def levT (n:Nat):Nat→List (List Int)
 | 0=>[[]]
 | i+1=>(levT n i).flatMap (growT n i)
theorem bef_app:∀ {l m:List Int} (s t:List Int),bef l m=true→l.length=m.length→bef (l++s) (m++t)=true
 | [],[],s,t,h,_=>by cases h
 | a::l,b::m,s,t,h,e=>by
  simp only [List.cons_append,bef] at h ⊢
  by_cases e1:a=b
  ·rw [if_pos e1] at h ⊢;exact bef_app s t h (by simpa using e)
  ·rw [if_neg e1] at h ⊢;exact h
theorem bef_pre (s t:List Int):∀ l:List Int,bef (l++s) (l++t)=bef s t
 | []=>rfl
 | a::l=>by rw [List.cons_append,List.cons_append,bef,if_pos rfl];exact bef_pre s t l
theorem mem_levT {n:Nat}:∀ {i:Nat} {t:List Int},t∈levT n i↔t.length=i∧∀ k,∀ h:k<t.length,-1≤t[k]∧t[k]<n∧t[k]≠k
 | 0,t=>by
  rw [levT,List.mem_singleton]
  constructor
  ·rintro rfl;exact ⟨rfl,fun k h=>by cases h⟩
  ·exact fun h=>List.length_eq_zero_iff.1 h.1
 | i+1,t=>by
  rw [levT,List.mem_flatMap]
  constructor
  ·rintro ⟨l,hl,h⟩
   obtain ⟨h1,h2⟩:=mem_levT.1 hl
   rw [growT,List.mem_map] at h
   obtain ⟨p,hp,rfl⟩:=h
   rw [List.mem_filter,List.mem_range,decide_eq_true_eq] at hp
   refine ⟨by simp [h1],fun k hk=>?_⟩
   by_cases e:k<l.length
   ·rw [List.getElem_append_left e];exact h2 k e
   ·have:k=l.length:=by simp at hk;omega
    subst this
    rw [List.getElem_append_right (Nat.le_refl _)]
    simp only [Nat.sub_self,List.getElem_cons_zero]
    omega
  ·rintro ⟨h1,h2⟩
   have e:=List.dropLast_concat_getLast (l:=t) (by intro e;rw [e] at h1;cases h1)
   have hl:t.dropLast.length=i:=by rw [List.length_dropLast];omega
   refine ⟨t.dropLast,mem_levT.2 ⟨hl,fun k hk=>?_⟩,?_⟩
   ·rw [List.getElem_dropLast];exact h2 k _
   ·rw [growT,List.mem_map]
    have q:=h2 i (by omega)
    have hg:t.getLast (by intro e;rw [e] at h1;cases h1)=t[i]'(by omega):=by
     rw [List.getLast_eq_getElem];congr 1;omega
    refine ⟨(t[i]'(by omega)+1).toNat,?_,?_⟩
    ·rw [List.mem_filter,List.mem_range,decide_eq_true_eq]
     omega
    ·rw [Int.toNat_of_nonneg (by omega),show t[i]'(by omega)+1 - 1=t[i]'(by omega) by omega,← hg]
     exact e
theorem levT_sorted (n:Nat):∀ i,(levT n i).Pairwise (fun a b=>bef a b=true)
 | 0=>List.pairwise_singleton _ _
 | i+1=>by
  rw [levT]
  refine List.pairwise_flatMap.2 ⟨fun l _=>?_,List.Pairwise.imp_of_mem ?_ (levT_sorted n i)⟩
  ·rw [growT,List.pairwise_map]
   refine List.Pairwise.imp ?_ ((List.pairwise_lt_range (n:=n+1)).sublist List.filter_sublist)
   intro a b hab
   rw [bef_pre,bef,if_neg (by omega)]
   simp;omega
  ·intro a b ha hb hab x hx y hy
   rw [growT,List.mem_map] at hx hy
   obtain ⟨p,_,rfl⟩:=hx
   obtain ⟨q,_,rfl⟩:=hy
   exact bef_app _ _ hab ((mem_levT.1 ha).1.trans (mem_levT.1 hb).1.symm)
theorem star_tree {n:Nat}:treeB n (List.replicate n (-1))=true:=by
 simp only [treeB,Bool.and_eq_true,List.all_eq_true,decide_eq_true_eq,List.length_replicate,true_and]
 refine ⟨fun x hx=>?_,fun i hi=>?_⟩
 ·rw [(List.mem_replicate.1 hx).2];omega
 ·rw [List.mem_range] at hi
  have neg:∀ k (x:Int),x<0→climbL (List.replicate n (-1)) k x<0:=by
   intro k
   induction k with
   | zero=>exact fun x h=>h
   | succ k ih=>intro x h;rw [climbL,if_neg (by omega)];exact ih x h
  cases n with
  | zero=>omega
  | succ k =>
   rw [climbL,if_pos (by omega)]
   refine neg k _ ?_
   rw [Int.toNat_natCast,List.getD_eq_getElem?_getD,List.getElem?_replicate,if_pos hi]
   decide
end Go.Den.Ve
end
section
namespace Go.Den.Ve
structure LN where
 lost:Bool
 words:List Int
structure BK where
 words:Int
 copies:List (List LN)
def inN (x lo hi:Int):Bool:=decide (lo≤x)&&decide (x≤hi)
def lineB (w:Int) (l:List Int):Bool:=decide (l.length≤4)&&l.all (fun x=>inN x 0 (w - 1))
def lnB (w:Int) (x:LN):Bool:=lineB w x.words&&!(x.lost&&!x.words.isEmpty)
def lines1 (b:BK):Nat:=(b.copies.headD []).length
def copyB (b:BK) (c:List LN):Bool:=decide (c.length=lines1 b)&&c.all (lnB b.words)
def bookB (b:BK):Bool:=inN b.words 1 3&&(inN b.copies.length 1 5&&(inN (lines1 b) 1 4&&b.copies.all (copyB b)))
def txtB (b:BK) (t:List (List Int)):Bool:=decide (t.length=lines1 b)&&t.all (lineB b.words)
structure OkB (b:BK):Prop where
 w1:1≤b.words
 w3:b.words≤3
 c1:1≤b.copies.length
 c5:b.copies.length≤5
 l1:1≤lines1 b
 l4:lines1 b≤4
 all:∀ c∈b.copies,c.length=lines1 b∧∀ x∈c,lineB b.words x.words=true∧(x.lost=true→x.words=[])
theorem lineB_iff {w:Int} {l:List Int}:lineB w l=true↔l.length≤4∧∀ x∈l,0≤x∧x<w:=by
 simp only [lineB,inN,Bool.and_eq_true,decide_eq_true_eq,List.all_eq_true]
 constructor
 ·rintro ⟨h1,h2⟩;exact ⟨h1,fun x hx=>by have:=h2 x hx;omega⟩
 ·rintro ⟨h1,h2⟩;exact ⟨h1,fun x hx=>by have:=h2 x hx;omega⟩
theorem bookB_iff {b:BK}:bookB b=true↔OkB b:=by
 simp only [bookB,copyB,lnB,inN,Bool.and_eq_true,decide_eq_true_eq,List.all_eq_true]
 constructor
 ·rintro ⟨⟨h1,h2⟩,⟨h3,h4⟩,⟨h5,h6⟩,h7⟩
  refine ⟨h1,h2,by omega,by omega,by omega,by omega,fun c hc=>⟨(h7 c hc).1,fun x hx=>?_⟩⟩
  obtain ⟨q1,q2⟩:=(h7 c hc).2 x hx
  refine ⟨q1,fun hl=>?_⟩
  simpa [hl] using q2
 ·intro h
  refine ⟨⟨h.w1,h.w3⟩,⟨by have:=h.c1;omega,by have:=h.c5;omega⟩,⟨by have:=h.l1;omega,by have:=h.l4;omega⟩,fun c hc=>⟨(h.all c hc).1,fun x hx=>?_⟩⟩
  obtain ⟨q1,q2⟩:=(h.all c hc).2 x hx
  refine ⟨q1,?_⟩
  cases hl:x.lost
  ·rfl
  ·rw [q2 hl];rfl
theorem mem_linesB {b:BK} (hb:OkB b) {l:List Int}:l∈linesL b.words.toNat↔lineB b.words l=true:=by
 have h:=hb.w1
 rw [mem_lines,lineB_iff]
 constructor
 ·rintro ⟨h1,h2⟩;exact ⟨h1,fun x hx=>by have:=h2 x hx;omega⟩
 ·rintro ⟨h1,h2⟩;exact ⟨h1,fun x hx=>by have:=h2 x hx;omega⟩
def takenI (l:List Int) (x:LN):Int:=if x.lost then 0 else lev l x.words
theorem taken_nn (l:List Int) (x:LN):0≤takenI l x:=by unfold takenI;split <;> omega
def cost1 (b:BK) (i:Nat) (l:List Int):Int:=(b.copies.map fun c=>takenI l (c.getD i ⟨true,[]⟩)).sum
def leastB (b:BK) (i:Nat):List (List Int):=leastL (cost1 b i) (linesL b.words.toNat)
def manyB (b:BK) (i:Nat):Int:=minL (cost1 b i) (linesL b.words.toNat)
def commonB (b:BK) (i:Nat):List Int:=commonL b.words.toNat (fun l=>(leastB b i).all fun x=>holdL x l) 4
theorem lines_ne (w:Nat):linesL w≠[]:=by
 obtain ⟨t,e⟩:=lines_cons w;rw [e];simp
theorem leastB_ne (b:BK) (i:Nat):leastB b i≠[]:=least_ne (lines_ne _)
theorem more_min {α:Type} {m a:α→Int} {ls:List α} (hn:ls≠[]) (ha:∀ x∈ls,0≤a x):minL m ls≤minL (fun x=>m x+a x) ls:=by
 obtain ⟨x,hx,e⟩:=minL_mem (m:=fun x=>m x+a x) hn
 have h1:=minL_le (m:=m) x hx
 have h2:=ha x hx
 rw [← e];show _≤m x+a x;omega
theorem more_le {α:Type} {m a:α→Int} {ls:List α} {y:α} (hy:y∈leastL m ls):minL (fun x=>m x+a x) ls≤minL m ls+a y:=by
 obtain ⟨h1,h2⟩:=mem_least.1 hy
 have:=minL_le (m:=fun x=>m x+a x) y h1
 rw [← h2];exact this
theorem more_one {m a:List Int→Int} {ls:List (List Int)} (hs:ls.Pairwise (fun x y=>before x y=true)) {z:List Int} (ha:∀ x∈ls,0≤a x∧(a x=0↔x=z)) (hz:z∈leastL m ls):minL (fun x=>m x+a x) ls=minL m ls∧leastL (fun x=>m x+a x) ls=[z]:=by
 obtain ⟨h1,h2⟩:=mem_least.1 hz
 have hn:=List.ne_nil_of_mem h1
 have e0:a z=0:=(ha z h1).2.2 rfl
 have e1:minL (fun x=>m x+a x) ls=minL m ls:=by
  have q1:=more_min (m:=m) hn fun x hx=>(ha x hx).1
  have q2:=more_le (m:=m) (a:=a) hz
  omega
 refine ⟨e1,sorted_ext (lt:=before) before_irr (fun _ _=>before_asym) (hs.sublist List.filter_sublist) (List.pairwise_singleton _ _) fun x=>?_⟩
 rw [mem_least,e1,List.mem_singleton]
 constructor
 ·rintro ⟨hx,e⟩
  have q1:=minL_le (m:=m) x hx
  have q2:=(ha x hx).1
  exact (ha x hx).2.1 (by omega)
 ·rintro rfl
  exact ⟨h1,by rw [← h2];show m x+a x=m x;omega⟩
theorem sum_le {α:Type} {f g:α→Int}:∀ {l:List α},(∀ x∈l,f x≤g x)→(l.map f).sum≤(l.map g).sum
 | [],_=>Int.le_refl _
 | x::l,h=>by
  have:=sum_le (l:=l) fun y hy=>h y (by simp [hy])
  have:=h x (by simp)
  simp only [List.map_cons,List.sum_cons];omega
theorem sum_eq {α:Type} {f g:α→Int}:∀ {l:List α},(∀ x∈l,f x≤g x)→(l.map f).sum=(l.map g).sum→∀ x∈l,f x=g x
 | [],_,_,_,h=>by cases h
 | x::l,h,e,y,hy=>by
  have h1:=sum_le (l:=l) fun y hy=>h y (by simp [hy])
  have h2:=h x (by simp)
  simp only [List.map_cons,List.sum_cons] at e
  rcases List.mem_cons.1 hy with rfl|hy
  ·omega
  ·exact sum_eq (l:=l) (fun y hy=>h y (by simp [hy])) (by omega) y hy
def copiedI (from':List (List Int)) (c:List LN):Int:=((List.range c.length).map fun i=>takenI (from'.getD i []) (c.getD i ⟨true,[]⟩)).sum
def linesW (c:List LN):List (List Int):=c.map LN.words
def takesI (b:BK) (t:List (List Int)) (n:Nat) (p:Int):Int:=copiedI (if p<0 then t else linesW (b.copies.getD p.toNat [])) (b.copies.getD n [])
def totalI (b:BK) (t:List (List Int)) (tree:List Int):Int:=((List.range tree.length).map fun n=>takesI b t n (tree.getD n 0)).sum
def wholeT (b:BK):List (List Int):=(List.range (lines1 b)).map fun i=>(leastB b i).headD []
def wholeN (b:BK):Int:=(List.range (lines1 b)).foldl (fun n i=>n*((leastB b i).length:Int)) 1
def wholeC (b:BK):Int:=((List.range (lines1 b)).map fun i=>manyB b i).sum
end Go.Den.Ve
end

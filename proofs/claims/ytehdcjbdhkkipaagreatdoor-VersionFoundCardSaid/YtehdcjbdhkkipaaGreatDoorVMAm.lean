/- Part of the proofs of laws of the package version. Texts: VeA, VeB, VeC, VeD, VeE, VeF. -/
set_option linter.unusedSimpArgs false
set_option linter.unusedVariables false
section
namespace Go.Den.Ve
inductive Ed:List Int→List Int→Nat→Prop
 | nil:Ed [] [] 0
 | keep {l m:List Int} {n:Nat} (a:Int) (h:Ed l m n):Ed (a::l) (a::m) n
 | change {l m:List Int} {n:Nat} (a b:Int) (h:Ed l m n):Ed (a::l) (b::m) (n+1)
 | add {l m:List Int} {n:Nat} (b:Int) (h:Ed l m n):Ed l (b::m) (n+1)
 | drop {l m:List Int} {n:Nat} (a:Int) (h:Ed l m n):Ed (a::l) m (n+1)
def levR (a:Int) (f:List Int→Nat):List Int→Nat
 | []=>f []+1
 | b::m=>min (f m+if a=b then 0 else 1) (1+min (f (b::m)) (levR a f m))
def lev:List Int→List Int→Nat
 | []=>List.length
 | a::l=>levR a (lev l)
theorem lev_nil(m:List Int):lev [] m=m.length:=rfl
theorem lev_cons_nil(a:Int)(l:List Int):lev (a::l) []=lev l []+1:=rfl
theorem lev_cons(a b:Int)(l m:List Int):lev (a::l) (b::m)=min (lev l m+if a=b then 0 else 1) (1+min (lev l (b::m)) (lev (a::l) m)):=rfl
theorem lev_len(l:List Int):lev l []=l.length:=by
 induction l with
 | nil=>rfl
 | cons a l ih=>rw[lev_cons_nil,ih];rfl
theorem ed_adds:∀ m:List Int,Ed [] m m.length
 | [] => .nil
 | b::m => .add b (ed_adds m)
theorem ed_drops:∀ l:List Int,Ed l [] l.length
 | [] => .nil
 | a::l => .drop a (ed_drops l)
theorem ed_lev:∀ l m:List Int,Ed l m (lev l m)
 | [],m=>ed_adds m
 | a::l,[]=>by rw[lev_len];exact ed_drops _
 | a::l,b::m=>by
  have h1:=ed_lev l m
  have h2:=ed_lev l (b::m)
  have h3:=ed_lev (a::l) m
  rw[lev_cons]
  by_cases e1:lev l m+(if a=b then 0 else 1)≤1+min (lev l (b::m)) (lev (a::l) m)
  ·rw[Nat.min_eq_left e1]
   by_cases e:a=b
   ·subst e;rw[if_pos rfl];exact .keep a h1
   ·rw[if_neg e];exact .change a b h1
  ·rw[Nat.min_eq_right (by omega)]
   by_cases e2:lev l (b::m)≤lev (a::l) m
   ·rw[Nat.min_eq_left e2,Nat.add_comm];exact .drop a h2
   ·rw[Nat.min_eq_right (by omega),Nat.add_comm];exact .add b h3
theorem lev_drop(a:Int)(l:List Int):∀ m,lev (a::l) m≤lev l m+1
 | []=>by rw[lev_cons_nil];omega
 | b::m=>by rw[lev_cons];omega
theorem lev_add(b:Int)(m:List Int):∀ l,lev l (b::m)≤lev l m+1
 | []=>by rw[lev_nil,lev_nil];simp
 | a::l=>by rw[lev_cons];omega
theorem lev_le{l m:List Int}{n:Nat}(h:Ed l m n):lev l m≤n:=by
 induction h with
 | nil=>exact Nat.le_refl _
 | keep a _ ih=>rw[lev_cons,if_pos rfl];omega
 | change a b _ ih=>rw[lev_cons];split <;> omega
 | add b _ ih=>exact Nat.le_trans (lev_add _ _ _) (by omega)
 | drop a _ ih=>exact Nat.le_trans (lev_drop _ _ _) (by omega)
theorem Ed.symm{l m:List Int}{n:Nat}(h:Ed l m n):Ed m l n:=by
 induction h with
 | nil=>exact .nil
 | keep a _ ih=>exact .keep a ih
 | change a b _ ih=>exact .change b a ih
 | add b _ ih=>exact .drop b ih
 | drop a _ ih=>exact .add a ih
theorem Ed.trans{l m:List Int}{n:Nat}(h:Ed l m n):∀ {k:List Int} {p:Nat},Ed m k p→lev l k≤n+p:=by
 induction h with
 | nil=>intro k p h2;have:=lev_le h2;omega
 | @keep l m n a h ih =>
  intro k p h2
  generalize hm:a::m=am at h2
  induction h2 with
  | nil=>cases hm
  | keep b h3 _ =>
   cases hm
   have:=ih h3
   rw[lev_cons,if_pos rfl];omega
  | change b c h3 _ =>
   cases hm
   have:=ih h3
   rw[lev_cons];split <;> omega
  | add b h3 ih3=>have:=ih3 hm;exact Nat.le_trans (lev_add _ _ _) (by omega)
  | drop b h3 _ =>
   cases hm
   have:=ih h3
   exact Nat.le_trans (lev_drop _ _ _) (by omega)
 | @change l m n a b h ih =>
  intro k p h2
  generalize hm:b::m=am at h2
  induction h2 with
  | nil=>cases hm
  | keep c h3 _ =>
   cases hm
   have:=ih h3
   rw[lev_cons];split <;> omega
  | change c e h3 _ =>
   cases hm
   have:=ih h3
   rw[lev_cons];split <;> omega
  | add c h3 ih3=>have:=ih3 hm;exact Nat.le_trans (lev_add _ _ _) (by omega)
  | drop c h3 _ =>
   cases hm
   have:=ih h3
   exact Nat.le_trans (lev_drop _ _ _) (by omega)
 | @add l m n b h ih =>
  intro k p h2
  generalize hm:b::m=am at h2
  induction h2 with
  | nil=>cases hm
  | keep c h3 _ =>
   cases hm
   have:=ih h3
   exact Nat.le_trans (lev_add _ _ _) (by omega)
  | change c e h3 _ =>
   cases hm
   have:=ih h3
   exact Nat.le_trans (lev_add _ _ _) (by omega)
  | add c h3 ih3=>have:=ih3 hm;exact Nat.le_trans (lev_add _ _ _) (by omega)
  | drop c h3 _ =>
   cases hm
   have:=ih h3
   omega
 | drop a h ih =>
  intro k p h2
  have:=ih h2
  exact Nat.le_trans (lev_drop _ _ _) (by omega)
theorem lev_tri(l m k:List Int):lev l k≤lev l m+lev m k:=(ed_lev l m).trans (ed_lev m k)
theorem lev_self:∀ l,lev l l=0
 | []=>rfl
 | a::l=>by rw[lev_cons,if_pos rfl,lev_self l];omega
theorem lev_max:∀ l m:List Int,lev l m≤max l.length m.length
 | [],m=>by rw[lev_nil];omega
 | a::l,[]=>by rw[lev_len];omega
 | a::l,b::m=>by
  have:=lev_max l m
  rw[lev_cons]
  simp only[List.length_cons]
  split <;> omega
theorem lev_keep(a:Int)(l m:List Int):lev (a::l) (a::m)=lev l m:=by
 rw[lev_cons,if_pos rfl]
 have h1:lev l m≤1+lev l (a::m):=by
  have h2:=lev_tri l (a::m) m
  have h3:lev (a::m) m≤1:=by have:=lev_drop a m m;rw[lev_self] at this;exact this
  omega
 have h4:lev l m≤1+lev (a::l) m:=by
  have h2:=lev_tri l (a::l) m
  have h3:lev l (a::l)≤1:=by have:=lev_add a l l;rw[lev_self] at this;exact this
  omega
 omega
theorem lev_other{a b:Int}(h:a≠b)(l m:List Int):lev (a::l) (b::m)=1+min (lev l m) (min (lev l (b::m)) (lev (a::l) m)):=by
 rw[lev_cons,if_neg h];omega
theorem Ed.app{l m l' m':List Int}{n p:Nat}(h:Ed l m n)(h':Ed l' m' p):Ed (l++l') (m++m') (n+p):=by
 induction h with
 | nil=>simpa using h'
 | keep a _ ih=>exact .keep a ih
 | @change l m n a b _ ih=>rw[show n+1+p=(n+p)+1 by omega];exact .change a b ih
 | @add l m n b _ ih=>rw[show n+1+p=(n+p)+1 by omega];exact .add b ih
 | @drop l m n a _ ih=>rw[show n+1+p=(n+p)+1 by omega];exact .drop a ih
theorem Ed.rev{l m:List Int}{n:Nat}(h:Ed l m n):Ed l.reverse m.reverse n:=by
 induction h with
 | nil=>exact .nil
 | keep a _ ih=>rw[List.reverse_cons,List.reverse_cons];exact ih.app (.keep a .nil)
 | change a b _ ih=>rw[List.reverse_cons,List.reverse_cons];exact ih.app (.change a b .nil)
 | add b _ ih=>rw[List.reverse_cons];have:=ih.app (Ed.add b .nil);simpa using this
 | drop a _ ih=>rw[List.reverse_cons];have:=ih.app (Ed.drop a .nil);simpa using this
theorem lev_rev(l m:List Int):lev l.reverse m.reverse=lev l m:=by
 refine Nat.le_antisymm (lev_le (ed_lev l m).rev) ?_
 have:=lev_le (ed_lev l.reverse m.reverse).rev
 rwa [List.reverse_reverse,List.reverse_reverse] at this
theorem lev_snoc(a b:Int)(l m:List Int):lev (l++[a]) (m++[b])=if a=b then lev l m else 1+min (lev l m) (min (lev l (m++[b])) (lev (l++[a]) m)):=by
 have h:∀ l m,lev l m=lev l.reverse m.reverse:=fun l m=>(lev_rev l m).symm
 rw[h (l++[a]),h l m,h l (m++[b]),h (l++[a]) m,List.reverse_append,List.reverse_append]
 simp only[List.reverse_cons,List.reverse_nil,List.nil_append,List.singleton_append]
 by_cases e:a=b
 ·subst e;rw[if_pos rfl,lev_keep]
 ·rw[if_neg e,lev_other e]
end Go.Den.Ve
end
section
namespace Go.Den.Ve
def bef:List Int→List Int→Bool
 | [],[]=>false
 | [],_::_=>true
 | _::_,[]=>false
 | a::l,b::m=>if a=b then bef l m else decide (a<b)
theorem bef_irr:∀ l,bef l l=false
 | []=>rfl
 | a::l=>by simp only[bef,if_true];exact bef_irr l
theorem bef_asym:∀ l m,bef l m=true→bef m l=false
 | [],[],h=>by cases h
 | [],_::_,_=>rfl
 | _::_,[],h=>by cases h
 | a::l,b::m,h=>by
  simp only[bef] at h ⊢
  by_cases e:a=b
  ·subst e;simp only[if_true] at h ⊢;exact bef_asym l m h
  ·rw[if_neg e] at h;rw[if_neg (Ne.symm e)]
   simp only[decide_eq_true_eq,decide_eq_false_iff_not] at *;omega
theorem bef_total:∀ {a b:List Int},bef a b=false→bef b a=false→a=b
 | [],[],_,_=>rfl
 | [],_::_,h,_=>by cases h
 | _::_,[],_,h=>by cases h
 | x::a,y::b,h1,h2=>by
  simp only[bef] at h1 h2
  by_cases e:x=y
  ·subst e
   rw[if_pos rfl] at h1 h2
   rw[bef_total h1 h2]
  ·rw[if_neg e] at h1
   rw[if_neg (Ne.symm e)] at h2
   simp only[decide_eq_false_iff_not] at h1 h2
   omega
def before (l m:List Int):Bool:=if l.length=m.length then bef l m else decide (l.length<m.length)
theorem sorted_ext{lt:List Int→List Int→Bool}(irr:∀ x,lt x x=false)(asym:∀ x y,lt x y=true→lt y x=false):∀ {a b:List (List Int)},a.Pairwise (fun x y=>lt x y=true)→b.Pairwise (fun x y=>lt x y=true)→(∀ x,x∈a↔x∈b)→a=b
 | [],[],_,_,_=>rfl
 | [],y::b,_,_,h=>by have:=(h y).2 (by simp);cases this
 | x::a,[],_,_,h=>by have:=(h x).1 (by simp);cases this
 | x::a,y::b,ha,hb,h=>by
  rw[List.pairwise_cons] at ha hb
  have hxy:x=y:=by
   rcases List.mem_cons.1 ((h x).1 (by simp)) with e|h1
   ·exact e
   ·rcases List.mem_cons.1 ((h y).2 (by simp)) with e|h2
    ·exact e.symm
    ·have a1:=hb.1 x h1
     have a2:=asym _ _ (ha.1 y h2)
     rw[a1] at a2;cases a2
  subst hxy
  have ne:∀ {l:List (List Int)},(∀ z∈l,lt x z=true)→x∉l:=fun hl hx=>by
   have:=hl x hx
   rw[irr] at this;cases this
  rw[sorted_ext irr asym ha.2 hb.2 fun z=>?_]
  constructor
  ·intro hz
   rcases List.mem_cons.1 ((h z).1 (by simp[hz])) with e|h1
   ·rw[e] at hz;exact absurd hz (ne ha.1)
   ·exact h1
  ·intro hz
   rcases List.mem_cons.1 ((h z).2 (by simp[hz])) with e|h1
   ·rw[e] at hz;exact absurd hz (ne hb.1)
   ·exact h1
def listsL (w:Nat):Nat→List (List Int)
 | 0=>[[]]
 | k+1=>(List.range w).flatMap fun (x:Nat)=>(listsL w k).map fun l=>(x:Int)::l
theorem mem_lists{w:Nat}{l:List Int}:∀ {k:Nat},l∈listsL w k↔l.length=k∧∀ x∈l,0≤x∧x<w:=by
 intro k
 induction k generalizing l with
 | zero =>
  rw[listsL,List.mem_singleton]
  constructor
  ·rintro rfl;exact⟨rfl,fun _ h=>by cases h⟩
  ·rintro⟨h,_⟩;exact List.eq_nil_of_length_eq_zero h
 | succ k ih =>
  rw[listsL,List.mem_flatMap]
  constructor
  ·rintro⟨x,hx,h⟩
   rw[List.mem_range] at hx
   obtain⟨t,ht,rfl⟩:=List.mem_map.1 h
   obtain⟨h1,h2⟩:=ih.1 ht
   refine⟨by simp[h1],fun y hy=>?_⟩
   rcases List.mem_cons.1 hy with rfl|hy
   ·omega
   ·exact h2 y hy
  ·rintro⟨h1,h2⟩
   cases l with
   | nil=>simp at h1
   | cons x t =>
    have hx:=h2 x (by simp)
    exact⟨x.toNat,List.mem_range.2 (by omega),List.mem_map.2 ⟨t,ih.2 ⟨by simpa using h1,fun y hy=>h2 y (by simp[hy])⟩,by rw[Int.toNat_of_nonneg hx.1]⟩⟩
theorem lists_sorted(w:Nat):∀ k,(listsL w k).Pairwise (fun a b=>bef a b=true)
 | 0=>List.pairwise_singleton _ _
 | k+1=>by
  rw[listsL]
  refine List.pairwise_flatMap.2 ⟨fun x _=>?_,List.Pairwise.imp ?_ (List.pairwise_lt_range (n:=w))⟩
  ·rw[List.pairwise_map]
   exact (lists_sorted w k).imp fun h=>by simp only[bef,if_true];exact h
  ·intro a b hab x hx y hy
   obtain⟨t,_,rfl⟩:=List.mem_map.1 hx
   obtain⟨u,_,rfl⟩:=List.mem_map.1 hy
   rw[bef,if_neg (by omega)]
   simp;omega
def linesL (w:Nat):List (List Int):=(List.range 5).flatMap fun k=>listsL w k
theorem mem_lines{w:Nat}{l:List Int}:l∈linesL w↔l.length≤4∧∀ x∈l,0≤x∧x<w:=by
 rw[linesL,List.mem_flatMap]
 constructor
 ·rintro⟨k,hk,h⟩
  rw[List.mem_range] at hk
  obtain⟨h1,h2⟩:=mem_lists.1 h
  exact⟨by omega,h2⟩
 ·rintro⟨h1,h2⟩
  exact⟨l.length,List.mem_range.2 (by omega),mem_lists.2 ⟨rfl,h2⟩⟩
def minL {α:Type} (m:α→Int):List α→Int
 | []=>0
 | [x]=>m x
 | x::y::l=>min (m x) (minL m (y::l))
def leastL {α:Type} (m:α→Int) (l:List α):List α:=l.filter fun x=>m x==minL m l
theorem minL_le{α:Type}{m:α→Int}:∀ {l:List α},∀ x∈l,minL m l≤m x
 | [y],x,h=>by rw[List.mem_singleton.1 h];exact Int.le_refl _
 | y::z::l,x,h=>by
  rw[minL]
  rcases List.mem_cons.1 h with rfl|h
  ·omega
  ·have:=minL_le (m:=m) x h;omega
theorem minL_mem{α:Type}{m:α→Int}:∀ {l:List α},l≠[]→∃ x∈l,m x=minL m l
 | [],h=>absurd rfl h
 | [y],_=>⟨y,by simp,rfl⟩
 | y::z::l,_=>by
  obtain⟨x,hx,e⟩:=minL_mem (m:=m) (l:=z::l) (by simp)
  rw[minL]
  by_cases h:m y≤minL m (z::l)
  ·exact⟨y,by simp,by omega⟩
  ·exact⟨x,by simp[hx],by omega⟩
theorem mem_least{α:Type}{m:α→Int}{l:List α}{x:α}:x∈leastL m l↔x∈l∧m x=minL m l:=by
 rw[leastL,List.mem_filter,beq_iff_eq]
theorem least_ne{α:Type}{m:α→Int}{l:List α}(h:l≠[]):leastL m l≠[]:=by
 obtain⟨x,hx,e⟩:=minL_mem (m:=m) h
 exact List.ne_nil_of_mem (mem_least.2 ⟨hx,e⟩)
end Go.Den.Ve
end
section
namespace Go.Den.Ve
abbrev Sp:=Int×Int
def stepsL:List Int→List Int→List Sp
 | [],[]=>[]
 | [],b::m=>(3,b)::stepsL [] m
 | a::l,[]=>(4,a)::stepsL l []
 | a::l,b::m =>
  if a=b then (1,a)::stepsL l m
  else if lev l m≤lev (a::l) m∧lev l m≤lev l (b::m) then (2,b)::stepsL l m
  else if lev (a::l) m≤lev l (b::m) then (3,b)::stepsL (a::l) m
  else (4,a)::stepsL l (b::m)
 termination_by l m=>l.length+m.length
def led1 (x:Sp):List Int→List Int→Option (List Int×List Int)
 | a::l,b::m =>
  if x.1=1 then (if x.2=b∧a=b then some (l,m) else none)
  else if x.1=2 then (if x.2=b∧a≠b then some (l,m) else none)
  else if x.1=3 then (if x.2=b then some (a::l,m) else none)
  else if x.1=4 then (if x.2=a then some (l,b::m) else none) else none
 | [],b::m=>if x.1=3∧x.2=b then some ([],m) else none
 | a::l,[]=>if x.1=4∧x.2=a then some (l,[]) else none
 | [],[]=>none
def ledL:List Sp→List Int→List Int→Bool
 | [],l,m=>l.isEmpty&&m.isEmpty
 | x::s,l,m=>match led1 x l m with
  | none=>false
  | some p=>ledL s p.1 p.2
def costL:List Sp→Nat
 | []=>0
 | x::s=>costL s+if x.1=1 then 0 else 1
inductive Led:List Sp→List Int→List Int→Prop
 | nil:Led [] [] []
 | keep {s:List Sp} {l m:List Int} (a:Int) (h:Led s l m):Led ((1,a)::s) (a::l) (a::m)
 | change {s:List Sp} {l m:List Int} (a b:Int) (e:a≠b) (h:Led s l m):Led ((2,b)::s) (a::l) (b::m)
 | add {s:List Sp} {l m:List Int} (b:Int) (h:Led s l m):Led ((3,b)::s) l (b::m)
 | drop {s:List Sp} {l m:List Int} (a:Int) (h:Led s l m):Led ((4,a)::s) (a::l) m
theorem led_of:∀ {s:List Sp} {l m:List Int},ledL s l m=true→Led s l m
 | [],[],[],_ => .nil
 | [],a::l,m,h=>by simp[ledL] at h
 | [],[],b::m,h=>by simp[ledL] at h
 | (k,w)::s,[],[],h=>by simp[ledL,led1] at h
 | (k,w)::s,[],b::m,h=>by
  simp only[ledL,led1] at h
  by_cases e:k=3∧w=b
  ·obtain⟨rfl,rfl⟩:=e
   simp only[and_self,if_true] at h
   exact .add _ (led_of h)
  ·rw[if_neg e] at h;cases h
 | (k,w)::s,a::l,[],h=>by
  simp only[ledL,led1] at h
  by_cases e:k=4∧w=a
  ·obtain⟨rfl,rfl⟩:=e
   simp only[and_self,if_true] at h
   exact .drop _ (led_of h)
  ·rw[if_neg e] at h;cases h
 | (k,w)::s,a::l,b::m,h=>by
  simp only[ledL,led1] at h
  by_cases e1:k=1
  ·subst e1
   rw[if_pos rfl] at h
   by_cases e:w=b∧a=b
   ·obtain⟨rfl,rfl⟩:=e
    rw[if_pos ⟨rfl,rfl⟩] at h
    exact .keep _ (led_of h)
   ·rw[if_neg e] at h;cases h
  ·rw[if_neg e1] at h
   by_cases e2:k=2
   ·subst e2
    rw[if_pos rfl] at h
    by_cases e:w=b∧a≠b
    ·rw[if_pos e] at h
     obtain⟨rfl,e⟩:=e
     exact .change _ _ e (led_of h)
    ·rw[if_neg e] at h;cases h
   ·rw[if_neg e2] at h
    by_cases e3:k=3
    ·subst e3
     rw[if_pos rfl] at h
     by_cases e:w=b
     ·subst e
      rw[if_pos rfl] at h
      exact .add _ (led_of h)
     ·rw[if_neg e] at h;cases h
    ·rw[if_neg e3] at h
     by_cases e4:k=4
     ·subst e4
      rw[if_pos rfl] at h
      by_cases e:w=a
      ·subst e
       rw[if_pos rfl] at h
       exact .drop _ (led_of h)
      ·rw[if_neg e] at h;cases h
     ·rw[if_neg e4] at h;cases h
theorem Led.is{s:List Sp}{l m:List Int}(h:Led s l m):ledL s l m=true:=by
 induction h with
 | nil=>rfl
 | keep a _ ih=>simp[ledL,led1,ih]
 | change a b e _ ih=>simp[ledL,led1,e,ih]
 | @add s l m b _ ih=>cases l <;> simp[ledL,led1,ih]
 | @drop s l m a _ ih=>cases m <;> simp[ledL,led1,ih]
theorem Led.ed{s:List Sp}{l m:List Int}(h:Led s l m):Ed l m (costL s):=by
 induction h with
 | nil=>exact .nil
 | keep a _ ih=>exact .keep a ih
 | change a b e _ ih=>exact .change a b ih
 | add b _ ih=>exact .add b ih
 | drop a _ ih=>exact .drop a ih
theorem Led.len{s:List Sp}{l m:List Int}(h:Led s l m):s.length≤l.length+m.length:=by
 induction h with
 | nil=>exact Nat.le_refl _
 | keep a _ ih=>simp only[List.length_cons];omega
 | change a b e _ ih=>simp only[List.length_cons];omega
 | add b _ ih=>simp only[List.length_cons];omega
 | drop a _ ih=>simp only[List.length_cons];omega
theorem steps_led(l m:List Int):Led (stepsL l m) l m:=by
 fun_induction stepsL l m with
 | case1=>exact .nil
 | case2 b m ih=>exact .add b ih
 | case3 a l ih=>exact .drop a ih
 | case4 l b m ih=>exact .keep b ih
 | case5 a l b m h1 h2 ih=>exact .change a b h1 ih
 | case6 a l b m h1 h2 h3 ih=>exact .add b ih
 | case7 a l b m h1 h2 h3 ih=>exact .drop a ih
def soonL:List Sp→List Sp→Bool
 | a::s,b::t=>if a=b then soonL s t else decide (a.1<b.1) || (decide (a.1=b.1)&&decide (a.2<b.2))
 | [],_::_=>true
 | _,[]=>false
theorem soon_self:∀ s:List Sp,soonL s s=false
 | []=>rfl
 | a::s=>by rw[soonL,if_pos rfl];exact soon_self s
def stepsR:List Int→List Int→Int→Option (List Sp)
 | [],[],n=>if n=0 then some [] else none
 | [],b::m,n=>if n<0 then none else (stepsR [] m (n - 1)).map fun s=>(3,b)::s
 | a::l,[],n=>if n<0 then none else (stepsR l [] (n - 1)).map fun s=>(4,a)::s
 | a::l,b::m,n=>if n<0 then none else
  match stepsR l m (if a=b then n else n - 1) with
  | some s=>some (((if a=b then 1 else 2),b)::s)
  | none=>match stepsR (a::l) m (n - 1) with
   | some s=>some ((3,b)::s)
   | none=>(stepsR l (b::m) (n - 1)).map fun s=>(4,a)::s
 termination_by l m=>l.length+m.length
end Go.Den.Ve
end
section
namespace Go.Den.Ve
theorem minL_cons{α:Type}(m:α→Int)(x:α){l:List α}(h:l≠[]):minL m (x::l)=min (m x) (minL m l):=by
 cases l with
 | nil=>exact absurd rfl h
 | cons y l=>rfl
theorem minL_snoc{α:Type}(m:α→Int)(x:α):∀ {l:List α},l≠[]→minL m (l++[x])=min (minL m l) (m x)
 | [y],_=>rfl
 | y::z::l,_=>by
  have:=minL_snoc m x (l:=z::l) (by simp)
  rw[List.cons_append,minL_cons m y (l:=z::l++[x]) (by simp),this,minL_cons m y (l:=z::l) (by simp)]
  omega
theorem least_snoc{α:Type}(m:α→Int)(x:α){l:List α}(h:l≠[]):leastL m (l++[x])=if m x<minL m l then [x] else if m x=minL m l then leastL m l++[x] else leastL m l:=by
 unfold leastL
 rw[minL_snoc m x h,List.filter_append]
 split
 ·rename_i h1
  rw[show min (minL m l) (m x)=m x by omega]
  have:l.filter (fun y=>m y==m x)=[]:=by
   rw[List.filter_eq_nil_iff]
   intro y hy e
   have:=minL_le (m:=m) y hy
   rw[beq_iff_eq] at e;omega
  rw[this];simp
 ·rename_i h1
  rw[show min (minL m l) (m x)=minL m l by omega]
  split
  ·rename_i h2
   simp[h2]
  ·rename_i h2
   simp[h2]
def holdL:List Int→List Int→Bool
 | _,[]=>true
 | [],_::_=>false
 | w::line,x::list=>if x=w then holdL line list else holdL line (x::list)
theorem hold_nil:∀ l,holdL l []=true
 | []=>rfl
 | _::_=>rfl
def commonL (w:Nat) (P:List Int→Bool):Nat→List Int
 | 0=>[]
 | k+1=>match (listsL w (k+1)).find? P with
  | some l=>l
  | none=>commonL w P k
def commonR (P:List Int→Bool):List Int→List (List Int)→List Int
 | out,[]=>out
 | out,l::t=>commonR P (if (decide (l.length>out.length)&&P l)=true then l else out) t
structure Longest (P:List Int→Bool) (ls:List (List Int)) (c:List Int):Prop where
 mem:c∈ls
 is:P c=true
 best:∀ l∈ls,P l=true→l.length<c.length∨l.length=c.length∧(l=c∨bef c l=true)
theorem find_first{lt:List Int→List Int→Bool}{P:List Int→Bool}:∀ {ls:List (List Int)} {c:List Int},ls.Pairwise (fun a b=>lt a b=true)→ls.find? P=some c→c∈ls∧P c=true∧∀ l∈ls,P l=true→l=c∨lt c l=true
 | [],_,_,h=>by cases h
 | x::ls,c,hp,h=>by
  rw[List.pairwise_cons] at hp
  rw[List.find?_cons] at h
  cases hx:P x
  ·rw[hx] at h
   obtain⟨h1,h2,h3⟩:=find_first hp.2 h
   refine⟨by simp[h1],h2,fun l hl hP=>?_⟩
   rcases List.mem_cons.1 hl with rfl|hl
   ·rw[hx] at hP;cases hP
   ·exact h3 l hl hP
  ·rw[hx] at h
   simp only[Option.some.injEq] at h
   subst h
   refine⟨by simp,hx,fun l hl _=>?_⟩
   rcases List.mem_cons.1 hl with rfl|hl
   ·exact .inl rfl
   ·exact .inr (hp.1 l hl)
theorem common_longest{w:Nat}{P:List Int→Bool}(h0:P []=true):∀ {k:Nat},k≤4→(∀ l∈linesL w,P l=true→l.length≤k)→Longest P (linesL w) (commonL w P k)
 | 0,_,hl=>⟨mem_lines.2 ⟨by simp[commonL],by simp[commonL]⟩,h0,fun l h1 h2=>by
   have:=hl l h1 h2
   refine .inr ⟨by simp only[commonL,List.length_nil];omega,.inl ?_⟩
   cases l with
   | nil=>rfl
   | cons=>simp at this⟩
 | k+1,hk,hl=>by
  cases hf:(listsL w (k+1)).find? P with
  | some c =>
   obtain⟨h1,h2,h3⟩:=find_first (lists_sorted w (k+1)) hf
   rw[mem_lists] at h1
   have e:commonL w P (k+1)=c:=by rw[commonL,hf]
   rw[e]
   refine⟨mem_lines.2 ⟨by omega,h1.2⟩,h2,fun l hm hP=>?_⟩
   have q:=hl l hm hP
   by_cases hq:l.length=k+1
   ·exact .inr ⟨hq.trans h1.1.symm,h3 l (mem_lists.2 ⟨hq,(mem_lines.1 hm).2⟩) hP⟩
   ·exact .inl (by omega)
  | none =>
   have e:commonL w P (k+1)=commonL w P k:=by rw[commonL,hf]
   rw[e]
   refine common_longest h0 (by omega) fun l hm hP=>?_
   have q:=hl l hm hP
   by_cases hq:l.length=k+1
   ·rw[List.find?_eq_none] at hf
    exact absurd hP (hf l (mem_lists.2 ⟨hq,(mem_lines.1 hm).2⟩))
   ·omega
theorem commonR_is{P:List Int→Bool}:∀ {post pre:List (List Int)} {out:List Int},(pre++post).Pairwise (fun a b=>before a b=true)→(Longest P pre out)→Longest P (pre++post) (commonR P out post)
 | [],pre,out,_,h=>by rw[List.append_nil];exact h
 | x::post,pre,out,hp,h=>by
  have e:pre++x::post=(pre++[x])++post:=by simp
  rw[e] at hp ⊢
  rw[commonR]
  refine commonR_is hp ?_
  have hlt:∀ y∈pre,before y x=true:=fun y hy=>by
   rw[List.append_assoc,List.pairwise_append] at hp
   exact hp.2.2 y hy x (by simp)
  split
  ·rename_i hc
   simp only[Bool.and_eq_true,decide_eq_true_eq] at hc
   refine⟨by simp,hc.2,fun l hl hP=>?_⟩
   rcases List.mem_append.1 hl with hl|hl
   ·rcases h.best l hl hP with h1|⟨h1,_⟩ <;> exact .inl (by omega)
   ·rw[List.mem_singleton.1 hl];exact .inr ⟨rfl,.inl rfl⟩
  ·rename_i hc
   simp only[Bool.and_eq_true,decide_eq_true_eq,not_and,Bool.not_eq_true] at hc
   refine⟨by simp[h.mem],h.is,fun l hl hP=>?_⟩
   rcases List.mem_append.1 hl with hl|hl
   ·exact h.best l hl hP
   ·rw[List.mem_singleton.1 hl] at hP ⊢
    have q:=hlt out h.mem
    unfold before at q
    by_cases e2:out.length=x.length
    ·rw[if_pos e2] at q
     exact .inr ⟨e2.symm,.inr q⟩
    ·rw[if_neg e2,decide_eq_true_eq] at q
     rw[hc q] at hP;cases hP
theorem lines_cons(w:Nat):∃ t,linesL w=[]::t:=⟨(List.range' 1 4).flatMap fun k=>listsL w k,by rw[linesL];rfl⟩
end Go.Den.Ve
end
section
namespace Go.Den.Ve
def climbL (tree:List Int):Nat→Int→Int
 | 0,x=>x
 | k+1,x=>climbL tree k (if 0≤x then tree.getD x.toNat 0 else x)
def treeB (n:Nat) (tree:List Int):Bool :=
 decide (tree.length=n)&&(tree.all (fun x=>decide (-1≤x)&&decide (x<n))&&(List.range n).all fun i=>decide (climbL tree n i<0))
theorem climb_self{tree:List Int}{i:Nat}(h:tree.getD i 0=i):∀ k,climbL tree k i=i
 | 0=>rfl
 | k+1=>by rw[climbL,if_pos (by omega),Int.toNat_natCast,h];exact climb_self h k
def anyT (n:Nat):List (List Int):=(listsL (n+1) n).map fun l=>l.map fun x=>x - 1
theorem bef_map{f:Int→Int}(hf:∀ a b,a<b↔f a<f b):∀ l m:List Int,bef (l.map f) (m.map f)=bef l m
 | [],[]=>rfl
 | [],_::_=>rfl
 | _::_,[]=>rfl
 | a::l,b::m=>by
  simp only[List.map_cons,bef]
  have h1:=hf a b
  have h2:=hf b a
  by_cases e:a=b
  ·subst e;rw[if_pos rfl,if_pos rfl];exact bef_map hf l m
  ·rw[if_neg e,if_neg (by omega)]
   exact decide_eq_decide.2 h1.symm
theorem mem_any{n:Nat}{t:List Int}:t∈anyT n↔t.length=n∧∀ x∈t,-1≤x∧x<n:=by
 rw[anyT,List.mem_map]
 constructor
 ·rintro⟨l,hl,rfl⟩
  obtain⟨h1,h2⟩:=mem_lists.1 hl
  refine⟨by rw[List.length_map,h1],fun x hx=>?_⟩
  obtain⟨y,hy,rfl⟩:=List.mem_map.1 hx
  have:=h2 y hy
  omega
 ·rintro⟨h1,h2⟩
  refine⟨t.map fun x=>x+1,mem_lists.2 ⟨by rw[List.length_map,h1],fun x hx=>?_⟩,?_⟩
  ·obtain⟨y,hy,rfl⟩:=List.mem_map.1 hx
   have:=h2 y hy
   omega
  ·rw[List.map_map]
   conv=>rhs;rw[← List.map_id t]
   apply List.map_congr_left
   intro x _
   simp only[Function.comp_apply,id];omega
def treesL (n:Nat):List (List Int):=(anyT n).filter (treeB n)
theorem mem_trees{n:Nat}{t:List Int}:t∈treesL n↔treeB n t=true:=by
 rw[treesL,List.mem_filter,mem_any]
 constructor
 ·exact fun h=>h.2
 ·intro h
  refine⟨?_,h⟩
  simp only[treeB,Bool.and_eq_true,List.all_eq_true,decide_eq_true_eq] at h
  exact⟨h.1,h.2.1⟩
def growT (n i:Nat) (l:List Int):List (List Int):=((List.range (n+1)).filter fun (p:Nat)=>decide ((p:Int) - 1≠i)).map fun (p:Nat)=>l++[(p:Int) - 1]
def levT (n:Nat):Nat→List (List Int)
 | 0=>[[]]
 | i+1=>(levT n i).flatMap (growT n i)
theorem bef_app:∀ {l m:List Int} (s t:List Int),bef l m=true→l.length=m.length→bef (l++s) (m++t)=true
 | [],[],s,t,h,_=>by cases h
 | a::l,b::m,s,t,h,e=>by
  simp only[List.cons_append,bef] at h ⊢
  by_cases e1:a=b
  ·rw[if_pos e1] at h ⊢;exact bef_app s t h (by simpa using e)
  ·rw[if_neg e1] at h ⊢;exact h
theorem bef_pre(s t:List Int):∀ l:List Int,bef (l++s) (l++t)=bef s t
 | []=>rfl
 | a::l=>by rw[List.cons_append,List.cons_append,bef,if_pos rfl];exact bef_pre s t l
theorem mem_levT{n:Nat}:∀ {i:Nat} {t:List Int},t∈levT n i↔t.length=i∧∀ k,∀ h:k<t.length,-1≤t[k]∧t[k]<n∧t[k]≠k
 | 0,t=>by
  rw[levT,List.mem_singleton]
  constructor
  ·rintro rfl;exact⟨rfl,fun k h=>by cases h⟩
  ·exact fun h=>List.length_eq_zero_iff.1 h.1
 | i+1,t=>by
  rw[levT,List.mem_flatMap]
  constructor
  ·rintro⟨l,hl,h⟩
   obtain⟨h1,h2⟩:=mem_levT.1 hl
   rw[growT,List.mem_map] at h
   obtain⟨p,hp,rfl⟩:=h
   rw[List.mem_filter,List.mem_range,decide_eq_true_eq] at hp
   refine⟨by simp[h1],fun k hk=>?_⟩
   by_cases e:k<l.length
   ·rw[List.getElem_append_left e];exact h2 k e
   ·have:k=l.length:=by simp at hk;omega
    subst this
    rw[List.getElem_append_right (Nat.le_refl _)]
    simp only[Nat.sub_self,List.getElem_cons_zero]
    omega
  ·rintro⟨h1,h2⟩
   have e:=List.dropLast_concat_getLast (l:=t) (by intro e;rw[e] at h1;cases h1)
   have hl:t.dropLast.length=i:=by rw[List.length_dropLast];omega
   refine⟨t.dropLast,mem_levT.2 ⟨hl,fun k hk=>?_⟩,?_⟩
   ·rw[List.getElem_dropLast];exact h2 k _
   ·rw[growT,List.mem_map]
    have q:=h2 i (by omega)
    have hg:t.getLast (by intro e;rw[e] at h1;cases h1)=t[i]'(by omega):=by
     rw[List.getLast_eq_getElem];congr 1;omega
    refine⟨(t[i]'(by omega)+1).toNat,?_,?_⟩
    ·rw[List.mem_filter,List.mem_range,decide_eq_true_eq]
     omega
    ·rw[Int.toNat_of_nonneg (by omega),show t[i]'(by omega)+1 - 1=t[i]'(by omega) by omega,← hg]
     exact e
theorem levT_sorted(n:Nat):∀ i,(levT n i).Pairwise (fun a b=>bef a b=true)
 | 0=>List.pairwise_singleton _ _
 | i+1=>by
  rw[levT]
  refine List.pairwise_flatMap.2 ⟨fun l _=>?_,List.Pairwise.imp_of_mem ?_ (levT_sorted n i)⟩
  ·rw[growT,List.pairwise_map]
   refine List.Pairwise.imp ?_ ((List.pairwise_lt_range (n:=n+1)).sublist List.filter_sublist)
   intro a b hab
   rw[bef_pre,bef,if_neg (by omega)]
   simp;omega
  ·intro a b ha hb hab x hx y hy
   rw[growT,List.mem_map] at hx hy
   obtain⟨p,_,rfl⟩:=hx
   obtain⟨q,_,rfl⟩:=hy
   exact bef_app _ _ hab ((mem_levT.1 ha).1.trans (mem_levT.1 hb).1.symm)
theorem star_tree{n:Nat}:treeB n (List.replicate n (-1))=true:=by
 simp only[treeB,Bool.and_eq_true,List.all_eq_true,decide_eq_true_eq,List.length_replicate,true_and]
 refine⟨fun x hx=>?_,fun i hi=>?_⟩
 ·rw[(List.mem_replicate.1 hx).2];omega
 ·rw[List.mem_range] at hi
  have neg:∀ k (x:Int),x<0→climbL (List.replicate n (-1)) k x<0:=by
   intro k
   induction k with
   | zero=>exact fun x h=>h
   | succ k ih=>intro x h;rw[climbL,if_neg (by omega)];exact ih x h
  cases n with
  | zero=>omega
  | succ k =>
   rw[climbL,if_pos (by omega)]
   refine neg k _ ?_
   rw[Int.toNat_natCast,List.getD_eq_getElem?_getD,List.getElem?_replicate,if_pos hi]
   decide
end Go.Den.Ve
end
section
namespace Go.Den.Ve
structure LN where
 lost:Bool
 words:List Int
structure BK where
 words:Int
 copies:List (List LN)
def inN (x lo hi:Int):Bool:=decide (lo≤x)&&decide (x≤hi)
def lineB (w:Int) (l:List Int):Bool:=decide (l.length≤4)&&l.all (fun x=>inN x 0 (w - 1))
def lnB (w:Int) (x:LN):Bool:=lineB w x.words&&!(x.lost&&!x.words.isEmpty)
def lines1 (b:BK):Nat:=(b.copies.headD []).length
def copyB (b:BK) (c:List LN):Bool:=decide (c.length=lines1 b)&&c.all (lnB b.words)
def bookB (b:BK):Bool:=inN b.words 1 3&&(inN b.copies.length 1 5&&(inN (lines1 b) 1 4&&b.copies.all (copyB b)))
def txtB (b:BK) (t:List (List Int)):Bool:=decide (t.length=lines1 b)&&t.all (lineB b.words)
structure OkB (b:BK):Prop where
 w1:1≤b.words
 w3:b.words≤3
 c1:1≤b.copies.length
 c5:b.copies.length≤5
 l1:1≤lines1 b
 l4:lines1 b≤4
 all:∀ c∈b.copies,c.length=lines1 b∧∀ x∈c,lineB b.words x.words=true∧(x.lost=true→x.words=[])
theorem lineB_iff{w:Int}{l:List Int}:lineB w l=true↔l.length≤4∧∀ x∈l,0≤x∧x<w:=by
 simp only[lineB,inN,Bool.and_eq_true,decide_eq_true_eq,List.all_eq_true]
 constructor
 ·rintro⟨h1,h2⟩;exact⟨h1,fun x hx=>by have:=h2 x hx;omega⟩
 ·rintro⟨h1,h2⟩;exact⟨h1,fun x hx=>by have:=h2 x hx;omega⟩
theorem bookB_iff{b:BK}:bookB b=true↔OkB b:=by
 simp only[bookB,copyB,lnB,inN,Bool.and_eq_true,decide_eq_true_eq,List.all_eq_true]
 constructor
 ·rintro⟨⟨h1,h2⟩,⟨h3,h4⟩,⟨h5,h6⟩,h7⟩
  refine⟨h1,h2,by omega,by omega,by omega,by omega,fun c hc=>⟨(h7 c hc).1,fun x hx=>?_⟩⟩
  obtain⟨q1,q2⟩:=(h7 c hc).2 x hx
  refine⟨q1,fun hl=>?_⟩
  simpa[hl] using q2
 ·intro h
  refine⟨⟨h.w1,h.w3⟩,⟨by have:=h.c1;omega,by have:=h.c5;omega⟩,⟨by have:=h.l1;omega,by have:=h.l4;omega⟩,fun c hc=>⟨(h.all c hc).1,fun x hx=>?_⟩⟩
  obtain⟨q1,q2⟩:=(h.all c hc).2 x hx
  refine⟨q1,?_⟩
  cases hl:x.lost
  ·rfl
  ·rw[q2 hl];rfl
theorem mem_linesB{b:BK}(hb:OkB b){l:List Int}:l∈linesL b.words.toNat↔lineB b.words l=true:=by
 have h:=hb.w1
 rw[mem_lines,lineB_iff]
 constructor
 ·rintro⟨h1,h2⟩;exact⟨h1,fun x hx=>by have:=h2 x hx;omega⟩
 ·rintro⟨h1,h2⟩;exact⟨h1,fun x hx=>by have:=h2 x hx;omega⟩
def takenI (l:List Int) (x:LN):Int:=if x.lost then 0 else lev l x.words
theorem taken_nn(l:List Int)(x:LN):0≤takenI l x:=by unfold takenI;split <;> omega
def cost1 (b:BK) (i:Nat) (l:List Int):Int:=(b.copies.map fun c=>takenI l (c.getD i ⟨true,[]⟩)).sum
def leastB (b:BK) (i:Nat):List (List Int):=leastL (cost1 b i) (linesL b.words.toNat)
def manyB (b:BK) (i:Nat):Int:=minL (cost1 b i) (linesL b.words.toNat)
def commonB (b:BK) (i:Nat):List Int:=commonL b.words.toNat (fun l=>(leastB b i).all fun x=>holdL x l) 4
theorem lines_ne(w:Nat):linesL w≠[]:=by
 obtain⟨t,e⟩:=lines_cons w;rw[e];simp
theorem leastB_ne(b:BK)(i:Nat):leastB b i≠[]:=least_ne (lines_ne _)
theorem sum_le{α:Type}{f g:α→Int}:∀ {l:List α},(∀ x∈l,f x≤g x)→(l.map f).sum≤(l.map g).sum
 | [],_=>Int.le_refl _
 | x::l,h=>by
  have:=sum_le (l:=l) fun y hy=>h y (by simp[hy])
  have:=h x (by simp)
  simp only[List.map_cons,List.sum_cons];omega
theorem sum_eq{α:Type}{f g:α→Int}:∀ {l:List α},(∀ x∈l,f x≤g x)→(l.map f).sum=(l.map g).sum→∀ x∈l,f x=g x
 | [],_,_,_,h=>by cases h
 | x::l,h,e,y,hy=>by
  have h1:=sum_le (l:=l) fun y hy=>h y (by simp[hy])
  have h2:=h x (by simp)
  simp only[List.map_cons,List.sum_cons] at e
  rcases List.mem_cons.1 hy with rfl|hy
  ·omega
  ·exact sum_eq (l:=l) (fun y hy=>h y (by simp[hy])) (by omega) y hy
def copiedI (from':List (List Int)) (c:List LN):Int:=((List.range c.length).map fun i=>takenI (from'.getD i []) (c.getD i ⟨true,[]⟩)).sum
def linesW (c:List LN):List (List Int):=c.map LN.words
def takesI (b:BK) (t:List (List Int)) (n:Nat) (p:Int):Int:=copiedI (if p<0 then t else linesW (b.copies.getD p.toNat [])) (b.copies.getD n [])
def totalI (b:BK) (t:List (List Int)) (tree:List Int):Int:=((List.range tree.length).map fun n=>takesI b t n (tree.getD n 0)).sum
def wholeT (b:BK):List (List Int):=(List.range (lines1 b)).map fun i=>(leastB b i).headD []
def wholeN (b:BK):Int:=(List.range (lines1 b)).foldl (fun n i=>n*((leastB b i).length:Int)) 1
def wholeC (b:BK):Int:=((List.range (lines1 b)).map fun i=>manyB b i).sum
end Go.Den.Ve
end

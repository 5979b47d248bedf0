/- Part of the proofs of laws of the package version. Texts: VeG, VeH, VeI, VeJ, VeK. -/
import Derived.Test.YthnfeimjhibcaaaTBAk
import Derived.Lib.Strings
import Derived.Test.YthnfeimjhibcaaaTBAl
set_option linter.unusedSimpArgs false
set_option linter.unusedVariables false
section
namespace Go.Den.Ve
def itoaL (n:Nat):List UInt8:=if n<10 then [UInt8.ofNat (48+n)] else [UInt8.ofNat (48+n / 10),UInt8.ofNat (48+n % 10)]
def toB (l:List UInt8):ByteArray:=⟨l.toArray⟩
def unB (b:ByteArray):List UInt8:=b.data.toList
def splitL (b:UInt8):List UInt8→List UInt8→List (List UInt8)
 | acc,[]=>[acc]
 | acc,x::xs=>if x=b then acc::splitL b [] xs else splitL b (acc++[x]) xs
def strs:List PV→Option (List ByteArray)
 | []=>some []
 | .str s::r=>(strs r).map (s::·)
 | _=>none
def encS (s:List UInt8):List PV:=[.str (toB s)]
def itoaR (st:St):List PV→Option (Option (CR×St))
 | [.int .i64 n]=>if 0≤n∧n<100 then some (some (.ret (.str (toB (itoaL n.toNat))),st)) else some none
 | _=>some none
def joinR (st:St):List PV→Option (Option (CR×St))
 | [.slice _ n cs,.str sep]=>match strs cs with
  | some l=>if n=cs.length∧n≤1000∧sep.size≤1000∧(l.all fun s=>s.size≤1000)=true then some (some (.ret (.str (toB (List.intercalate (unB sep) (l.map unB)))),st)) else some none
  | none=>some none
 | _=>some none
def splitR (st:St):List PV→Option (Option (CR×St))
 | [.str s,.str sep]=>match unB sep with
  | [b]=>if s.size≤100000 then some (some (.ret (.slice .shared (splitL b [] (unB s)).length ((splitL b [] (unB s)).flatMap encS)),st)) else some none
  | _=>some none
 | _=>some none
def inB (x lo hi:Int):Bool:=decide (lo≤x)&&decide (x≤hi)
abbrev iv (n:Int):PV := .int .i64 n
abbrev encI (n:Int):List PV:=[.int .i64 n]
def inI (n:Int):Prop := -9223372036854775808≤n∧n<9223372036854775808
theorem wrap_in {n:Int} (h:inI n):IntKind.wrap .i64 n=n:=by
 unfold inI at h
 simp [IntKind.wrap,IntKind.bits,IntKind.signed]
 omega
def idxI {α:Type} (p:α→Bool) (l:List α):Int:=if l.any p then (l.findIdx p:Int) else -1
theorem idxI_ge {α:Type} (p:α→Bool) (l:List α):decide (idxI p l≥0)=l.any p:=by
 unfold idxI
 cases l.any p <;> simp
theorem idxI_at {α:Type} {p:α→Bool} {l:List α} {i:Nat} (hi:i<l.length) (h0:∀ k (hk:k<i),p (l[k]'(by omega))=false) (h:p l[i]=true):idxI p l=i:=by
 unfold idxI
 have h1:l.any p=true:=List.any_eq_true.2 ⟨l[i],List.getElem_mem hi,h⟩
 rw [if_pos h1]
 congr 1
 rw [List.findIdx_eq hi]
 exact ⟨h,fun j hj=>by simpa using h0 j hj⟩
theorem idxI_no {α:Type} {p:α→Bool} {l:List α} (h0:∀ k (hk:k<l.length),p l[k]=false):idxI p l = -1:=by
 unfold idxI
 rw [if_neg]
 intro h
 obtain ⟨x,hx,h1⟩:=List.any_eq_true.1 h
 obtain ⟨k,hk,rfl⟩:=List.getElem_of_mem hx
 rw [h0 k hk] at h1
 cases h1
theorem mm2 (a b:Int):mm true (.int .i64 a) [.int .i64 b]=some (.int .i64 (max a b)):=by
 simp only [mm,if_true]
 rw [Int.max_def]
 congr 2
 by_cases h:b>a
 ·rw [if_pos h,if_pos (by omega)]
 ·rw [if_neg h];split <;> omega
theorem mm2' (a b:Int):mm false (.int .i64 a) [.int .i64 b]=some (.int .i64 (min a b)):=by
 simp only [mm,Bool.false_eq_true,if_false]
 rw [Int.min_def]
 congr 2
 by_cases h:b<a
 ·rw [if_pos h,if_neg (by omega)]
 ·rw [if_neg h];split <;> omega
theorem encI_map (l:List Int):l.flatMap encI=l.map (PV.int .i64):=by
 induction l with
 | nil=>rfl
 | cons a l ih=>simp [ih]
theorem encI_low (l:List Int) (m:Nat) (c:PV) (hc:c∈l.flatMap encI):PV.low m c=true:=by
 simp only [List.mem_flatMap,List.mem_singleton] at hc
 obtain ⟨a,_,rfl⟩:=hc
 rfl
theorem slI {st st':St} {l:List Int} {v:PV} (h:RetS st 1 l.length (l.flatMap encI) v st'):SlOf 1 encI v l:=SlOf.of_sl h.sl rfl rfl (fun _=>rfl)
theorem range_some {β:Type} {f:Nat→Option β} {n i:Nat} {b:β} (hi:i<n) (h0:∀ k,k<i→f k=none) (h:f i=some b):(List.range n).findSome? f=some b:=by
 induction n with
 | zero=>omega
 | succ n ih =>
  rw [List.range_succ,List.findSome?_append]
  by_cases hn:i<n
  ·rw [ih hn];rfl
  ·have:i=n:=by omega
   subst this
   have:(List.range i).findSome? f=none:=by
    rw [List.findSome?_eq_none_iff]
    intro x hx
    exact h0 x (by simpa using hx)
   rw [this]
   simp [h]
theorem range_none {β:Type} {f:Nat→Option β} {n:Nat} (h0:∀ k,k<n→f k=none):(List.range n).findSome? f=none:=by
 rw [List.findSome?_eq_none_iff]
 intro x hx
 exact h0 x (by simpa using hx)
theorem sum_bound {l:List Int} {b:Int} (hb:0≤b) (h:∀ x∈l,0≤x∧x≤b):0≤l.sum∧l.sum≤b*l.length:=by
 induction l with
 | nil=>simp
 | cons x l ih =>
  have h1:=ih (fun y hy=>h y (by simp [hy]))
  have h2:=h x (by simp)
  simp only [List.sum_cons,List.length_cons]
  have:b*((l.length+1:Nat):Int)=b*l.length+b:=by rw [Int.natCast_add,Int.mul_add];simp
  omega
theorem sum_inI {l:List Int} (hl:l.length≤1000) (h:∀ x∈l,0≤x∧x≤1000) (k:Nat):inI (l.take k).sum:=by
 have h1:=sum_bound (l:=l.take k) (b:=1000) (by omega) (fun x hx=>h x (List.mem_of_mem_take hx))
 have h2:(l.take k).length≤1000:=by simp;omega
 unfold inI
 omega
theorem prefix_drop {α:Type} {a b c l:List α} (h:a++(b++c) <+: l):b <+: l.drop a.length:=by
 obtain ⟨t,rfl⟩:=h
 exact ⟨c++t,by simp [List.append_assoc]⟩
theorem flatMap_range_split {α:Type} (g:Nat→List α) {n d:Nat} (h:n<d):∃ r,(List.range d).flatMap g=(List.range n).flatMap g++(g n++r):=by
 obtain ⟨e,rfl⟩:∃ e,d=n+1+e:=⟨d - (n+1),by omega⟩
 rw [List.range_add,List.flatMap_append,List.range_succ,List.flatMap_append,List.append_assoc]
 exact ⟨_,by rw [List.flatMap_singleton]⟩
theorem flatMap_range_succ {α:Type} (g:Nat→List α) (n:Nat):((List.range (n+1)).flatMap g).length=((List.range n).flatMap g).length+(g n).length:=by
 rw [List.range_succ,List.flatMap_append];simp
theorem keep_low2 {a:List HObj} {s2:St} {m:Nat} {x y:HObj} (hm:a.length≤m) (h:KeepA a s2.heap):KeepA a (setVar (setVar s2 m x) (m+1) y).heap:=by
 have h1:KeepA a (s2.heap.set m x):=KeepV.set h hm
 exact KeepV.set h1 (by omega)
theorem ints_low (l:List Int) (m:Nat):lowL m (l.flatMap encI)=true:=lowL_of (fun c hc=>encI_low l m c hc)
def OkF (n:Nat) (fs:List Int):Prop:=∀ x∈fs,0≤x∧x<n
attribute [go_sem] undef
abbrev enc2 (x:Int×Int):List PV:=[.int .i64 x.1,.int .i64 x.2]
attribute [go_sem] enc2
theorem enc2_cell:∀ l:List (Int×Int),(l.flatMap enc2).all PV.isCell=true
 | []=>rfl
 | f::l=>by rw [List.flatMap_cons,List.all_append,enc2_cell l];rfl
theorem enc2_share:∀ l:List (Int×Int),(l.flatMap enc2).map PV.share=l.flatMap enc2
 | []=>rfl
 | f::l=>by rw [List.flatMap_cons,List.map_append,enc2_share l];rfl
def RepI (v:PV) (x:List Int):Prop:=SlOf 1 encI v x
def OutI (o:Option (List Int)) (P:PV):Prop:=match o with
 | none=>P = .nilslice
 | some p=>SlOf 1 encI P p
theorem OutI.cell {o:Option (List Int)} {P:PV} (h:OutI o P):P.isCell=true∧P.cells=[P]∧∃ (n:Nat) (l:List Int),P.sl=some (n,l.flatMap encI):=by
 cases o with
 | none=>simp only [OutI] at h;subst h;exact ⟨rfl,rfl,0,[],rfl⟩
 | some p=>exact ⟨h.isCell,h.cells,_,p,h.sl⟩
theorem size_toB (l:List UInt8):(toB l).size=l.length:=rfl
theorem toList_toB (l:List UInt8):(toB l).toList=l:=by rw [ByteArray.toList_eq];rfl
theorem toB_append (a b:List UInt8):toB a++toB b=toB (a++b):=by
 apply ByteArray.ext
 simp [toB]
theorem toB_lit (l:List UInt8):(ByteArray.mk l.toArray)=toB l:=rfl
theorem binS_add (a b:List UInt8):binS .add (toB a) (toB b)=if a.length+b.length≤1000000 then some (.str (toB (a++b))) else none:=by
 simp only [binS,size_toB,toB_append]
theorem binS_eql (a b:List UInt8):binS .eql (toB a) (toB b)=some (.bool (a==b)):=by
 simp only [binS,toList_toB]
theorem binS_neq (a b:List UInt8):binS .neq (toB a) (toB b)=some (.bool (!(a==b))):=by
 simp only [binS,toList_toB]
attribute [go_sem] toB_lit binS_add binS_eql binS_neq size_toB
def rowL (w:List UInt8) (ns:List Int):List UInt8:=ns.foldl (fun s n=>s++(32::itoaL n.toNat)) w
theorem itoaL_len (n:Nat):(itoaL n).length≤2:=by unfold itoaL;split <;> simp
def rowSum (i:Nat) (r:List UInt8):Nat→Nat
 | 0=>0
 | k+1=>rowSum i r k+(r.getD k 0).toNat*(k+1)*(i+1)
def allSum (rows:List (List UInt8)):Nat→Nat
 | 0=>0
 | i+1=>allSum rows i+rowSum i (rows.getD i []) (rows.getD i []).length
def endW:List UInt8:=[101,110,100,32]
def endRow (rows:List (List UInt8)) (m:Nat):List UInt8:=endW++itoaL (allSum rows rows.length % m / 100)++itoaL (allSum rows rows.length % m / 10 % 10)++itoaL (allSum rows rows.length % m % 10)
def sealL (rows:List (List UInt8)) (m:Nat):List UInt8:=List.intercalate [10] (rows++[endRow rows m])++[10]
theorem rowSum_bound {i:Nat} {r:List UInt8} (hi:i≤200):∀ k,k≤200→rowSum i r k≤k*12000000
 | 0,_=>by simp [rowSum]
 | k+1,hk=>by
  have:=rowSum_bound (i:=i) (r:=r) hi k (by omega)
  have hb:(r.getD k 0).toNat≤255:=by have:=(r.getD k 0).toNat_lt;omega
  have h1:(r.getD k 0).toNat*(k+1)≤255*200:=Nat.mul_le_mul hb (by omega)
  have h2:(r.getD k 0).toNat*(k+1)*(i+1)≤255*200*201:=Nat.mul_le_mul h1 (by omega)
  simp only [rowSum]
  omega
theorem allSum_bound {rows:List (List UInt8)} (h:∀ r∈rows,r.length≤200):∀ i,i≤200→allSum rows i≤i*2400000000
 | 0,_=>by simp [allSum]
 | i+1,hi=>by
  have h0:=allSum_bound h i (by omega)
  have hl:(rows.getD i []).length≤200:=by
   rw [List.getD_eq_getElem?_getD]
   cases hr:rows[i]? with
   | none=>simp
   | some r=>exact h r (List.mem_of_getElem? hr)
  have h1:=rowSum_bound (i:=i) (r:=rows.getD i []) (by omega) _ hl
  have h2:(rows.getD i []).length*12000000≤200*12000000:=Nat.mul_le_mul_right _ hl
  simp only [allSum]
  omega
theorem strs_enc:∀ l:List (List UInt8),strs (l.flatMap encS)=some (l.map toB)
 | []=>rfl
 | s::l=>by rw [List.flatMap_cons];simp only [encS,List.singleton_append,strs,strs_enc l,Option.map_some,List.map_cons]
theorem inter_len (b:Nat):∀ l:List (List UInt8),(∀ s∈l,s.length≤b)→(List.intercalate [10] l).length≤l.length*(b+1)
 | [],_=>by simp [List.intercalate]
 | [x],h=>by
  have:=h x (by simp)
  simp [List.intercalate];omega
 | x::y::l,h=>by
  have h1:=inter_len b (y::l) (fun s hs=>h s (by simp [hs]))
  have h2:=h x (by simp)
  have e:List.intercalate [10] (x::y::l)=x++([10]++List.intercalate [10] (y::l)):=by simp [List.intercalate]
  rw [e]
  simp only [List.length_append,List.length_cons,List.length_nil] at h1 ⊢
  have e2:(l.length+1+1)*(b+1)=(l.length+1)*(b+1)+(b+1):=Nat.succ_mul _ _
  omega
theorem encS_cell:∀ l:List (List UInt8),(l.flatMap encS).all PV.isCell=true
 | []=>rfl
 | f::l=>by rw [List.flatMap_cons,List.all_append,encS_cell l];rfl
attribute [go_sem] encS
def isDig (b:UInt8):Bool:=decide (48≤b.toNat)&&decide (b.toNat≤57)
def valL (x:List UInt8):Nat:=x.foldl (fun n b=>10*n+(b.toNat - 48)) 0
def numB (x:List UInt8):Bool:=x.all isDig&&(decide (x.length≤2)&&(!(x==[])&&itoaL (valL x)==x))
def numsL:List (List UInt8)→Option (List Int)
 | []=>some []
 | x::xs=>if numB x then (numsL xs).map ((valL x:Int)::·) else none
theorem valL_bound {x:List UInt8} (hd:x.all isDig=true) (hl:x.length≤2):valL x<100:=by
 match x,hl with
 | [],_=>decide
 | [a],_ =>
  simp only [List.all_cons,isDig,Bool.and_eq_true,decide_eq_true_eq] at hd
  simp only [valL,List.foldl_cons,List.foldl_nil];omega
 | [a,b],_ =>
  simp only [List.all_cons,isDig,Bool.and_eq_true,decide_eq_true_eq] at hd
  simp only [valL,List.foldl_cons,List.foldl_nil];omega
theorem splitL_len (b:UInt8):∀ (acc s:List UInt8),(splitL b acc s).length≤s.length+1
 | acc,[]=>by simp [splitL]
 | acc,x::xs=>by
  simp only [splitL]
  split
  ·have:=splitL_len b [] xs;simp;omega
  ·have:=splitL_len b (acc++[x]) xs;simp;omega
theorem splitL_mem (b:UInt8) (m:Nat):∀ (acc s:List UInt8),acc.length+s.length≤m→∀ p∈splitL b acc s,p.length≤m
 | acc,[],h,p,hp=>by simp [splitL] at hp;subst hp;simpa using h
 | acc,x::xs,h,p,hp=>by
  simp only [List.length_cons] at h
  simp only [splitL] at hp
  split at hp
  ·rcases List.mem_cons.1 hp with rfl|hp
   ·omega
   ·exact splitL_mem b m [] xs (by simp;omega) p hp
  ·exact splitL_mem b m (acc++[x]) xs (by simp;omega) p hp
end Go.Den.Ve
namespace Go.Den
theorem finish_agg {st st1:St} {a b:Int} {v:PV} {n:Nat} {cs:List PV} (hv:v.sl=some (n,cs)) (hlo:st.heap.length≤st1.lo) (hc:∀ m,lowL m cs=true):∃ v',(finishCall st st1 (.agg [.int .i64 a,.int .i64 b,v])).1 = .agg [.int .i64 a,.int .i64 b,v']∧RetW st n cs v' (finishCall st st1 (.agg [.int .i64 a,.int .i64 b,v])).2:=by
 obtain ⟨v',s,h1,h2,h3⟩:=sl_retag (m:=st.heap.length) (h:=st1.heap) hv hc
 unfold finishCall
 rw [if_pos hlo]
 have:letGo st.heap.length st1.heap (.agg [.int .i64 a,.int .i64 b,v])=some (.agg [.int .i64 a,.int .i64 b,v'],s.length):=by
  have hf:=sl_freeze (m:=st.heap.length) (h:=st1.heap) hv
  have ha:∀ k:Int,freeze1 st.heap.length st1.heap (.int .i64 k)=(.int .i64 k,st1.heap):=fun _=>rfl
  have hr:∀ k:Int,retag1 st1.heap st.heap.length [] (.int .i64 k)=some (.int .i64 k,[]):=fun _=>rfl
  simp only [letGo,freezeL,ha,hf,retagL,hr,h1,Option.map_some]
 rw [this]
 refine ⟨v',rfl,h2,?_⟩
 match s,h3 with
 | [],_=>left;simp
 | [x],_=>right;rfl
end Go.Den
namespace Go.Den.Ve
theorem numsL_ok {l:List (List UInt8)}:∀ {ns:List Int},numsL l=some ns→ns.length=l.length∧∀ n∈ns,0≤n∧n<100:=by
 induction l with
 | nil=>intro ns h;simp only [numsL,Option.some.injEq] at h;subst h;simp
 | cons x l ih =>
  intro ns h
  simp only [numsL] at h
  split at h
  ·rename_i hx
   simp only [Option.map_eq_some_iff] at h
   obtain ⟨ms,h1,rfl⟩:=h
   have:=ih h1
   refine ⟨by simp [this.1],fun n hn=>?_⟩
   rcases List.mem_cons.1 hn with rfl|hn
   ·simp only [numB,Bool.and_eq_true,decide_eq_true_eq] at hx
    have:=valL_bound hx.1 hx.2.1
    omega
   ·exact this.2 n hn
  ·cases h
theorem finish_low {st S:St} {v:PV} (h:S.lo<st.heap.length):finishCall st S v=(v,{ heap:=S.heap,lo:=min st.lo S.lo }):=by
 unfold finishCall
 rw [if_neg (by omega)]
theorem eq_of_take {α:Type} {l m:List α} (hlm:l.length=m.length) (h:l.take l.length=m.take l.length):l=m:=by
 rw [List.take_length,hlm,List.take_length] at h
 exact h
theorem take_snoc_eq {α:Type} {l m:List α} {i:Nat} (hi:i<l.length) (hj:i<m.length) (h:l.take i=m.take i) (hx:l[i]=m[i]):l.take (i+1)=m.take (i+1):=by
 rw [List.take_succ_eq_append_getElem hi,List.take_succ_eq_append_getElem hj,h,hx]
def joinL (rows:List (List UInt8)):List UInt8:=rows.flatMap (·++[10])
theorem inter_out (e:List UInt8):∀ rows:List (List UInt8),List.intercalate [10] (rows++[e])=joinL rows++e
 | []=>by simp [List.intercalate,joinL]
 | r::rows=>by
  have ih:=inter_out e rows
  have h2:List.intercalate [10] (r::(rows++[e]))=r++([10]++List.intercalate [10] (rows++[e])):=by
   cases rows <;> simp [List.intercalate]
  rw [List.cons_append,h2,ih]
  simp [joinL]
def Keep (a b:St):Prop:=HExt a.heap b.heap∧b.lo=a.lo
theorem keepW {st st':St} {n:Nat} {cs:List PV} {v:PV} (h:RetW st n cs v st'):Keep st st':=⟨h.hext,h.lo⟩
theorem Keep.hp {a b:St} (h:Keep a b) {l:Nat} {o:HObj} (hl:Den.hp a l=some o):Den.hp b l=some o:=h.1.hp hl
theorem Keep.len {a b:St} (h:Keep a b):a.heap.length≤b.heap.length:=h.1.1
end Go.Den.Ve
namespace Go.Den
theorem undef_e:undef = .tuple []:=rfl
end Go.Den
namespace Go.Den.Ve
theorem best_aux {α:Type} {m:α→Int}:∀ (X:List α) (o p:α),X.foldl (fun acc x=>match acc with|none=>some x|some o=>if decide (m x<m o) then some x else some o) (some o)=some p →
  (p=o∧∀ q∈X,m o≤m q)∨∃ A B,X=A++p::B∧m p<m o∧(∀ q∈A,m p<m q)∧∀ q∈B,m p≤m q
 | [],o,p,h=>by cases h;exact .inl ⟨rfl,fun _ h=>by cases h⟩
 | x::X,o,p,h=>by
  simp only [List.foldl_cons] at h
  by_cases hx:m x<m o
  ·simp only [hx,decide_true,if_true] at h
   rcases best_aux X x p h with ⟨rfl,h1⟩|⟨A,B,rfl,h1,h2,h3⟩
   ·exact .inr ⟨[],X,rfl,hx,(fun _ h=>by cases h),h1⟩
   ·refine .inr ⟨x::A,B,rfl,by omega,fun q hq=>?_,h3⟩
    rcases List.mem_cons.1 hq with rfl|hq
    ·exact h1
    ·exact h2 q hq
  ·simp only [hx,decide_false,Bool.false_eq_true,if_false] at h
   rcases best_aux X o p h with ⟨rfl,h1⟩|⟨A,B,rfl,h1,h2,h3⟩
   ·refine .inl ⟨rfl,fun q hq=>?_⟩
    rcases List.mem_cons.1 hq with rfl|hq
    ·omega
    ·exact h1 q hq
   ·refine .inr ⟨x::A,B,rfl,h1,fun q hq=>?_,h3⟩
    rcases List.mem_cons.1 hq with rfl|hq
    ·omega
    ·exact h2 q hq
theorem zs:(∀ h:Decidable False,decide (h:=h) False=false)∧(∀ h:Decidable True,decide (h:=h) True=true)∧(((0:Int) != 0)=false)∧(((5:Int) != 0)=true)∧(((7:Int) != 0)=true)∧(((5:Int)==5)=true)∧(((0:Int)==0)=true)∧(((5:Int)==0)=false)∧(((7:Int)==7)=true)∧(((7:Int)==0)=false)∧(((7:Int) != 7)=false)∧(((5:Int) != 5)=false)∧(decide ((0:Int)<0)=false)∧(decide ((0:Int)>0)=false)∧((true != true)=false)∧((false != false)=false)∧((true != false)=true)∧((false != true)=true):=⟨fun h=>by cases h <;> first|rfl|contradiction,fun h=>by cases h <;> first|rfl|contradiction,by decide⟩
theorem fold_max {g:Int→Int}:∀ (fs:List Int) (a x:Int),x<fs.foldl (fun n k=>max n (g k)) a↔x<a∨∃ f∈fs,x<g f
 | [],a,x=>by simp
 | f::fs,a,x=>by
  rw [List.foldl_cons,fold_max fs]
  simp only [List.mem_cons,exists_eq_or_imp]
  constructor
  ·rintro (h|h)
   ·by_cases h1:x<a
    ·exact .inl h1
    ·exact .inr (.inl (by omega))
   ·exact .inr (.inr h)
  ·rintro (h|h|h)
   ·exact .inl (by omega)
   ·exact .inl (by omega)
   ·exact .inr h
theorem map_of:∀ {gs:List Int} {p:List Int},gs.Pairwise (·<·)→p.length=gs.length→∃ lam:Int→Int,p=gs.map lam
 | [],[],_,_=>⟨fun _=>0,rfl⟩
 | g::gs,x::p,hn,hl=>by
  rw [List.pairwise_cons] at hn
  obtain ⟨lam,e⟩:=map_of hn.2 (by simpa using hl)
  refine ⟨fun k=>if k=g then x else lam k,?_⟩
  rw [List.map_cons,if_pos rfl,e]
  congr 1
  refine List.map_congr_left fun k hk=>?_
  have:=hn.1 k hk
  rw [if_neg (by omega)]
theorem sum_filter_le {w:Int→Int} (P:Int→Bool):∀ l:List Int,(∀ k∈l,0≤w k)→((l.filter P).map w).sum≤(l.map w).sum
 | [],_=>Int.le_refl _
 | k::l,h=>by
  have ih:=sum_filter_le P l fun j hj=>h j (by simp [hj])
  have:=h k (by simp)
  rw [List.filter_cons]
  split
  ·simp only [List.map_cons,List.sum_cons];omega
  ·simp only [List.map_cons,List.sum_cons];omega
theorem sum_mem_le {w:Int→Int}:∀ l:List Int,(∀ k∈l,0≤w k)→0≤(l.map w).sum∧∀ k∈l,w k≤(l.map w).sum
 | [],_=>⟨Int.le_refl _,fun _ h=>by cases h⟩
 | k::l,h=>by
  obtain ⟨h1,h2⟩:=sum_mem_le l fun j hj=>h j (by simp [hj])
  have h3:=h k (by simp)
  simp only [List.map_cons,List.sum_cons]
  refine ⟨by omega,fun j hj=>?_⟩
  rcases List.mem_cons.1 hj with rfl|hj
  ·omega
  ·have:=h2 j hj;omega
theorem fold_min {g:List Int→Int}:∀ (X:List (List Int)) (a:Int),X.foldl (fun o p=>min o (g p)) a≤a∧(∀ p∈X,X.foldl (fun o p=>min o (g p)) a≤g p)∧(X.foldl (fun o p=>min o (g p)) a=a∨∃ p∈X,X.foldl (fun o p=>min o (g p)) a=g p)
 | [],a=>⟨Int.le_refl _,(fun _ h=>by cases h),.inl rfl⟩
 | p::X,a=>by
  obtain ⟨h1,h2,h3⟩:=fold_min (g:=g) X (min a (g p))
  rw [List.foldl_cons]
  refine ⟨by omega,fun q hq=>?_,?_⟩
  ·rcases List.mem_cons.1 hq with rfl|hq
   ·omega
   ·exact h2 q hq
  ·rcases h3 with h3|⟨q,hq,h3⟩
   ·by_cases h:a≤g p
    ·exact .inl (by omega)
    ·exact .inr ⟨p,by simp,by omega⟩
   ·exact .inr ⟨q,by simp [hq],h3⟩
theorem ris_len2 {n:Nat}:∀ {t:List Int} {a:Nat},t.Pairwise (·<·)→(∀ x∈t,(a:Int)≤x∧x<n)→a≤n→t.length≤n - a
 | [],_,_,_,_=>Nat.zero_le _
 | x::t,a,hp,h,ha=>by
  rw [List.pairwise_cons] at hp
  have hx:=h x (by simp)
  have:=ris_len2 (n:=n) (t:=t) (a:=x.toNat+1) hp.2 (fun y hy=>by have:=hp.1 y hy;have:=h y (by simp [hy]);omega) (by omega)
  simp only [List.length_cons]
  omega
theorem find_least {β:Type} {f:Nat→Option β} {b:β}:∀ {n:Nat},(List.range n).findSome? f=some b→∃ i,i<n∧f i=some b∧∀ j<i,f j=none
 | 0,h=>by cases h
 | n+1,h=>by
  rw [List.range_succ,List.findSome?_append] at h
  cases hn:(List.range n).findSome? f with
  | some x =>
   rw [hn] at h
   cases h
   obtain ⟨i,hi,h1,h2⟩:=find_least hn
   exact ⟨i,by omega,h1,h2⟩
  | none =>
   rw [hn] at h
   have h3:f n=some b:=by simpa using h
   exact ⟨n,by omega,h3,fun j hj=>List.findSome?_eq_none_iff.1 hn j (List.mem_range.2 hj)⟩
theorem splitL_app (b:UInt8):∀ (x acc y:List UInt8),splitL b acc (x++b::y)=splitL b acc x++splitL b [] y
 | [],acc,y=>by simp [splitL]
 | z::x,acc,y=>by
  simp only [List.cons_append,splitL]
  split
  ·rw [splitL_app b x [] y];rfl
  ·exact splitL_app b x _ y
theorem splitL_none (b:UInt8):∀ (x acc:List UInt8),b∉x→splitL b acc x=[acc++x]
 | [],acc,_=>by simp [splitL]
 | z::x,acc,h=>by
  simp only [List.mem_cons,not_or] at h
  rw [splitL,if_neg (Ne.symm h.1),splitL_none b x _ h.2]
  simp
theorem snoc_ind {α:Type} {P:List α→Prop} (h0:P []) (h1:∀ l a,P l→P (l++[a])) (l:List α):P l:=by
 have:∀ m:List α,P m.reverse:=by
  intro m
  induction m with
  | nil=>exact h0
  | cons a m ih=>rw [List.reverse_cons];exact h1 _ _ ih
 rw [← List.reverse_reverse l]
 exact this _
theorem rowL_snoc (w:List UInt8) (ns:List Int) (n:Int):rowL w (ns++[n])=rowL w ns++32::itoaL n.toNat:=by
 rw [rowL,List.foldl_append];rfl
theorem itoaL_mem {n:Nat} (h:n<100):∀ b∈itoaL n,48≤b.toNat∧b.toNat≤57:=by
 have:∀ n:Fin 100,(itoaL n.val).all (fun b=>decide (48≤b.toNat)&&decide (b.toNat≤57))=true:=by decide +kernel
 have h1:=this ⟨n,h⟩
 intro b hb
 have:=List.all_eq_true.1 h1 b hb
 simpa using this
theorem itoaL_num {n:Nat} (h:n<100):numB (itoaL n)=true∧valL (itoaL n)=n:=by
 have:∀ n:Fin 100,(numB (itoaL n.val)&&decide (valL (itoaL n.val)=n.val))=true:=by decide +kernel
 have h1:=this ⟨n,h⟩
 simpa using h1
theorem rowL_split {w:List UInt8} (hw:(32:UInt8)∉w):∀ (ns:List Int),(∀ n∈ns,0≤n∧n<100)→splitL 32 [] (rowL w ns)=w::ns.map fun n=>itoaL n.toNat:=by
 refine snoc_ind (P:=fun ns=>(∀ n∈ns,0≤n∧n<100)→splitL 32 [] (rowL w ns)=w::ns.map fun n=>itoaL n.toNat) ?_ ?_
 ·intro _;exact splitL_none 32 w [] hw
 ·intro ns n ih h
  have hn:=h n (by simp)
  rw [rowL_snoc,splitL_app,ih (fun x hx=>h x (by simp [hx])),splitL_none 32 _ _ (fun hb=>by
   have:=itoaL_mem (show n.toNat<100 by omega) _ hb
   revert this;decide)]
  simp
theorem numsL_map:∀ (ns:List Int),(∀ n∈ns,0≤n∧n<100)→numsL (ns.map fun n=>itoaL n.toNat)=some ns
 | [],_=>rfl
 | n::ns,h=>by
  have hn:=h n (by simp)
  obtain ⟨h1,h2⟩:=itoaL_num (show n.toNat<100 by omega)
  rw [List.map_cons,numsL,h1,if_pos rfl,numsL_map ns (fun x hx=>h x (by simp [hx])),h2,Int.toNat_of_nonneg hn.1];rfl
theorem rowL_no {w:List UInt8} (hw:(10:UInt8)∉w):∀ (ns:List Int),(∀ n∈ns,0≤n∧n<100)→(10:UInt8)∉rowL w ns:=by
 refine snoc_ind (P:=fun ns=>(∀ n∈ns,0≤n∧n<100)→(10:UInt8)∉rowL w ns) ?_ ?_
 ·intro _;exact hw
 ·intro ns n ih h
  have hn:=h n (by simp)
  rw [rowL_snoc]
  simp only [List.mem_append,List.mem_cons,not_or]
  refine ⟨ih (fun x hx=>h x (by simp [hx])),by decide,fun hb=>?_⟩
  have:=itoaL_mem (show n.toNat<100 by omega) _ hb
  revert this;decide
theorem splitL_join:∀ rows:List (List UInt8),(∀ r∈rows,(10:UInt8)∉r)→splitL 10 [] (joinL rows)=rows++[[]]
 | [],_=>rfl
 | r::rows,h=>by
  have e:joinL (r::rows)=r++10::joinL rows:=by simp [joinL]
  rw [e,splitL_app,splitL_none 10 r [] (h r (by simp)),splitL_join rows (fun x hx=>h x (by simp [hx]))]
  simp
theorem seal_join (rows:List (List UInt8)) (m:Nat):sealL rows m=joinL (rows++[endRow rows m]):=by
 rw [sealL,inter_out];simp [joinL]
end Go.Den.Ve
namespace Go.Den
end Go.Den
namespace Go.Den.Ve
theorem flat_len {β γ:Type} {f:β→List γ} {d:Nat}:∀ l:List β,(∀ q∈l,(f q).length≤d)→(l.flatMap f).length≤l.length*d
 | [],_=>by simp
 | q::l,h=>by
  have:=flat_len l (fun x hx=>h x (by simp [hx]))
  have:=h q (by simp)
  rw [List.flatMap_cons,List.length_append,List.length_cons,Nat.succ_mul];omega
end Go.Den.Ve
namespace Go.Den
theorem OwnS.hext {m:Nat} {a b:St} {sz:Nat} {v:PV} {n:Nat} {cs:List PV} (h:OwnS m a sz v n cs) (hx:HExt a.heap b.heap):OwnS m b sz v n cs:=⟨h.1,h.2.imp id fun ⟨t,h2,h3,h4⟩=>⟨t,h2,h3,hx.hp h4⟩⟩
end Go.Den
namespace Go.Den.Ve
def elL:List Int→PV
 | [] => .nilslice
 | x::l => .slice .shared (l.length+1) ((x::l).flatMap encI)
abbrev encL (p:List Int):List PV:=[elL p]
attribute [go_sem] encL
theorem encI_cell:∀ p:List Int,(p.flatMap encI).all PV.isCell=true
 | []=>rfl
 | x::p=>by rw [List.flatMap_cons,List.all_append,encI_cell p];rfl
theorem encI_share:∀ p:List Int,(p.flatMap encI).map PV.share=p.flatMap encI
 | []=>rfl
 | x::p=>by rw [List.flatMap_cons,List.map_append,encI_share p];rfl
theorem share_own {m:Nat} {st:St} {u:PV} {p:List Int} {n:Nat} {cs:List PV} (h:OwnS m st 1 u n cs) (hn:n=p.length) (hc:cs=p.flatMap encI) (hp:p≠[]):u.share=elL p:=by
 subst hn hc
 cases p with
 | nil=>exact absurd rfl hp
 | cons x p =>
  rcases h.2 with ⟨h1,_⟩|⟨t,rfl,_⟩
  ·simp at h1
  ·rfl
end Go.Den.Ve
namespace Go.Den
end Go.Den
namespace Go.Den.Ve
theorem best_first {m:List Int→Int} {X:List (List Int)} (h:0<X.length):bestF (fun a b=>decide (m a<m b)) (X.take (max 0 1))=some X[0]:=by
 have e:bestF (fun a b=>decide (m a<m b)) (X.take 0)=none:=by simp [bestF]
 rw [show max 0 1=0+1 by rfl,bestF_take _ X h,e]
def eqT (X:List (List Int)) (j k i:Nat):Bool:=(X.take i).all fun p=>p.getD j 0==p.getD k 0
def growS (q:List Int) (m:Nat):List (List Int):=(List.range m).map fun (n:Nat)=>q++[(n:Int)]
end Go.Den.Ve
namespace Go.Den
end Go.Den
namespace Go.Den.Ve
def combS (n:Nat):Nat→Nat→List (List Int)
 | 0,_=>[[]]
 | k+1,f=>(List.range (n - f)).flatMap fun (d:Nat)=>(combS n k (f+d+1)).map fun l=>((f+d:Nat):Int)::l
theorem combS_len {n:Nat} (hn:n≤6):∀ (k f:Nat),(combS n k f).length≤6 ^ k
 | 0,f=>by simp [combS]
 | k+1,f=>by
  rw [combS]
  have h1:=flat_len (f:=fun (d:Nat)=>(combS n k (f+d+1)).map fun l=>((f+d:Nat):Int)::l) (d:=6 ^ k) (List.range (n - f)) (fun d _=>by rw [List.length_map];exact combS_len hn k _)
  rw [List.length_range] at h1
  rw [Nat.pow_succ,Nat.mul_comm (6 ^ k) 6]
  exact Nat.le_trans h1 (Nat.mul_le_mul_right _ (by omega))
def cmT (n k f d:Nat):List (List Int):=(List.range d).flatMap fun (d:Nat)=>(combS n k (f+d+1)).map fun l=>((f+d:Nat):Int)::l
end Go.Den.Ve
namespace Go.Den
end Go.Den
namespace Go.Den.Ve
def NumP (w:List UInt8) (v:Int) (b:Bool):Prop:=(numB w=true→b=true∧v=valL w)∧(b=true→numB w=false→v<0)
def NumsP (ws:List (List UInt8)) (ns:List Int) (b:Bool):Prop:=(ws.all numB=true→b=true)∧(b=true→ns.length=ws.length∧(ws.all numB=true→ns=ws.map fun w=>(valL w:Int))∧(ws.all numB=false→∃ n∈ns,n<0))
theorem splitL_pos (b:UInt8):∀ (s acc:List UInt8),0<(splitL b acc s).length
 | [],acc=>by simp [splitL]
 | x::s,acc=>by
  simp only [splitL]
  split
  ·simp
  ·exact splitL_pos b s _
theorem splitL_sum (b:UInt8):∀ (s acc:List UInt8),((splitL b acc s).map fun r=>r.length+1).sum=acc.length+s.length+1
 | [],acc=>by simp [splitL]
 | x::s,acc=>by
  simp only [splitL]
  split
  ·rw [List.map_cons,List.sum_cons,splitL_sum b s []];simp;omega
  ·rw [splitL_sum b s];simp;omega
theorem sum_ge {k:Nat}:∀ (l:List (List UInt8)) (n:Nat),n≤l.length→(∀ i,∀ hi:i<l.length,i<n→k≤l[i].length)→n*(k+1)≤(l.map fun r=>r.length+1).sum
 | [],n,hn,_=>by simp at hn;subst hn;simp
 | r::l,0,_,_=>by simp
 | r::l,n+1,hn,h=>by
  have h1:=sum_ge l n (by simpa using hn) (fun i hi hin=>h (i+1) (by simpa using hi) (by omega))
  have h2:=h 0 (by simp) (by omega)
  simp only [List.getElem_cons_zero] at h2
  rw [List.map_cons,List.sum_cons,Nat.succ_mul];omega
def wordsL (r:List UInt8):List (List UInt8):=(splitL 32 [] r).tail
def rowB (i:Nat) (r:List UInt8):Bool:=(wordsL r).all numB&&decide ((wordsL r).length=if i=0 then 2 else 3)
def rowNs (r:List UInt8):List Int:=(wordsL r).map fun w=>(valL w:Int)
def refOk (rows:List (List UInt8)) (m:Nat):Bool:=(List.range m).all fun i=>rowB i (rows.getD i [])
def allP (ns:List Int) (k:Nat):Bool:=(ns.take k).all fun n=>decide (n≥0)
theorem splitL_acc (b:UInt8):∀ s:List UInt8,∃ h t,∀ acc,splitL b acc s=(acc++h)::t
 | []=>⟨[],[],fun acc=>by simp [splitL]⟩
 | x::s=>by
  by_cases hx:x=b
  ·exact ⟨[],splitL b [] s,fun acc=>by simp [splitL,hx]⟩
  ·obtain ⟨h,t,e⟩:=splitL_acc b s
   exact ⟨x::h,t,fun acc=>by rw [splitL,if_neg hx,e];simp⟩
theorem splitL_set (b d:UInt8) (hd:d≠b):∀ (s acc:List UInt8) (i:Nat) (hi:i<s.length),s[i]≠b→∃ R1 R2 u v,splitL b acc s=R1++(u++s[i]::v)::R2∧splitL b acc (s.set i d)=R1++(u++d::v)::R2
 | [],acc,i,hi,_=>by simp at hi
 | x::s,acc,0,_,hx=>by
  obtain ⟨h,t,e⟩:=splitL_acc b s
  simp only [List.getElem_cons_zero] at hx
  refine ⟨[],t,acc,h,?_,?_⟩
  ·rw [splitL,if_neg hx,e];simp
  ·rw [List.set_cons_zero,splitL,if_neg hd,e];simp
 | x::s,acc,i+1,hi,hx=>by
  simp only [List.getElem_cons_succ] at hx ⊢
  by_cases hxb:x=b
  ·obtain ⟨R1,R2,u,v,e1,e2⟩:=splitL_set b d hd s [] i (by simpa using hi) hx
   exact ⟨acc::R1,R2,u,v,by rw [splitL,if_pos hxb,e1];rfl,by rw [List.set_cons_succ,splitL,if_pos hxb,e2];rfl⟩
  ·obtain ⟨R1,R2,u,v,e1,e2⟩:=splitL_set b d hd s (acc++[x]) i (by simpa using hi) hx
   exact ⟨R1,R2,u,v,by rw [splitL,if_neg hxb,e1],by rw [List.set_cons_succ,splitL,if_neg hxb,e2]⟩
def rowT (i:Nat):Nat→List UInt8→Nat
 | _,[]=>0
 | k,b::r=>b.toNat*(k+1)*(i+1)+rowT i (k+1) r
def totT:Nat→List (List UInt8)→Nat
 | _,[]=>0
 | i,r::rs=>rowT i 0 r+totT (i+1) rs
theorem rowT_app (i:Nat):∀ (u v:List UInt8) (k:Nat),rowT i k (u++v)=rowT i k u+rowT i (k+u.length) v
 | [],v,k=>by simp [rowT]
 | b::u,v,k=>by
  simp only [List.cons_append,rowT,rowT_app i u v (k+1),List.length_cons]
  rw [show k+1+u.length=k+(u.length+1) by omega];omega
theorem totT_app:∀ (R Q:List (List UInt8)) (i:Nat),totT i (R++Q)=totT i R+totT (i+R.length) Q
 | [],Q,i=>by simp [totT]
 | r::R,Q,i=>by
  simp only [List.cons_append,totT,totT_app R Q (i+1),List.length_cons]
  rw [show i+1+R.length=i+(R.length+1) by omega];omega
theorem rowSum_T (i:Nat) (r:List UInt8):∀ k,k≤r.length→rowSum i r k=rowT i 0 (r.take k)
 | 0,_=>by simp [rowSum,rowT]
 | k+1,hk=>by
  have hg:r.getD k 0=r[k]'(by omega):=by rw [List.getD_eq_getElem?_getD,List.getElem?_eq_getElem (by omega)];rfl
  rw [rowSum,rowSum_T i r k (by omega),hg,List.take_succ_eq_append_getElem (by omega),rowT_app,List.length_take,show 0+min k r.length=k by omega]
  simp [rowT]
theorem allSum_T (rows:List (List UInt8)):∀ k,k≤rows.length→allSum rows k=totT 0 (rows.take k)
 | 0,_=>by simp [allSum,totT]
 | k+1,hk=>by
  have hg:rows.getD k []=rows[k]'(by omega):=by rw [List.getD_eq_getElem?_getD,List.getElem?_eq_getElem (by omega)];rfl
  rw [allSum,allSum_T rows k (by omega),hg,rowSum_T _ _ _ (Nat.le_refl _),List.take_length,List.take_succ_eq_append_getElem (by omega),totT_app,List.length_take,show 0+min k rows.length=k by omega]
  simp [totT]
def bytesV (s:List UInt8):List PV:=s.map fun b => .int .u8 (b.toNat:Int)
theorem bytesOf_V:∀ s:List UInt8,bytesOf (bytesV s)=some s
 | []=>rfl
 | b::s=>by
  have ih:=bytesOf_V s
  unfold bytesV at ih ⊢
  simp only [List.map_cons,bytesOf,ih,Option.map_some,Int.toNat_natCast,UInt8.ofNat_toNat]
end Go.Den.Ve
end
section
namespace Go.Den.Ve
def bookW:List UInt8:=[98,111,111,107]
def copyW:List UInt8:=[99,111,112,121]
def lineW:List UInt8:=[108,105,110,101]
def lostW:List UInt8:=[108,111,115,116]
def lnRow (x:LN):List UInt8:=if x.lost then lostW else rowL lineW x.words
def copyRows (c:List LN):List (List UInt8):=copyW::c.map lnRow
def rowsV (b:BK):List (List UInt8):=rowL bookW [b.words]::b.copies.flatMap copyRows
def textV (b:BK):List UInt8:=sealL (rowsV b) 197
def toldV (row w:List UInt8):Option (List Int):=if (splitL 32 [] row).headD []=w then numsL (splitL 32 [] row).tail else none
def addLn (cs:List (List LN)) (x:LN):List (List LN):=cs.dropLast++[cs.getLastD []++[x]]
def stepV (cs:List (List LN)) (r:List UInt8):Option (List (List LN)) :=
 if r=copyW then some (cs++[[]])
 else if cs=[] then none
 else if r=lostW then some (addLn cs ⟨true,[]⟩)
 else (toldV r lineW).map fun ns=>addLn cs ⟨false,ns⟩
def foldV:List (List LN)→List (List UInt8)→Option (List (List LN))
 | cs,[]=>some cs
 | cs,r::rs=>match stepV cs r with
  | some cs'=>foldV cs' rs
  | none=>none
def rowsPV (rows:List (List UInt8)):Option BK :=
 if 3≤rows.length then
  match toldV (rows.headD []) bookW with
  | some [n]=>(foldV [] ((rows.drop 1).take (rows.length - 3))).map fun cs=>⟨n,cs⟩
  | _=>none
 else none
def parsedV (s:List UInt8):Option BK:=(rowsPV (splitL 10 [] s)).bind fun b=>if textV b==s then some b else none
structure OkLn (x:LN):Prop where
 n:∀ n∈x.words,0≤n∧n<100
 l:x.lost=true→x.words=[]
structure OkT (b:BK):Prop where
 w:0≤b.words∧b.words<100
 all:∀ c∈b.copies,∀ x∈c,OkLn x
theorem OkB.t {b:BK} (h:OkB b):OkT b:=by
 refine ⟨⟨by have:=h.w1;omega,by have:=h.w3;omega⟩,fun c hc x hx=>?_⟩
 obtain ⟨h1,h2⟩:=(h.all c hc).2 x hx
 exact ⟨fun n hn=>by have:=(lineB_iff.1 h1).2 n hn;have:=h.w3;omega,h2⟩
theorem rowL_pre (w:List UInt8) (ns:List Int):∃ t,rowL w ns=w++t:=by
 refine snoc_ind (P:=fun ns=>∃ t,rowL w ns=w++t) ⟨[],by simp [rowL]⟩ ?_ ns
 rintro ns n ⟨t,e⟩
 exact ⟨t++32::itoaL n.toNat,by rw [rowL_snoc,e];simp⟩
theorem line_not (ns:List Int):rowL lineW ns≠copyW∧rowL lineW ns≠lostW:=by
 obtain ⟨t,e⟩:=rowL_pre lineW ns
 rw [e]
 constructor
 ·intro h;simp [lineW,copyW] at h
 ·intro h;simp [lineW,lostW] at h
theorem toldV_row {w:List UInt8} (hw:(32:UInt8)∉w) (ns:List Int) (h:∀ n∈ns,0≤n∧n<100):toldV (rowL w ns) w=some ns:=by
 unfold toldV
 rw [rowL_split hw ns h,List.headD_cons,List.tail_cons,if_pos rfl]
 exact numsL_map ns h
theorem addLn_snoc (pre:List (List LN)) (l:List LN) (x:LN):addLn (pre++[l]) x=pre++[l++[x]]:=by simp [addLn]
theorem stepV_line (pre:List (List LN)) (l:List LN) {x:LN} (hx:OkLn x):stepV (pre++[l]) (lnRow x)=some (pre++[l++[x]]):=by
 unfold stepV lnRow
 cases hl:x.lost
 ·have h1:=line_not x.words
  simp only [Bool.false_eq_true,if_false]
  rw [if_neg h1.1,if_neg (by simp),if_neg h1.2,toldV_row (by decide) _ hx.n,Option.map_some,addLn_snoc]
  congr 4
  cases x;simp only at hl;rw [hl]
 ·simp only [if_true]
  rw [if_neg (by decide),if_neg (by simp),addLn_snoc]
  have:=hx.l hl
  congr 4
  cases x;simp only at hl this;rw [hl,this]
theorem foldV_lines:∀ (c:List LN) (pre:List (List LN)) (l:List LN) (rest:List (List UInt8)),(∀ x∈c,OkLn x)→foldV (pre++[l]) (c.map lnRow++rest)=foldV (pre++[l++c]) rest
 | [],pre,l,rest,_=>by simp
 | x::c,pre,l,rest,h=>by
  rw [List.map_cons,List.cons_append,foldV,stepV_line pre l (h x (by simp))]
  show foldV (pre++[l++[x]]) (c.map lnRow++rest)=_
  rw [foldV_lines c pre (l++[x]) rest (fun y hy=>h y (by simp [hy]))]
  simp
theorem foldV_copies:∀ (cs:List (List LN)) (pre:List (List LN)),(∀ c∈cs,∀ x∈c,OkLn x)→foldV pre (cs.flatMap copyRows)=some (pre++cs)
 | [],pre,_=>by simp [foldV]
 | c::cs,pre,h=>by
  have e:(c::cs).flatMap copyRows=copyW::(c.map lnRow++cs.flatMap copyRows):=by simp [copyRows]
  have e2:stepV pre copyW=some (pre++[[]]):=by rw [stepV,if_pos rfl]
  rw [e,foldV,e2]
  show foldV (pre++[[]]) (c.map lnRow++cs.flatMap copyRows)=_
  rw [foldV_lines c pre [] _ (h c (by simp)),foldV_copies cs _ (fun d hd=>h d (by simp [hd]))]
  simp
theorem rowsV_no {b:BK} (hw:0≤b.words∧b.words<100) (h:∀ c∈b.copies,∀ x∈c,∀ n∈x.words,0≤n∧n<100):∀ r∈rowsV b,(10:UInt8)∉r:=fun r hr=>by
 simp only [rowsV,List.mem_cons,List.mem_flatMap,copyRows,List.mem_map] at hr
 rcases hr with rfl|⟨c,hc,rfl|⟨x,hx,rfl⟩⟩
 ·exact rowL_no (by decide) _ (by simp only [List.mem_cons,List.not_mem_nil,or_false];rintro n rfl;exact hw)
 ·decide
 ·unfold lnRow
  split
  ·decide
  ·exact rowL_no (by decide) _ (h c hc x hx)
theorem endV_no (rows:List (List UInt8)):(10:UInt8)∉endRow rows 197∧(endRow rows 197).length≤10:=by
 unfold endRow
 have h:allSum rows rows.length % 197<197:=Nat.mod_lt _ (by decide)
 generalize allSum rows rows.length % 197=s at h
 have hd:∀ n,n<100→(10:UInt8)∉itoaL n:=fun n hn hb=>by
  have:=itoaL_mem hn _ hb
  revert this;decide
 constructor
 ·simp only [List.mem_append,not_or]
  exact ⟨⟨⟨by decide,hd _ (by omega)⟩,hd _ (by omega)⟩,hd _ (by omega)⟩
 ·have h1:=itoaL_len (s / 100)
  have h2:=itoaL_len (s / 10 % 10)
  have h3:=itoaL_len (s % 10)
  simp only [List.length_append,endW,List.length_cons,List.length_nil]
  omega
theorem textV_rows {b:BK} (hw:0≤b.words∧b.words<100) (h:∀ c∈b.copies,∀ x∈c,∀ n∈x.words,0≤n∧n<100):splitL 10 [] (textV b)=rowsV b++[endRow (rowsV b) 197]++[[]]:=by
 rw [textV,seal_join]
 refine splitL_join _ fun r hr=>?_
 rcases List.mem_append.1 hr with h1|h1
 ·exact rowsV_no hw h r h1
 ·rw [List.mem_singleton.1 h1];exact (endV_no _).1
theorem OkT.rows {b:BK} (h:OkT b):splitL 10 [] (textV b)=rowsV b++[endRow (rowsV b) 197]++[[]]:=textV_rows h.w fun c hc x hx=>(h.all c hc x hx).n
theorem addLn_ok {cs:List (List LN)} (h:∀ c∈cs,∀ x∈c,OkLn x) {y:LN} (hy:OkLn y):∀ c∈addLn cs y,∀ x∈c,OkLn x:=by
 intro c hc x hx
 unfold addLn at hc
 rcases List.mem_append.1 hc with hc|hc
 ·exact h c (List.dropLast_subset _ hc) x hx
 ·rw [List.mem_singleton.1 hc] at hx
  rcases List.mem_append.1 hx with hx|hx
  ·cases hcs:cs.getLast? with
   | none =>
    rw [List.getLastD_eq_getLast?,hcs] at hx
    cases hx
   | some d =>
    rw [List.getLastD_eq_getLast?,hcs] at hx
    exact h d (List.mem_of_getLast? hcs) x hx
  ·rw [List.mem_singleton.1 hx];exact hy
theorem toldV_ok {row w:List UInt8} {ns:List Int} (h:toldV row w=some ns):∀ n∈ns,0≤n∧n<100:=by
 unfold toldV at h
 split at h
 ·exact (numsL_ok h).2
 ·cases h
theorem stepV_ok {cs cs':List (List LN)} {r:List UInt8} (h:∀ c∈cs,∀ x∈c,OkLn x) (e:stepV cs r=some cs'):∀ c∈cs',∀ x∈c,OkLn x:=by
 unfold stepV at e
 split at e
 ·cases e
  intro c hc x hx
  rcases List.mem_append.1 hc with hc|hc
  ·exact h c hc x hx
  ·rw [List.mem_singleton.1 hc] at hx;cases hx
 ·split at e
  ·cases e
  ·split at e
   ·cases e
    exact addLn_ok h ⟨fun n hn=>(by cases hn),fun _=>rfl⟩
   ·obtain ⟨ns,e1,rfl⟩:=Option.map_eq_some_iff.1 e
    exact addLn_ok h ⟨toldV_ok e1,fun hl=>(by cases hl)⟩
theorem foldV_ok:∀ {rs:List (List UInt8)} {cs cs':List (List LN)},(∀ c∈cs,∀ x∈c,OkLn x)→foldV cs rs=some cs'→∀ c∈cs',∀ x∈c,OkLn x
 | [],cs,cs',h,e=>by rw [foldV] at e;cases e;exact h
 | r::rs,cs,cs',h,e=>by
  rw [foldV] at e
  split at e
  ·rename_i d hd
   exact foldV_ok (stepV_ok h hd) e
  ·cases e
end Go.Den.Ve
end
section
namespace Go.Den.Ve
theorem joinL_sum:∀ rows:List (List UInt8),(joinL rows).length=(rows.map fun r=>r.length+1).sum
 | []=>rfl
 | r::rows=>by
  have e:joinL (r::rows)=r++10::joinL rows:=by simp [joinL]
  rw [e,List.map_cons,List.sum_cons,← joinL_sum rows];simp;omega
theorem itoaL_one {n:Nat} (h:n<10):(itoaL n).length=1:=by unfold itoaL;rw [if_pos h];rfl
theorem rowL_short (w:List UInt8) (ns:List Int):(∀ n∈ns,0≤n∧n<10)→(rowL w ns).length=w.length+2*ns.length:=by
 refine snoc_ind (P:=fun ns=>(∀ n∈ns,0≤n∧n<10)→(rowL w ns).length=w.length+2*ns.length) (fun _=>by simp [rowL]) ?_ ns
 intro ns n ih h
 have hn:=h n (by simp)
 rw [rowL_snoc,List.length_append,ih (fun x hx=>h x (by simp [hx])),List.length_cons,itoaL_one (by omega),List.length_append]
 simp;omega
theorem lnRow_len {w:Int} (hw:w≤3) {x:LN} (h:lineB w x.words=true):(lnRow x).length≤12:=by
 unfold lnRow
 split
 ·decide
 ·obtain ⟨h1,h2⟩:=lineB_iff.1 h
  rw [rowL_short _ _ (fun n hn=>by have:=h2 n hn;omega)]
  simp only [lineW,List.length_cons,List.length_nil];omega
theorem copyRows_sum {w:Int} (hw:w≤3):∀ (c:List LN),(∀ x∈c,lineB w x.words=true)→((c.map lnRow).map fun r=>r.length+1).sum≤13*c.length
 | [],_=>by simp
 | x::c,h=>by
  have h1:=copyRows_sum hw c fun y hy=>h y (by simp [hy])
  have h2:=lnRow_len hw (h x (by simp))
  simp only [List.map_cons,List.sum_cons,List.length_cons];omega
theorem copies_sum {w:Int} (hw:w≤3):∀ (cs:List (List LN)),(∀ c∈cs,c.length≤4∧∀ x∈c,lineB w x.words=true)→((cs.flatMap copyRows).map fun r=>r.length+1).sum≤57*cs.length
 | [],_=>by simp
 | c::cs,h=>by
  have h1:=copies_sum hw cs fun d hd=>h d (by simp [hd])
  have h2:=copyRows_sum hw c (h c (by simp)).2
  have h3:=(h c (by simp)).1
  rw [List.flatMap_cons,List.map_append,List.sum_append]
  simp only [copyRows,List.map_cons,List.sum_cons,List.length_cons,copyW,List.length_nil]
  simp only [List.map_map] at h2 ⊢
  omega
theorem copies_rows:∀ (cs:List (List LN)),(∀ c∈cs,c.length≤4)→(cs.flatMap copyRows).length≤5*cs.length
 | [],_=>by simp
 | c::cs,h=>by
  have h1:=copies_rows cs fun d hd=>h d (by simp [hd])
  have h3:=h c (by simp)
  rw [List.flatMap_cons,List.length_append]
  simp only [copyRows,List.length_cons,List.length_map]
  omega
end Go.Den.Ve
end
section
namespace Go.Den.Ve
def headW (r:List UInt8):List UInt8:=(splitL 32 [] r).headD []
def rowOk (i:Nat) (r:List UInt8):Bool:=(wordsL r).all numB&&(decide (i≠0) || decide ((wordsL r).length=1))
def refStep (cs:List (List LN)) (r:List UInt8):List (List LN) :=
 if headW r=copyW then cs++[[]] else if cs=[] then cs else addLn cs ⟨decide (headW r=lostW),rowNs r⟩
def refB (rows:List (List UInt8)) (m:Nat):BK:=if m=0 then ⟨0,[]⟩ else ⟨(rowNs (rows.getD 0 [])).getD 0 0,((rows.take m).drop 1).foldl refStep []⟩
def refOkV (rows:List (List UInt8)) (m:Nat):Bool:=(List.range m).all fun i=>rowOk i (rows.getD i [])
def refV (s:List UInt8):Option BK:=if refOkV (splitL 10 [] s) ((splitL 10 [] s).length - 2)&&(textV (refB (splitL 10 [] s) ((splitL 10 [] s).length - 2))==s) then some (refB (splitL 10 [] s) ((splitL 10 [] s).length - 2)) else none
theorem rowL_words {w:List UInt8} (hw:(32:UInt8)∉w) {ns:List Int} (h:∀ n∈ns,0≤n∧n<100):headW (rowL w ns)=w∧(wordsL (rowL w ns)).all numB=true∧(wordsL (rowL w ns)).length=ns.length∧rowNs (rowL w ns)=ns:=by
 unfold headW rowNs wordsL
 rw [rowL_split hw ns h]
 refine ⟨rfl,?_,by simp,?_⟩
 ·rw [List.tail_cons,List.all_map,List.all_eq_true]
  intro n hn
  have:=h n hn
  exact (itoaL_num (n:=n.toNat) (by omega)).1
 ·rw [List.tail_cons,List.map_map]
  conv=>rhs;rw [← List.map_id ns]
  apply List.map_congr_left
  intro n hn
  have:=h n hn
  simp only [Function.comp_apply,(itoaL_num (n:=n.toNat) (by omega)).2,id]
  omega
theorem word_row {w:List UInt8} (hw:(32:UInt8)∉w):headW w=w∧wordsL w=[]∧rowNs w=[]:=by
 unfold headW rowNs wordsL
 rw [splitL_none 32 w [] hw]
 exact ⟨rfl,rfl,rfl⟩
theorem lnRow_ok {x:LN} (hx:OkLn x):(wordsL (lnRow x)).all numB=true∧∀ cs,cs≠[]→refStep cs (lnRow x)=addLn cs x:=by
 unfold lnRow refStep
 cases hl:x.lost
 ·simp only [Bool.false_eq_true,if_false]
  obtain ⟨h1,h2,_,h4⟩:=rowL_words (w:=lineW) (by decide) hx.n
  refine ⟨h2,fun cs hc=>?_⟩
  rw [h1,if_neg (by decide),if_neg hc,h4]
  congr 1
  cases x;simp only at hl;rw [hl];rfl
 ·simp only [if_true]
  obtain ⟨h1,h2,h3⟩:=word_row (w:=lostW) (by decide)
  refine ⟨by rw [h2];rfl,fun cs hc=>?_⟩
  rw [h1,if_neg (by decide),if_neg hc,h3]
  have:=hx.l hl
  congr 1
  cases x;simp only at hl this;rw [hl,this];rfl
theorem refStep_lines:∀ (c:List LN) (pre:List (List LN)) (l:List LN),(∀ x∈c,OkLn x)→(c.map lnRow).foldl refStep (pre++[l])=pre++[l++c]
 | [],pre,l,_=>by simp
 | x::c,pre,l,h=>by
  rw [List.map_cons,List.foldl_cons,(lnRow_ok (h x (by simp))).2 _ (by simp),addLn_snoc,refStep_lines c pre (l++[x]) (fun y hy=>h y (by simp [hy]))]
  simp
theorem refStep_copies:∀ (cs:List (List LN)) (pre:List (List LN)),(∀ c∈cs,∀ x∈c,OkLn x)→(cs.flatMap copyRows).foldl refStep pre=pre++cs
 | [],pre,_=>by simp
 | c::cs,pre,h=>by
  have e:(c::cs).flatMap copyRows=copyW::(c.map lnRow++cs.flatMap copyRows):=by simp [copyRows]
  have e2:refStep pre copyW=pre++[[]]:=by rw [refStep,(word_row (w:=copyW) (by decide)).1,if_pos rfl]
  rw [e,List.foldl_cons,e2,List.foldl_append,refStep_lines c pre [] (h c (by simp)),refStep_copies cs _ (fun d hd=>h d (by simp [hd]))]
  simp
def clearLn (x:LN):LN:=if x.lost then ⟨true,[]⟩ else x
def clearB (b:BK):BK:=⟨b.words,b.copies.map fun c=>c.map clearLn⟩
theorem refStep_in:∀ (rs:List (List UInt8)) (cs:List (List LN)),(∀ r∈rs,∀ n∈rowNs r,0≤n∧n<100)→(∀ c∈cs,∀ x∈c,∀ n∈x.words,0≤n∧n<100)→∀ c∈rs.foldl refStep cs,∀ x∈c,∀ n∈x.words,0≤n∧n<100
 | [],cs,_,h=>h
 | r::rs,cs,hr,h=>by
  rw [List.foldl_cons]
  refine refStep_in rs _ (fun q hq=>hr q (by simp [hq])) ?_
  unfold refStep
  split
  ·intro c hc x hx
   rcases List.mem_append.1 hc with hc|hc
   ·exact h c hc x hx
   ·rw [List.mem_singleton.1 hc] at hx;cases hx
  ·split
   ·exact h
   ·intro c hc x hx
    unfold addLn at hc
    rcases List.mem_append.1 hc with hc|hc
    ·exact h c (List.dropLast_subset _ hc) x hx
    ·rw [List.mem_singleton.1 hc] at hx
     rcases List.mem_append.1 hx with hx|hx
     ·cases hcs:cs.getLast? with
      | none=>rw [List.getLastD_eq_getLast?,hcs] at hx;cases hx
      | some d=>rw [List.getLastD_eq_getLast?,hcs] at hx;exact h d (List.mem_of_getLast? hcs) x hx
     ·rw [List.mem_singleton.1 hx];exact hr r (by simp)
def readV (s:List UInt8):BK×Int:=if s.length>400 then (⟨0,[]⟩,3) else match parsedV s with
 | some b=>if bookB b then (b,0) else (⟨0,[]⟩,2)
 | none=>(⟨0,[]⟩,4)
end Go.Den.Ve
end
section
namespace Go.Den.Ve
structure S5 where
 kind:Nat
 word:Int
 di:Nat
 dj:Nat
 left:Nat
def kmv:Nat→List Int→List Int→Option (Nat×Nat×Int)
 | 0,a::_,b::_=>if a=b then some (1,1,a) else none
 | 1,a::_,b::_=>if a=b then none else some (1,1,b)
 | 2,_,b::_=>some (0,1,b)
 | 3,a::_,_=>some (1,0,a)
 | _,_,_=>none
def kst (l m:List Int) (k:Nat) (v:Nat×Nat×Int):S5:=⟨1+k,v.2.2,v.1,v.2.1,lev (l.drop v.1) (m.drop v.2.1)+if k=0 then 0 else 1⟩
def candT (k:Nat) (l m:List Int):List S5:=(List.range k).filterMap fun k=>(kmv k l m).map (kst l m k)
theorem candT_succ (k:Nat) (l m:List Int):candT (k+1) l m=candT k l m++((kmv k l m).map (kst l m k)).toList:=by
 unfold candT
 rw [List.range_succ,List.filterMap_append]
 cases h:kmv k l m <;> simp [h]
theorem candT_len (l m:List Int):∀ k,(candT k l m).length≤k
 | 0=>Nat.le_refl _
 | k+1=>by
  rw [candT_succ,List.length_append]
  have:=candT_len l m k
  cases kmv k l m <;> simp <;> omega
end Go.Den.Ve
end

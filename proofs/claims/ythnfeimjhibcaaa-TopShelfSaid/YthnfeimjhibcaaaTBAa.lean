/- Part of the proofs of laws of the package version. Texts: DenCore, DenComp, DenRel. -/
import GoSem.Dispatch
import GoSem.Machine.Frame
import Derived.RangeFuncLeaves
import Derived.RangeFuncRecord
set_option linter.unusedSimpArgs false
set_option linter.unusedVariables false
section
namespace Go.Den
inductive Own where
 | tag (t sz:Nat)
 | shared
inductive PV where
 | bool (b:Bool)
 | int (k:IntKind) (n:Int)
 | str (s:ByteArray)
 | ptr (l off:Nat)
 | cptr (cs:List PV)
 | nilptr
 | slice (o:Own) (n:Nat) (cs:List PV)
 | nilslice
 | hslice (l sz n:Nat)
 | vslice (l sz n:Nat)
 | aptr (l off:Nat)
 | map (l:Nat)
 | nilmap
 | func (f:Nat) (first captured:List PV)
 | nilfunc
 | yield (l:Nat)
 | iface (t:Nat) (v:PV)
 | niliface
 | agg (cs:List PV)
 | tuple (vs:List PV)
def undef:PV := .tuple []
def PV.cells:PV→List PV
 | .agg cs=>cs
 | v=>[v]
inductive Opd where
 | t (i:Nat)
 | c (v:PV)
inductive DOp where
 | val (x:Opd)
 | pick (c a b:Opd)
 | box (x:Opd)
 | alloc (z:List PV)
 | build (z:List PV) (parts:List (Nat×Nat×Opd))
 | buildSlice (sz:Nat) (n:Nat) (z:List PV) (parts:List (Nat×Nat×Opd))
 | buildSliceS (sz:Nat) (n:Nat) (z:List PV) (parts:List (Nat×Nat×Opd))
 | load (agg:Bool) (sz:Nat) (a:Opd)
 | store (sz:Nat) (a x:Opd)
 | nilCheck (x:Opd)
 | binI (op:BinOp) (x y:Opd)
 | binS (op:BinOp) (x y:Opd)
 | binB (neg:Bool) (x y:Opd)
 | eqAgg (neg:Bool) (k:Nat) (x y:Opd)
 | isNilS (neg:Bool) (x:Opd)
 | not (x:Opd)
 | neg (x:Opd)
 | toInt (k:IntKind) (x:Opd)
 | bytesToStr (x:Opd)
 | strToBytes (x:Opd)
 | rangeStr (x:Opd)
 | nextStr (x:Opd)
 | assertT (t:Nat) (z:PV) (x:Opd)
 | mkIface (t:Nat) (x:Opd)
 | mkFunc (f:Nat) (first captured:List Opd)
 | mkMap
 | slice (sz:Nat) (x:Opd) (lo hi:Option Opd)
 | sliceStr (x:Opd) (lo hi:Option Opd)
 | fieldAddr (off:Nat) (x:Opd)
 | part (agg:Bool) (sz off:Nat) (x:Opd)
 | indexAddr (sz:Nat) (x i:Opd)
 | indexVar (len sz:Nat) (x i:Opd)
 | indexArr (agg:Bool) (len sz:Nat) (x i:Opd)
 | indexStr (x i:Opd)
 | lookup (nf:Nat) (z:PV) (m k:Opd) (ok:Bool)
 | mapUpdate (nf:Nat) (m k v:Opd)
 | extract (x:Opd) (i:Nat)
 | len (x:Opd)
 | lenStr (x:Opd)
 | append (mu:Bool) (sz:Nat) (x y:Opd)
 | minmax (max:Bool) (x:Opd) (ys:List Opd)
 | call (f:Opd) (args:List Opd)
 | invoke (x:Opd) (m:String) (args:List Opd)
 | panic (x:Opd)
 | buildSliceA (sz:Nat) (n:Nat) (z:List PV) (parts:List (Nat×Nat×Opd))
 | sliceA (len sz:Nat) (x hi:Opd)
 | lookupI (z:PV) (m k:Opd) (ok:Bool)
 | updateI (m k v:Opd)
structure DOper where
 op:DOp
 dst:Option Nat
 guard:Option (Nat×Bool)
inductive DCode where
 | skip
 | region (ops:List DOper)
 | dregion (ops:List DOper) (heavy:List (Nat×List Nat))
 | seq (a b:DCode)
 | cond (c:Opd) (a b:DCode)
 | block (id:Nat) (b:DCode)
 | loop (b:DCode)
 | rangeFunc (f:Opd) (params:List Nat) (assign body:DCode)
 | exit (id:Nat)
 | scope (b:DCode)
 | ret
inductive DRes where
 | tmp (t:Nat)
 | cell (t:Nat) (agg:Bool) (sz:Nat)
structure DFunc where
 ntmps:Nat
 results:List DRes
 body:DCode
inductive LSt where
 | ready|busy|done|over
inductive Jump where
 | ret
 | exit (id:Nat)
inductive HObj where
 | var (cs:List PV)
 | tag (isOpen:Bool)
 | arr (cs:List PV)
 | iter (s:ByteArray) (pos:Nat)
 | map (es:List (PV×PV))
 | loop (tm:List PV) (params:List Nat) (assign body:DCode) (s:LSt) (pend:Option Jump)
structure St where
 heap:List HObj
 lo:Nat
inductive Ex where
 | normal
 | ret
 | exit (id:Nat)
 | panic (v:PV)
inductive CR where
 | ret (v:PV)
 | panic (v:PV)
def Opd.ev (tm:List PV):Opd→PV
 | .t i=>tm.getD i undef
 | .c v=>v
def binI (op:BinOp) (k:IntKind) (x y:Int):Option PV :=
 match op with
 | .add=>some (.int k (k.wrap (x+y)))
 | .sub=>some (.int k (k.wrap (x - y)))
 | .mul=>some (.int k (k.wrap (x*y)))
 | .quo=>if y=0 then none else some (.int k (k.wrap (x.tdiv y)))
 | .rem=>if y=0 then none else some (.int k (x.tmod y))
 | .or=>some (.int k (k.wrap (BitVec.ofInt k.bits x ||| BitVec.ofInt k.bits y).toNat))
 | .and=>some (.int k (k.wrap (BitVec.ofInt k.bits x &&& BitVec.ofInt k.bits y).toNat))
 | .shl=>if y<0 then none else some (.int k (k.wrap (x*2 ^ (min y.toNat k.bits))))
 | .eql=>some (.bool (x==y))
 | .neq=>some (.bool (x != y))
 | .lss=>some (.bool (decide (x<y)))
 | .leq=>some (.bool (decide (x≤y)))
 | .gtr=>some (.bool (decide (x>y)))
 | .geq=>some (.bool (decide (x≥y)))
 | _=>none
def binS (op:BinOp) (x y:ByteArray):Option PV :=
 match op with
 | .add=>if x.size+y.size≤1000000 then some (.str (x++y)) else none
 | .eql=>some (.bool (x.toList==y.toList))
 | .neq=>some (.bool (!(x.toList==y.toList)))
 | _=>none
def ints:List PV→Option (List Int)
 | []=>some []
 | .int .i64 n::r=>(ints r).map (n::·)
 | _=>none
def splice (cs:List PV) (off:Nat) (p:List PV):List PV:=cs.take off++p++cs.drop (off+p.length)
def fillD (tm:List PV):List PV→List (Nat×Nat×Opd)→Option (List PV)
 | cs,[]=>some cs
 | cs,(off,size,x)::r =>
  let p:=(x.ev tm).cells
  if p.length=size∧off+size≤cs.length then fillD tm (splice cs off p) r else none
def rdPart (agg:Bool) (sz:Nat) (cs:List PV):Option PV :=
 if agg then (if sz≤cs.length then some (.agg (cs.take sz)) else none) else cs.head?
mutual
def PV.low (m:Nat):PV→Bool
 | .ptr l _=>decide (l<m)
 | .cptr cs=>lowL m cs
 | .slice (.tag t _) _ cs=>decide (t<m)&&lowL m cs
 | .slice .shared _ cs=>lowL m cs
 | .hslice l _ _=>decide (l<m)
 | .vslice l _ _=>decide (l<m)
 | .aptr l _=>decide (l<m)
 | .map l=>decide (l<m)
 | .func _ a c=>lowL m a&&lowL m c
 | .yield l=>decide (l<m)
 | .iface _ v=>v.low m
 | .agg cs=>lowL m cs
 | .tuple vs=>lowL m vs
 | _=>true
def lowL (m:Nat):List PV→Bool
 | []=>true
 | v::vs=>v.low m&&lowL m vs
end
def PV.isCell:PV→Bool
 | .agg _=>false
 | .tuple _=>false
 | _=>true
def PV.share:PV→PV
 | .slice _ n cs => .slice .shared n cs
 | v=>v
def freeze1 (m:Nat) (h:List HObj):PV→PV×List HObj
 | .hslice t sz n=>if t<m then (.hslice t sz n,h) else match h[t]? with
  | some (.arr cs)=>if cs.all PV.isCell then (.slice (.tag t sz) n (cs.map PV.share),h.set t (.tag true)) else (.hslice t sz n,h)
  | _=>(.hslice t sz n,h)
 | v=>(v,h)
def freezeL (m:Nat) (h:List HObj):List PV→List PV×List HObj
 | []=>([],h)
 | v::vs=>match freeze1 m h v with
  | (v',h1)=>match freezeL m h1 vs with
   | (vs',h2)=>(v'::vs',h2)
def retag1 (h:List HObj) (m:Nat) (seen:List Nat):PV→Option (PV×List Nat)
 | .slice (.tag t sz) n cs =>
  if lowL m cs then
   if t<m then some (.slice (.tag t sz) n cs,seen)
   else match h[t]? with
    | some (.tag true)=>if seen.contains t then some (.slice .shared n cs,seen) else some (.slice (.tag (m+seen.length) sz) n cs,seen++[t])
    | _=>some (.slice .shared n cs,seen)
  else none
 | v=>if v.low m then some (v,seen) else none
def retagL (h:List HObj) (m:Nat) (seen:List Nat):List PV→Option (List PV×List Nat)
 | []=>some ([],seen)
 | v::vs=>match retag1 h m seen v with
  | some (v',s1)=>match retagL h m s1 vs with
   | some (vs',s2)=>some (v'::vs',s2)
   | none=>none
  | none=>none
def letGo (m:Nat) (h:List HObj):PV→Option (PV×Nat)
 | .tuple vs=>match freezeL m h vs with
  | (vs,h)=>(retagL h m [] vs).map fun r=>(.tuple r.1,r.2.length)
 | .agg vs=>match freezeL m h vs with
  | (vs,h)=>(retagL h m [] vs).map fun r=>(.agg r.1,r.2.length)
 | v=>match freeze1 m h v with
  | (v,h)=>(retag1 h m [] v).map fun r=>(r.1,r.2.length)
def freeze2 (m:Nat) (h:List HObj):PV→PV×List HObj
 | .hslice t sz n=>if t<m then (.hslice t sz n,h) else match h[t]? with
  | some (.arr cs)=>if cs.all PV.isCell then match freezeL m h cs with
   | (cs',h1)=>match h1[t]? with
    | some (.arr _)=>(.slice (.tag t sz) n (cs'.map PV.share),h1.set t (.tag true))
    | _=>(.hslice t sz n,h)
   else (.hslice t sz n,h)
  | _=>(.hslice t sz n,h)
 | v=>(v,h)
def freeze2L (m:Nat) (h:List HObj):List PV→List PV×List HObj
 | []=>([],h)
 | v::vs=>match freeze2 m h v with
  | (v',h1)=>match freeze2L m h1 vs with
   | (vs',h2)=>(v'::vs',h2)
def letGo2 (m:Nat) (h:List HObj):PV→Option (PV×Nat)
 | .agg vs=>match freeze2L m h vs with
  | (vs,h)=>(retagL h m [] vs).map fun r=>(.agg r.1,r.2.length)
 | _=>none
def finishCall (st st1:St) (v:PV):PV×St :=
 if st.heap.length≤st1.lo then
  match letGo st.heap.length st1.heap v with
  | some (v',k)=>(v',{ heap:=st.heap++List.replicate k (.tag true),lo:=st.lo })
  | none=>match letGo2 st.heap.length st1.heap v with
   | some (v',k)=>(v',{ heap:=st.heap++List.replicate k (.tag true),lo:=st.lo })
   | none=>(v,{ heap:=st1.heap,lo:=st.lo })
 else (v,{ heap:=st1.heap,lo:=min st.lo st1.lo })
def setVar (st:St) (l:Nat) (o:HObj):St:={ heap:=st.heap.set l o,lo:=min st.lo l }
inductive OpR where
 | val (v:PV) (st:St)
 | panic (v:PV) (st:St)
structure Rec where
 code:DCode→List PV→St→Option (Ex×List PV×St)
 call:PV→List PV→St→Option (CR×St)
structure Env where
 fn:Nat→Option DFunc
 meth:Nat→String→Option Nat
 prim:Nat→Rec→List PV→St→Option (Option (CR×St))
def maxList:Nat:=1000000
def findKey (k:List Int):List (PV×PV)→Nat→Option (Option Nat)
 | [],_=>some none
 | (.agg cs,_)::r,i=>match ints cs with
  | some l=>if l.length=k.length then (if l=k then some (some i) else findKey k r (i+1)) else none
  | none=>none
 | _,_=>none
def findKeyI (k:Int):List (PV×PV)→Nat→Option (Option Nat)
 | [],_=>some none
 | (.int .i64 n,_)::r,i=>if n=k then some (some i) else findKeyI k r (i+1)
 | _,_=>none
def put (tm:List PV) (dst:Option Nat) (v:PV):List PV :=
 match dst with
 | some d=>tm.set d v
 | none=>tm
def evs (tm:List PV) (xs:List Opd):List PV:=xs.map (Opd.ev tm)
def asInt:PV→Option Int
 | .int _ n=>some n
 | _=>none
def bound (tm:List PV):Option Opd→Nat→Option Nat
 | none,d=>some d
 | some x,_=>match x.ev tm with
  | .int _ n=>if 0≤n then some n.toNat else none
  | _=>none
def bytesOf:List PV→Option (List UInt8)
 | []=>some []
 | .int .u8 n::r=>(bytesOf r).map (UInt8.ofNat n.toNat::·)
 | _=>none
def doAppend (mu:Bool) (sz:Nat) (st:St) (x:PV) (m:Nat) (ys:List PV):Option OpR :=
 if ys.length=m*sz∧ys.all PV.isCell=true then
  if m=0 then match x with
   | .nilslice=>some (.val .nilslice st)
   | .slice o n cs=>some (.val (.slice o n cs) st)
   | .hslice t s n=>some (.val (.hslice t s n) st)
   | _=>none
  else match x with
  | .nilslice=>if m≤maxList then
    (if mu then some (.val (.hslice st.heap.length sz m) { st with heap:=st.heap++[.arr ys] })
     else some (.val (.slice (.tag st.heap.length sz) m (ys.map PV.share)) { st with heap:=st.heap++[.tag true] })) else none
  | .slice (.tag t sz') n cs =>
   if sz'=sz∧cs.length=n*sz∧n+m≤maxList then
    match st.heap[t]? with
    | some (.tag true) =>
     some (.val (.slice (.tag st.heap.length sz) (n+m) (cs++ys.map PV.share)) { heap:=st.heap.set t (.tag false)++[.tag true],lo:=min st.lo t })
    | _=>none
   else none
  | .hslice t sz' n =>
   match st.heap[t]? with
   | some (.arr cs) =>
    if sz'=sz∧cs.length=n*sz∧n+m≤maxList then
     some (.val (.hslice st.heap.length sz (n+m)) { heap:=st.heap.set t (.tag false)++[.arr (cs++ys)],lo:=min st.lo t })
    else none
   | _=>none
  | _=>none
 else none
def Own.cut (sz:Nat) (hi:Option Opd):Own→Own
 | .tag t s=>if s=sz∧hi.isNone=true∧3≤sz then .tag t s else .shared
 | .shared => .shared
def mm (mx:Bool):PV→List PV→Option PV
 | v,[]=>some v
 | .int k a,.int _ b::r=>mm mx (.int k (if mx then (if b>a then b else a) else (if b<a then b else a))) r
 | _,_=>none
def stepOp (E:Env) (rec:Rec) (tm:List PV) (st:St):DOp→Option OpR
 | .val x=>some (.val (x.ev tm) st)
 | .pick c a b=>match c.ev tm with
  | .bool t=>some (.val (if t then a.ev tm else b.ev tm) st)
  | _=>none
 | .box x=>some (.val (.ptr st.heap.length 0) { st with heap:=st.heap++[.var (x.ev tm).cells] })
 | .alloc z=>some (.val (.ptr st.heap.length 0) { st with heap:=st.heap++[.var z] })
 | .build z parts=>match fillD tm z parts with
  | some cs=>some (.val (.agg cs) st)
  | none=>none
 | .buildSlice sz n z parts=>match fillD tm z parts with
  | some cs=>some (.val (.slice (.tag st.heap.length sz) n (cs.map PV.share)) { st with heap:=st.heap++[.tag true] })
  | none=>none
 | .buildSliceS sz n z parts=>match fillD tm z parts with
  | some cs=>some (.val (.slice .shared n (cs.map PV.share)) st)
  | none=>none
 | .load agg sz a=>match a.ev tm with
  | .ptr l off=>match st.heap[l]? with
   | some (.var cs)=>if off≤cs.length then (rdPart agg sz (cs.drop off)).map (.val · st) else none
   | _=>none
  | .cptr cs=>(rdPart agg sz cs).map (.val · st)
  | .aptr l off=>match st.heap[l]? with
   | some (.arr cs)=>if off≤cs.length then (rdPart agg sz (cs.drop off)).map (.val · st) else none
   | _=>none
  | _=>none
 | .store sz a x=>match a.ev tm with
  | .ptr l off=>match st.heap[l]? with
   | some (.var cs) =>
    let p:=(x.ev tm).cells
    if p.length=sz∧off+sz≤cs.length∧p.all PV.isCell=true then some (.val undef (setVar st l (.var (splice cs off p)))) else none
   | _=>none
  | .aptr l off=>match st.heap[l]? with
   | some (.arr cs) =>
    let p:=(x.ev tm).cells
    if p.length=sz∧off+sz≤cs.length∧p.all PV.isCell=true then some (.val undef (setVar st l (.arr (splice cs off p)))) else none
   | _=>none
  | _=>none
 | .nilCheck x=>match x.ev tm with
  | .ptr l o=>some (.val (.ptr l o) st)
  | .cptr cs=>some (.val (.cptr cs) st)
  | .func f a c=>some (.val (.func f a c) st)
  | _=>none
 | .binI op x y=>match x.ev tm,y.ev tm with
  | .int k a,.int k' b=>if k=k' then (binI op k a b).map (.val · st) else none
  | _,_=>none
 | .binS op x y=>match x.ev tm,y.ev tm with
  | .str a,.str b=>(binS op a b).map (.val · st)
  | _,_=>none
 | .binB neg x y=>match x.ev tm,y.ev tm with
  | .bool a,.bool b=>some (.val (.bool (if neg then !(a==b) else a==b)) st)
  | _,_=>none
 | .eqAgg neg k x y=>match x.ev tm,y.ev tm with
  | .agg a,.agg b=>match ints a,ints b with
   | some l,some m=>if l.length=k∧m.length=k then some (.val (.bool (if neg then !(l==m) else l==m)) st) else none
   | _,_=>none
  | _,_=>none
 | .isNilS neg x=>match x.ev tm with
  | .nilslice=>some (.val (.bool (!neg)) st)
  | .slice _ _ _=>some (.val (.bool neg) st)
  | _=>none
 | .not x=>match x.ev tm with
  | .bool b=>some (.val (.bool !b) st)
  | _=>none
 | .neg x=>match x.ev tm with
  | .int k n=>some (.val (.int k (k.wrap (0 - n))) st)
  | _=>none
 | .toInt k x=>match x.ev tm with
  | .int _ n=>some (.val (.int k (k.wrap n)) st)
  | _=>none
 | .bytesToStr x=>match x.ev tm with
  | .nilslice=>some (.val (.str .empty) st)
  | .slice _ n cs=>if cs.length=n then (bytesOf cs).map (fun l => .val (.str ⟨l.toArray⟩) st) else none
  | .hslice l _ n=>match st.heap[l]? with
   | some (.arr cs)=>if cs.length=n then (bytesOf cs).map (fun l => .val (.str ⟨l.toArray⟩) st) else none
   | _=>none
  | _=>none
 | .strToBytes x=>match x.ev tm with
  | .str s=>if s.size≤maxList then some (.val (.hslice st.heap.length 1 s.size) { st with heap:=st.heap++[.arr (s.data.toList.map fun b => .int .u8 b.toNat)] }) else none
  | _=>none
 | .rangeStr x=>match x.ev tm with
  | .str s=>some (.val (.ptr st.heap.length 0) { st with heap:=st.heap++[.iter s 0] })
  | _=>none
 | .nextStr x=>match x.ev tm with
  | .ptr l 0=>match st.heap[l]? with
   | some (.iter s pos) =>
    if pos<s.size then
     some (.val (.tuple [.bool true,.int .i64 pos,.int .i32 (Utf8.decode s pos).1]) (setVar st l (.iter s (pos+(Utf8.decode s pos).2))))
    else some (.val (.tuple [.bool false]) st)
   | _=>none
  | _=>none
 | .assertT t z x=>match x.ev tm with
  | .iface t' v=>some (.val (if t'=t then .tuple [v,.bool true] else .tuple [z,.bool false]) st)
  | _=>none
 | .mkIface t x=>some (.val (.iface t (x.ev tm)) st)
 | .mkFunc f a c=>some (.val (.func f (evs tm a) (evs tm c)) st)
 | .mkMap=>some (.val (.map st.heap.length) { st with heap:=st.heap++[.map []] })
 | .slice sz x lo hi=>match x.ev tm with
  | .nilslice=>match bound tm hi 0,bound tm lo 0 with
   | some 0,some 0=>some (.val .nilslice st)
   | _,_=>none
  | .slice o n cs=>match bound tm hi n,bound tm lo 0 with
   | some h,some l=>if l≤h∧h≤n∧cs.length=n*sz then some (.val (.slice (o.cut sz hi) (h - l) ((cs.drop (l*sz)).take ((h - l)*sz))) st) else none
   | _,_=>none
  | _=>none
 | .sliceStr x lo hi=>match x.ev tm with
  | .str s=>match bound tm hi s.size,bound tm lo 0 with
   | some h,some l=>if l≤h∧h≤s.size then some (.val (.str (s.extract l h)) st) else none
   | _,_=>none
  | _=>none
 | .fieldAddr off x=>match x.ev tm with
  | .ptr l o=>some (.val (.ptr l (o+off)) st)
  | .aptr l o=>some (.val (.aptr l (o+off)) st)
  | .cptr cs=>if off≤cs.length then some (.val (.cptr (cs.drop off)) st) else none
  | _=>none
 | .part agg sz off x=>match x.ev tm with
  | .agg cs=>if off≤cs.length then (rdPart agg sz (cs.drop off)).map (.val · st) else none
  | _=>none
 | .indexAddr sz x i=>match x.ev tm,i.ev tm with
  | .slice _ n cs,.int _ i=>if 0≤i∧i<n then some (.val (.cptr ((cs.drop (i.toNat*sz)).take sz)) st) else none
  | .hslice l sz' n,.int _ i=>if sz'=sz∧0≤i∧i<n then some (.val (.aptr l (i.toNat*sz)) st) else none
  | .vslice l sz' n,.int _ i=>if sz'=sz∧0≤i∧i<n then some (.val (.ptr l (i.toNat*sz)) st) else none
  | _,_=>none
 | .indexVar len sz x i=>match x.ev tm,i.ev tm with
  | .ptr l o,.int _ i=>if 0≤i∧i<len then some (.val (.ptr l (o+i.toNat*sz)) st) else none
  | _,_=>none
 | .indexArr agg len sz x i=>match x.ev tm,i.ev tm with
  | .agg cs,.int _ i=>if 0≤i∧i<len∧i.toNat*sz≤cs.length then (rdPart agg sz (cs.drop (i.toNat*sz))).map (.val · st) else none
  | _,_=>none
 | .indexStr x i=>match x.ev tm,i.ev tm with
  | .str s,.int _ i=>if 0≤i then (s[i.toNat]?).map (fun b => .val (.int .u8 b.toNat) st) else none
  | _,_=>none
 | .lookup nf z m k ok=>match m.ev tm,k.ev tm with
  | .map l,.agg kc=>match st.heap[l]? with
   | some (.map es)=>match ints kc with
    | some ki=>if ki.length=nf then match findKey ki es 0 with
     | some (some i)=>(es[i]?).map fun e => .val (if ok then .tuple [e.2,.bool true] else e.2) st
     | some none=>some (.val (if ok then .tuple [z,.bool false] else z) st)
     | none=>none
     else none
    | none=>none
   | _=>none
  | _,_=>none
 | .mapUpdate nf m k v=>match m.ev tm,k.ev tm with
  | .map l,.agg kc=>match st.heap[l]? with
   | some (.map es)=>match ints kc with
    | some ki=>if ki.length=nf then match findKey ki es 0 with
     | some none=>some (.val undef (setVar st l (.map (es++[(.agg kc,v.ev tm)]))))
     | _=>none
     else none
    | none=>none
   | _=>none
  | _,_=>none
 | .extract x i=>match x.ev tm with
  | .tuple vs=>(vs[i]?).map (.val · st)
  | _=>none
 | .len x=>match x.ev tm with
  | .nilslice=>some (.val (.int .i64 0) st)
  | .slice _ n _=>some (.val (.int .i64 n) st)
  | .hslice _ _ n=>some (.val (.int .i64 n) st)
  | .vslice _ _ n=>some (.val (.int .i64 n) st)
  | _=>none
 | .lenStr x=>match x.ev tm with
  | .str s=>some (.val (.int .i64 s.size) st)
  | _=>none
 | .append mu sz x y=>match y.ev tm with
  | .nilslice=>doAppend mu sz st (x.ev tm) 0 []
  | .slice _ m ys=>doAppend mu sz st (x.ev tm) m ys
  | _=>none
 | .minmax mx x ys=>(mm mx (x.ev tm) (evs tm ys)).map (.val · st)
 | .call f args=>match rec.call (f.ev tm) (evs tm args) st with
  | some (.ret v,st')=>some (.val v st')
  | some (.panic v,st')=>some (.panic v st')
  | none=>none
 | .invoke x m args=>match x.ev tm with
  | .iface t v=>match E.meth t m with
   | some f=>match rec.call (.func f [] []) (v::evs tm args) st with
    | some (.ret v,st')=>some (.val v st')
    | some (.panic v,st')=>some (.panic v st')
    | none=>none
   | none=>none
  | _=>none
 | .panic x=>match x.ev tm with
  | .iface t v=>some (.panic (.iface t v) st)
  | _=>none
 | .buildSliceA sz n z parts=>match fillD tm z parts with
  | some cs=>some (.val (.hslice st.heap.length sz n) { st with heap:=st.heap++[.arr cs] })
  | none=>none
 | .sliceA len sz x hi=>match x.ev tm,hi.ev tm with
  | .ptr l 0,.int _ h=>if 0≤h∧h≤len then some (.val (.vslice l sz h.toNat) st) else none
  | _,_=>none
 | .lookupI z m k ok=>match m.ev tm,k.ev tm with
  | .map l,.int .i64 n=>match st.heap[l]? with
   | some (.map es)=>match findKeyI n es 0 with
    | some (some i)=>(es[i]?).map fun e => .val (if ok then .tuple [e.2,.bool true] else e.2) st
    | some none=>some (.val (if ok then .tuple [z,.bool false] else z) st)
    | none=>none
   | _=>none
  | _,_=>none
 | .updateI m k v=>match m.ev tm,k.ev tm with
  | .map l,.int .i64 n=>match st.heap[l]? with
   | some (.map es)=>match findKeyI n es 0 with
    | some none=>some (.val undef (setVar st l (.map (es++[(.int .i64 n,v.ev tm)]))))
    | _=>none
   | _=>none
  | _,_=>none
def wants (tm:List PV):Option (Nat×Bool)→Bool
 | none=>true
 | some (d,want)=>match tm[d]? with
  | some (.bool b)=>b==want
  | _=>false
def stepOps (E:Env) (rec:Rec):List DOper→List PV→St→Option (Ex×List PV×St)
 | [],tm,st=>some (.normal,tm,st)
 | o::os,tm,st =>
  if wants tm o.guard then
   match stepOp E rec tm st o.op with
   | some (.val v st')=>stepOps E rec os (put tm o.dst v) st'
   | some (.panic v st')=>some (.panic v,tm,st')
   | none=>none
  else stepOps E rec os (put tm o.dst undef) st
mutual
def PV.same:PV→PV→Bool
 | .bool a,q=>match q with | .bool b=>a==b|_=>false
 | .int k n,q=>match q with | .int k' n'=>decide (k=k')&&decide (n=n')|_=>false
 | .str s,q=>match q with | .str s'=>decide (s.data=s'.data)|_=>false
 | .ptr l o,q=>match q with | .ptr l' o'=>decide (l=l')&&decide (o=o')|_=>false
 | .cptr cs,q=>match q with | .cptr ds=>sameL cs ds|_=>false
 | .nilptr,q=>match q with | .nilptr=>true|_=>false
 | .slice (.tag t z) n cs,q=>match q with | .slice (.tag t' z') n' ds=>decide (t=t')&&decide (z=z')&&decide (n=n')&&sameL cs ds|_=>false
 | .slice .shared n cs,q=>match q with | .slice .shared n' ds=>decide (n=n')&&sameL cs ds|_=>false
 | .nilslice,q=>match q with | .nilslice=>true|_=>false
 | .hslice l z n,q=>match q with | .hslice l' z' n'=>decide (l=l')&&decide (z=z')&&decide (n=n')|_=>false
 | .vslice l z n,q=>match q with | .vslice l' z' n'=>decide (l=l')&&decide (z=z')&&decide (n=n')|_=>false
 | .aptr l o,q=>match q with | .aptr l' o'=>decide (l=l')&&decide (o=o')|_=>false
 | .map l,q=>match q with | .map l'=>decide (l=l')|_=>false
 | .nilmap,q=>match q with | .nilmap=>true|_=>false
 | .func f a c,q=>match q with | .func f' a' c'=>decide (f=f')&&sameL a a'&&sameL c c'|_=>false
 | .nilfunc,q=>match q with | .nilfunc=>true|_=>false
 | .yield l,q=>match q with | .yield l'=>decide (l=l')|_=>false
 | .iface t v,q=>match q with | .iface t' v'=>decide (t=t')&&v.same v'|_=>false
 | .niliface,q=>match q with | .niliface=>true|_=>false
 | .agg cs,q=>match q with | .agg ds=>sameL cs ds|_=>false
 | .tuple cs,q=>match q with | .tuple ds=>sameL cs ds|_=>false
def sameL:List PV→List PV→Bool
 | [],q=>match q with|[]=>true|_=>false
 | v::vs,q=>match q with|u::us=>v.same u&&sameL vs us|_=>false
end
def sameO:Option HObj→Option HObj→Bool
 | some (.var a),some (.var b)=>sameL a b
 | _,_=>false
inductive Foot where
 | quiet
 | ld (l:Nat)
 | st (l:Nat)
 | wr (lo:Nat)
 | ch (lo:Nat) (h h':List HObj)
def footOf (tm:List PV) (o:DOp) (m lo:Nat):Foot :=
 match o with
 | .load _ _ a=>match a.ev tm with
  | .ptr l _ => .ld l
  | .aptr l _ => .ld l
  | _ => .quiet
 | .bytesToStr a=>match a.ev tm with
  | .hslice l _ _ => .ld l
  | _ => .quiet
 | .lookup _ _ m _ _=>match m.ev tm with
  | .map l => .ld l
  | _ => .quiet
 | .store _ a _=>match a.ev tm with
  | .ptr l _ => .st l
  | .aptr l _ => .st l
  | _ => .quiet
 | _=>if m≤lo then .quiet else .wr lo
def fineOf (o:DOp) (f:Foot) (h h':List HObj):Foot :=
 match o,f with
 | .call _ _,.wr lo => .ch lo h h'
 | .invoke _ _ _,.wr lo => .ch lo h h'
 | _,f=>f
def stepOpsD (E:Env) (rec:Rec):List DOper→List PV→St→Option (Ex×List PV×St×List Foot)
 | [],tm,st=>some (.normal,tm,st,[])
 | o::os,tm,st =>
  if wants tm o.guard then
   match stepOp E rec tm { st with lo:=st.heap.length } o.op with
   | some (.val v st') =>
    match stepOpsD E rec os (put tm o.dst v) { st' with lo:=min st.lo st'.lo } with
    | some (e,tm',st'',fs)=>some (e,tm',st'',fineOf o.op (footOf tm o.op st.heap.length st'.lo) st.heap st'.heap::fs)
    | none=>none
   | some (.panic v st')=>if os.isEmpty then some (.panic v,tm,{ st' with lo:=min st.lo st'.lo },[fineOf o.op (footOf tm o.op st.heap.length st'.lo) st.heap st'.heap]) else none
   | none=>none
  else match stepOpsD E rec os (put tm o.dst undef) st with
   | some (e,tm',st'',fs)=>some (e,tm',st'',.quiet::fs)
   | none=>none
def clash (l:Nat):Foot→Bool
 | .st l'=>l==l'
 | .wr lo=>decide (lo≤l)
 | .ch lo h h'=>decide (lo≤l)&&!sameO h[l]? h'[l]?
 | _=>false
theorem fine_le {o:DOp} {f:Foot} {h h':List HObj} {l:Nat} (hc:clash l (fineOf o f h h')=true):clash l f=true:=by
 unfold fineOf at hc
 split at hc
 ·simp only [clash,Bool.and_eq_true] at hc ⊢;exact hc.1
 ·simp only [clash,Bool.and_eq_true] at hc ⊢;exact hc.1
 ·exact hc
theorem fine_ld {o:DOp} {f:Foot} {h h':List HObj} {l:Nat} (hc:fineOf o f h h' = .ld l):f = .ld l:=by
 unfold fineOf at hc
 split at hc
 ·cases hc
 ·cases hc
 ·exact hc
theorem fine_ld' {o:DOp} {h h':List HObj} {l:Nat}:fineOf o (.ld l) h h' = .ld l:=by
 unfold fineOf
 split
 ·rename_i h1;cases h1
 ·rename_i h1;cases h1
 ·rfl
def footOk (fs:List Foot) (free:List (Nat×List Nat)):Bool :=
 free.all fun (i,js)=>match fs[i]? with
  | some (.ld l)=>js.all fun j=>match fs[j]? with
   | some f=>!clash l f
   | none=>true
  | _=>true
def rdRes (tm:List PV) (h:List HObj):DRes→Option PV
 | .tmp t=>some (tm.getD t undef)
 | .cell t agg sz=>match tm.getD t undef with
  | .ptr l off=>match h[l]? with
   | some (.var cs)=>if off≤cs.length then rdPart agg sz (cs.drop off) else none
   | _=>none
  | _=>none
def rdResL (tm:List PV) (h:List HObj):List DRes→Option (List PV)
 | []=>some []
 | r::rs=>match rdRes tm h r,rdResL tm h rs with
  | some v,some vs=>some (v::vs)
  | _,_=>none
def results (tm:List PV) (h:List HObj) (rs:List DRes):Option PV :=
 match rdResL tm h rs with
 | some [v]=>some v
 | some vs=>some (.tuple vs)
 | none=>none
def setParams (tm:List PV):List Nat→List PV→Option (List PV)
 | [],[]=>some tm
 | p::ps,v::vs=>setParams (tm.set p v) ps vs
 | _,_=>none
def enter (E:Env) (rec:Rec) (f:Nat) (args:List PV) (st:St):Option (CR×St) :=
 match E.prim f rec args st with
 | some r=>r
 | none=>match E.fn f with
  | none=>none
  | some df =>
   match rec.code df.body (args++List.replicate (df.ntmps - args.length) undef) { st with lo:=st.heap.length } with
   | some (.normal,tm,st1)|some (.ret,tm,st1) =>
    match results tm st1.heap df.results with
    | some v=>match finishCall st st1 v with|(v',st2)=>some (.ret v',st2)
    | none=>none
   | some (.panic v,_,st1)=>some (.panic v,{ heap:=st1.heap,lo:=min st.lo st1.lo })
   | _=>none
def setLoop (st:St) (l:Nat) (s:LSt) (p:Option Jump→Option Jump):Option (LSt×Option Jump×St) :=
 match st.heap[l]? with
 | some (.loop tm params assign body s0 pend)=>some (s0,pend,setVar st l (.loop tm params assign body s (p pend)))
 | _=>none
def round (rec:Rec) (l:Nat) (args:List PV) (st:St):Option (CR×St) :=
 match st.heap[l]? with
 | some (.loop tm params assign body _ _) =>
  match setParams tm params args with
  | none=>none
  | some tm0=>match rec.code assign tm0 st with
   | some (.normal,tm1,st1) =>
    match setLoop st1 l .busy id with
    | some (.ready,_,st2) =>
     match rec.code body tm1 st2 with
     | some (.normal,_,st3)=>(setLoop st3 l .ready fun _=>none).map fun r=>(.ret (.bool true),r.2.2)
     | some (.ret,_,st3)=>(setLoop st3 l .done fun _=>some .ret).map fun r=>(.ret (.bool false),r.2.2)
     | some (.exit id,_,st3)=>(setLoop st3 l .done fun _=>some (.exit id)).map fun r=>(.ret (.bool false),r.2.2)
     | _=>none
    | _=>none
   | _=>none
 | _=>none
def stepCall (E:Env) (rec:Rec) (f:PV) (args:List PV) (st:St):Option (CR×St) :=
 match f with
 | .func f a c=>enter E rec f (a++args++c) st
 | .yield l=>round rec l args st
 | _=>none
def stepCode (E:Env) (rec:Rec) (c:DCode) (tm:List PV) (st:St):Option (Ex×List PV×St) :=
 match c with
 | .skip=>some (.normal,tm,st)
 | .region ops=>stepOps E rec ops tm st
 | .dregion ops free=>match stepOpsD E rec ops tm st with
  | some (e,tm',st',fs)=>if footOk fs free then some (e,tm',st') else none
  | none=>none
 | .seq a b=>match rec.code a tm st with
  | some (.normal,tm',st')=>rec.code b tm' st'
  | r=>r
 | .cond c a b=>match c.ev tm with
  | .bool true=>rec.code a tm st
  | .bool false=>rec.code b tm st
  | _=>none
 | .block id b=>match rec.code b tm st with
  | some (.exit i,tm',st')=>if i=id then some (.normal,tm',st') else some (.exit i,tm',st')
  | r=>r
 | .loop b=>match rec.code b tm st with
  | some (.normal,tm',st')=>rec.code (.loop b) tm' st'
  | r=>r
 | .scope b=>rec.code b tm st
 | .rangeFunc f params assign body =>
  match f.ev tm with
  | .func g fa fc =>
   match rec.call (.func g fa fc) [.yield st.heap.length] { st with heap:=st.heap++[.loop tm params assign body .ready none] } with
   | some (.ret _,st')=>match setLoop st' st.heap.length .over id with
    | some (.ready,none,st2)=>some (.normal,tm,st2)
    | some (.done,some .ret,st2)=>some (.ret,tm,st2)
    | some (.done,some (.exit id),st2)=>some (.exit id,tm,st2)
    | _=>none
   | _=>none
  | _=>none
 | .exit id=>some (.exit id,tm,st)
 | .ret=>some (.ret,tm,st)
def run (E:Env):Nat→Rec
 | 0=>⟨fun _ _ _=>none,fun _ _ _=>none⟩
 | n+1=>⟨stepCode E (run E n),stepCall E (run E n)⟩
end Go.Den
end
section
namespace Go.Den
def cell0:Value→Option PV
 | .bool b=>some (.bool b)
 | .int k n=>some (.int k n)
 | .string s=>some (.str s)
 | .pointer none=>some .nilptr
 | .slice none 0 0=>some .nilslice
 | .nilFunc=>some .nilfunc
 | .map none=>some .nilmap
 | .nilIface=>some .niliface
 | _=>none
def cells0:List Value→Option (List PV)
 | []=>some []
 | v::vs=>match cell0 v,cells0 vs with
  | some p,some ps=>some (p::ps)
  | _,_=>none
def const0:Value→Option PV
 | .agg cs=>(cells0 cs.toList).map .agg
 | v=>cell0 v
def opd:Operand→Option Opd
 | .tmp t=>some (.t t)
 | .const v=>(const0 v).map .c
 | .func f=>some (.c (.func f [] []))
 | .global _=>none
def opds:List Operand→Option (List Opd)
 | []=>some []
 | x::xs=>match opd x,opds xs with
  | some p,some ps=>some (p::ps)
  | _,_=>none
def opdO:Option Operand→Option (Option Opd)
 | none=>some none
 | some x=>(opd x).map some
section
variable (P:Program)
def aggT (t:TypeId):Bool:=match P.underlying t with
 | some (.struct _)|some (.array _ _)=>true
 | _=>false
def okT (t:TypeId):Bool:=(P.underlying t).isSome&&(P.info? t).isSome
def zeroT (t:TypeId):Option (List PV):=match (P.info? t).bind (·.zero) with
 | some z=>cells0 z.cells.toList
 | none=>none
def placeOf (t:TypeId) (i:Nat):Option (Nat×Nat):=match P.underlying t with
 | some (.struct fields)=>match fields[i]? with
  | some f=>(P.info? f.type).map fun x=>(f.offset,x.size)
  | none=>none
 | some (.array _ elem)=>(P.info? elem).map fun x=>(i*x.size,x.size)
 | some (.slice elem)=>(P.info? elem).map fun x=>(i*x.size,x.size)
 | _=>none
def partsC (t:TypeId):List (Nat×Operand)→Option (List (Nat×Nat×Opd))
 | []=>some []
 | (i,x)::r=>match placeOf P t i,opd x,partsC t r with
  | some (o,s),some y,some ps=>some ((o,s,y)::ps)
  | _,_,_=>none
def isI:Option TypeDesc→Bool
 | some (.int _)=>true
 | _=>false
def intFields (fs:List Field):Bool:=fs.all fun f=>f.name != "_"&&(match P.underlying f.type with|some (.int .i64)=>true|_=>false)
def arrKey (e:TypeId):Bool:=(match P.underlying e with|some (.int .i64)=>true|_=>false)&&(match P.info? e with|some i=>i.size==1|none=>false)
def offsFrom (k:Nat):List Field→Bool
 | []=>true
 | f::fs=>f.offset==k&&offsFrom (k+1) fs
def binC (op:BinOp) (t:TypeId) (x y:Operand):Option DOp :=
 match opd x,opd y with
 | some a,some b=>match P.underlying t with
  | some (.int _)=>some (.binI op a b)
  | some .string=>some (.binS op a b)
  | some .bool=>match op with
   | .eql=>some (.binB false a b)
   | .neq=>some (.binB true a b)
   | _=>none
  | some (.struct fields) =>
   if intFields P fields.toList&&offsFrom 0 fields.toList&&!P.stoodInHeld t&&!P.eqGuardType P.depth t then match op with
    | .eql=>some (.eqAgg false fields.size a b)
    | .neq=>some (.eqAgg true fields.size a b)
    | _=>none
   else none
  | some (.slice _)=>match op,b with
   | .eql,.c .nilslice=>some (.isNilS false a)
   | .neq,.c .nilslice=>some (.isNilS true a)
   | _,_=>none
  | _=>none
 | _,_=>none
def sizeT (t:TypeId):Option Nat:=(P.info? t).map (·.size)
def repl (z:List PV):Nat→List PV
 | 0=>[]
 | n+1=>z++repl z n
def builtinC (mu:Bool) (b:Builtin) (argTypes:List TypeId) (args:List Opd):Option DOp :=
 match b,argTypes,args with
 | .len,[t],[x]=>match P.underlying t with
  | some (.slice _)=>some (.len x)
  | some .string=>some (.lenStr x)
  | _=>none
 | .append,[t,u],[x,y]=>match P.underlying t,P.underlying u with
  | some (.slice e),some (.slice _)=>match P.info? e with
   | some i=>match zeroT P e with
    | some z=>if t==u&&i.bytes≤1024&&1≤i.size&&z.length==i.size then some (.append mu i.size x y) else none
    | none=>none
   | none=>none
  | _,_=>none
 | .max,_::_,x::ys=>some (.minmax true x ys)
 | .min,_::_,x::ys=>some (.minmax false x ys)
 | _,_,_=>none
def opC (mu:TypeId→Bool) (o:Oper):Option DOp :=
 match o.op with
 | .move x | .assign x=>(opd x).map .val
 | .pick c a b=>match opd c,opd a,opd b with
  | some c,some a,some b=>some (.pick c a b)
  | _,_,_=>none
 | .box _ x=>(opd x).map .box
 | .alloc t=>(zeroT P t).map .alloc
 | .build t parts=>match P.underlying t with
  | some (.struct fields)=>match zeroT P t,partsC P t parts.toList with
   | some z,some ps=>if fields.toList.all (fun f=>(P.info? f.type).isSome) then some (.build z ps) else none
   | _,_=>none
  | some (.array _ e)=>match zeroT P t,partsC P t parts.toList with
   | some z,some ps=>if (sizeT P e).isSome then some (.build z ps) else none
   | _,_=>none
  | _=>none
 | .buildSlice t n parts=>match P.underlying t with
  | some (.slice e)=>match sizeT P e,zeroT P e,partsC P t parts.toList with
   | some s,some z,some ps=>if n*s≤10000&&1≤s&&z.length==s then some (if mu t then .buildSliceA s n (repl z n) ps else .buildSlice s n (repl z n) ps) else none
   | _,_,_=>none
  | _=>none
 | .load t a=>if okT P t then match sizeT P t,opd a with
   | some s,some a=>some (.load (aggT P t) s a)
   | _,_=>none
  else none
 | .store t a x=>match sizeT P t,opd a,opd x with
  | some s,some a,some x=>some (.store s a x)
  | _,_,_=>none
 | .nilCheck x=>(opd x).map .nilCheck
 | .binOp op t x y _=>binC P op t x y
 | .unOp op _ x=>match op,opd x with
  | .not,some x=>some (.not x)
  | .neg,some x=>some (.neg x)
  | _,_=>none
 | .convert src dst x=>match P.underlying src,P.underlying dst,opd x with
  | some (.int _),some (.int k),some x=>some (.toInt k x)
  | some (.slice e),some .string,some x=>match P.underlying e with
   | some (.int .u8)=>some (.bytesToStr x)
   | _=>none
  | some .string,some (.slice e),some x=>match P.underlying e with
   | some (.int .u8)=>some (.strToBytes x)
   | _=>none
  | _,_,_=>none
 | .makeInterface t x=>match P.underlying t,opd x with
  | some (.interface _),_=>none
  | some _,some x=>some (.mkIface t x)
  | _,_=>none
 | .makeFunc (.func f) a c=>match opds a.toList,opds c.toList with
  | some a,some c=>some (.mkFunc f a c)
  | _,_=>none
 | .makeMap t r=>match P.underlying t,r with
  | some (.map _ _),none|some (.map _ _),some (.const (.int _ _))=>some .mkMap
  | _,_=>none
 | .slice t x lo hi none=>match P.underlying t with
  | some (.slice e)=>match sizeT P e,opd x,opdO lo,opdO hi with
   | some s,some x,some lo,some hi=>if 1≤s then some (.slice s x lo hi) else none
   | _,_,_,_=>none
  | some .string=>match opd x,opdO lo,opdO hi with
   | some x,some lo,some hi=>some (.sliceStr x lo hi)
   | _,_,_=>none
  | some (.array n e)=>match sizeT P e,opd x,lo,hi with
   | some s,some x,none,some h=>(opd h).map fun h => .sliceA n s x h
   | _,_,_,_=>none
  | _=>none
 | .fieldAddr t x f=>match P.underlying t,opd x with
  | some (.struct fields),some x=>match fields[f]? with
   | some fd=>match sizeT P fd.type with
    | some s=>if s≠0 then some (.fieldAddr fd.offset x) else none
    | none=>none
   | none=>none
  | _,_=>none
 | .field t x f=>match P.underlying t,opd x with
  | some (.struct fields),some x=>match fields[f]? with
   | some fd=>if okT P fd.type then match sizeT P fd.type with
     | some s=>some (.part (aggT P fd.type) s fd.offset x)
     | none=>none
    else none
   | none=>none
  | _,_=>none
 | .indexAddr t x i=>match P.underlying t,opd x,opd i with
  | some (.slice e),some x,some i=>(sizeT P e).map fun s => .indexAddr s x i
  | some (.array n e),some x,some i=>if 2≤n then (sizeT P e).map fun s => .indexVar n s x i else none
  | _,_,_=>none
 | .index t x i=>match P.underlying t,opd x,opd i with
  | some .string,some x,some i=>some (.indexStr x i)
  | some (.array n e),some x,some i=>if okT P e then (sizeT P e).map fun s => .indexArr (aggT P e) n s x i else none
  | _,_,_=>none
 | .lookup t m k ok=>match P.underlying t,opd m,opd k with
  | some (.map kt e),some m,some k=>match P.underlying kt,(P.info? e).bind (·.zero) with
   | some (.struct fields),some z=>match const0 z with
    | some z=>if intFields P fields.toList&&offsFrom 0 fields.toList&&!P.stoodInHeld kt then some (.lookup fields.size z m k ok) else none
    | none=>none
   | some (.array n el),some z=>match const0 z with
    | some z=>if arrKey P el then some (.lookup n z m k ok) else none
    | none=>none
   | some (.int .i64),some z=>(const0 z).map fun z => .lookupI z m k ok
   | _,_=>none
  | _,_,_=>none
 | .mapUpdate t m k v=>match P.underlying t,opd m,opd k,opd v with
  | some (.map kt _),some m,some k,some v=>match P.underlying kt with
   | some (.struct fields)=>if intFields P fields.toList&&offsFrom 0 fields.toList&&!P.stoodInHeld kt then some (.mapUpdate fields.size m k v) else none
   | some (.array n el)=>if arrKey P el then some (.mapUpdate n m k v) else none
   | some (.int .i64)=>some (.updateI m k v)
   | _=>none
  | _,_,_,_=>none
 | .insert t m k v=>match P.underlying t,opd m,opd k,opd v with
  | some (.map kt _),some m,some k,some v=>match P.underlying kt with
   | some (.array n el)=>if arrKey P el then some (.mapUpdate n m k v) else none
   | _=>none
  | _,_,_,_=>none
 | .range t x=>match P.underlying t,opd x with
  | some .string,some x=>some (.rangeStr x)
  | _,_=>none
 | .next x true=>(opd x).map .nextStr
 | .typeAssert x _ t true=>match P.underlying t,(P.info? t).bind (·.zero),opd x with
  | some (.interface _),_,_=>none
  | some _,some z,some x=>(const0 z).map fun z => .assertT t z x
  | _,_,_=>none
 | .extract x i=>(opd x).map fun x => .extract x i
 | .call c=>match c.callee with
  | .builtin b=>match opds c.args.toList with
   | some args=>builtinC P (mu (c.argTypes.getD 0 0)) b c.argTypes.toList args
   | none=>none
  | .value f=>match opd f,opds c.args.toList with
   | some f,some args=>some (.call f args)
   | _,_=>none
  | .invoke x m=>match opd x,opds c.args.toList with
   | some x,some args=>some (.invoke x m args)
   | _,_=>none
 | .panic x=>(opd x).map .panic
 | _=>none
def guardC (ops:Array Oper):Option (Nat×Bool)→Option (Option (Nat×Bool))
 | none=>some none
 | some (j,want)=>match (ops[j]?).bind (·.dst) with
  | some d=>some (some (d,want))
  | none=>none
def operC (mu:TypeId→Bool) (ops:Array Oper) (o:Oper):Option DOper :=
 match opC P mu o,guardC ops o.guard with
 | some op,some g=>some { op,dst:=o.dst,guard:=g }
 | _,_=>none
def opersC (mu:TypeId→Bool) (ops:Array Oper):List Oper→Option (List DOper)
 | []=>some []
 | o::os=>match operC P mu ops o,opersC mu ops os with
  | some d,some ds=>some (d::ds)
  | _,_=>none
def weight:DOp→Nat
 | .load .. | .lookup .. | .bytesToStr _=>1
 | .store .. | .mapUpdate .. | .append .. | .call .. | .invoke .. | .panic _ | .nextStr _ | .box _ | .buildSlice .. | .mkMap | .rangeStr _ | .strToBytes _ | .buildSliceA .. | .lookupI .. | .updateI .. => 2
 | .alloc _=>3
 | _=>0
def Opd.reads:Opd→List Nat
 | .t i=>[i]
 | .c _=>[]
def oreads:Option Opd→List Nat
 | some x=>x.reads
 | none=>[]
def preads:List (Nat×Nat×Opd)→List Nat
 | []=>[]
 | p::ps=>p.2.2.reads++preads ps
def lreads:List Opd→List Nat
 | []=>[]
 | x::xs=>x.reads++lreads xs
def DOp.reads:DOp→List Nat
 | .val x | .box x | .load _ _ x | .nilCheck x | .isNilS _ x | .not x | .neg x | .toInt _ x | .bytesToStr x | .strToBytes x | .rangeStr x | .nextStr x | .assertT _ _ x | .mkIface _ x | .fieldAddr _ x | .part _ _ _ x | .extract x _ | .len x | .lenStr x | .panic x=>x.reads
 | .pick a b c=>a.reads++b.reads++c.reads
 | .alloc _ | .mkMap=>[]
 | .build _ ps | .buildSlice _ _ _ ps | .buildSliceS _ _ _ ps | .buildSliceA _ _ _ ps=>preads ps
 | .store _ x y | .binI _ x y | .binS _ x y | .binB _ x y | .eqAgg _ _ x y | .indexAddr _ x y | .indexVar _ _ x y | .indexArr _ _ _ x y | .indexStr x y | .append _ _ x y | .lookup _ _ x y _ | .sliceA _ _ x y | .lookupI _ x y _=>x.reads++y.reads
 | .mapUpdate _ x y z | .updateI x y z=>x.reads++y.reads++z.reads
 | .mkFunc _ a b=>lreads a++lreads b
 | .slice _ x l h | .sliceStr x l h=>x.reads++oreads l++oreads h
 | .minmax _ x ys=>x.reads++lreads ys
 | .call f a=>f.reads++lreads a
 | .invoke f _ a=>f.reads++lreads a
def DOper.reads (d:DOper):List Nat:=d.op.reads++(match d.guard with|some (g,_)=>[g]|none=>[])
def preds (o:Oper):List Nat:=(o.after.toList.filter (Region.binds .any)).map (·.on)
def masks:List (List Nat)→List Nat→List Nat
 | [],acc=>acc
 | ps::r,acc=>masks r (acc++[ps.foldl (fun m p=>m ||| 2 ^ p ||| acc.getD p 0) 0])
def ordered (ms:List Nat) (i j:Nat):Bool:=(ms.getD j 0).testBit i
def isHeavy (k:Nat):Bool:=k==2 || k==3
def heavyOk (ms:List Nat) (ws:List Nat):Bool :=
 (List.range ws.length).all fun j=>(List.range j).all fun i=>!isHeavy (ws.getD j 0) || !isHeavy (ws.getD i 0) || ws.getD j 0==3 || ordered ms i j
def allocOk (ms:List Nat) (ds:List DOper):Bool :=
 (List.range ds.length).all fun i=>match ds[i]? with
  | some di=>weight di.op != 3 || ((List.range i).all fun k=>match ds[k]? with
    | some dk=>weight dk.op != 2 || ordered ms k i
    | none=>true) || ds.all fun dj=>match di.dst with
    | some t=>!dj.reads.contains t || weight dj.op==2
    | none=>true
  | none=>true
def freeOf (ms:List Nat) (ws:List Nat):List (Nat×List Nat) :=
 ((List.range ws.length).filter fun i=>ws.getD i 0==1).map fun i =>
  (i,(List.range ws.length).filter fun j=>ws.getD j 0==2&&!ordered ms i j&&!ordered ms j i)
def predsOk (os:List Oper):Bool:=(List.range os.length).all fun j=>(preds (os.getD j default)).all fun p=>decide (p<j)
def tempsOk (ms:List Nat) (ds:List DOper):Bool :=
 (List.range ds.length).all fun j=>(List.range ds.length).all fun i=>i==j ||
  match ds[i]?,ds[j]? with
  | some di,some dj=>match di.dst with
   | some t=>dj.dst != some t&&(!dj.reads.contains t || (if i<j then ordered ms i j else ordered ms j i))
   | none=>true
  | _,_=>true
def loose (ms ws:List Nat) (j:Nat):Bool:=(List.range ws.length).any fun i=>i != j&&isHeavy (ws.getD i 0)&&!ordered ms i j&&!ordered ms j i
def shareOp (b:Bool) (d:DOper):DOper:=match b,d.op with
 | true,.buildSlice sz n z ps=>{ d with op := .buildSliceS sz n z ps }
 | _,_=>d
def shareOps (f:Nat→Bool):Nat→List DOper→List DOper
 | _,[]=>[]
 | k,d::ds=>shareOp (f k) d::shareOps f (k+1) ds
def codeC (mu:TypeId→Bool):Code→Option DCode
 | .skip=>some .skip
 | .label _=>some .skip
 | .region _ ops draw=>match opersC P mu ops ops.toList with
  | some ds =>
   if draw then
    let ms:=masks (ops.toList.map preds) []
    let ds:=shareOps (loose ms (ds.map (weight ·.op))) 0 ds
    let ws:=ds.map (weight ·.op)
    if predsOk ops.toList&&heavyOk ms ws&&tempsOk ms ds&&allocOk ms ds then some (.dregion ds (freeOf ms ws)) else none
   else some (.region ds)
  | none=>none
 | .seq a b=>match codeC mu a,codeC mu b with
  | some a,some b=>some (.seq a b)
  | _,_=>none
 | .cond c a b=>match opd c,codeC mu a,codeC mu b with
  | some c,some a,some b=>some (.cond c a b)
  | _,_,_=>none
 | .block id b=>(codeC mu b).map (.block id)
 | .loop b=>(codeC mu b).map .loop
 | .rangeFunc f ps a b=>match opd f,codeC mu a,codeC mu b with
  | some f,some a,some b=>some (.rangeFunc f ps.toList a b)
  | _,_,_=>none
 | .exit id=>some (.exit id)
 | .scope b=>(codeC mu b).map .scope
 | .ret=>some .ret
 | _=>none
def resC:ResultVar→Option DRes
 | .tmp t=>some (.tmp t)
 | .cell a t=>if okT P t then (sizeT P t).map fun s => .cell a (aggT P t) s else none
def ressC:List ResultVar→Option (List DRes)
 | []=>some []
 | r::rs=>match resC P r,ressC rs with
  | some d,some ds=>some (d::ds)
  | _,_=>none
def funcC (mu:TypeId→Bool) (fn:Func):Option DFunc :=
 match fn.body with
 | some b=>match codeC P mu b,ressC P fn.results.toList with
  | some c,some rs=>some { ntmps:=fn.ntmps,results:=rs,body:=c }
  | _,_=>none
 | none=>none
end
end Go.Den
end
section
namespace Go.Den
structure Gh where
 be:Nat→Option Nat
 tg:Nat→Option (Nat×Nat)
 cm:Nat→Option Nat
def HasRow (w:World) (b n:Nat):Prop:=∃ (arr:Array Value) (T:TypeId) (fr:Nat×Nat),w.heap[b]? = some (Obj.cells arr T fr)∧n≤arr.size
def OwnR (G:Gh) (w:World) (b off len cap:Nat):Own→Prop
 | .shared=>True
 | .tag t sz=>∃ x,G.tg t=some x∧((len=0∧cap=0)∨(x=(b,off+len)∧HasRow w b (off+cap*sz)))
theorem OwnR.of {G:Gh} {w:World} {b len cap t sz:Nat} (h1:G.tg t=some (b,len)) (h2:HasRow w b (cap*sz)):OwnR G w b 0 len cap (.tag t sz):=⟨_,h1,.inr ⟨by rw [Nat.zero_add],by rw [Nat.zero_add];exact h2⟩⟩
mutual
def VR (G:Gh) (w:World):PV→Value→Prop
 | .bool b,v=>v = .bool b
 | .int k n,v=>v = .int k n
 | .str s,v=>v = .string s
 | .ptr l off,v=>∃ b,G.be l=some b∧v = .pointer (some ⟨b,off,none⟩)
 | .cptr cs,v=>∃ b off,v = .pointer (some ⟨b,off,none⟩)∧(cs≠[]→∃ m,G.cm b=some m∧off+cs.length≤m)∧VRC G w cs b off
 | .nilptr,v=>v = .pointer none
 | .slice o n cs,v=>(∃ b off cap,v = .slice (some ⟨b,off,none⟩) n cap∧n≤cap∧(cs≠[]→∃ m,G.cm b=some m∧off+cs.length≤m)∧OwnR G w b off cs.length cap o∧VRC G w cs b off)∨(o = .shared∧n=0∧cs=[]∧∃ a,v = .slice (some a) 0 0)
 | .nilslice,v=>v = .slice none 0 0
 | .hslice l sz n,v=>∃ b e cap,G.tg l=some (b,e)∧v = .slice (some ⟨b,0,none⟩) n cap∧n≤cap∧HasRow w b (cap*sz)
 | .vslice l _ n,v=>∃ b cap,G.be l=some b∧v = .slice (some ⟨b,0,none⟩) n cap∧n≤cap
 | .aptr l off,v=>∃ b e,G.tg l=some (b,e)∧v = .pointer (some ⟨b,off,none⟩)
 | .map l,v=>∃ b,G.be l=some b∧v = .map (some b)
 | .nilmap,v=>v = .map none
 | .func f a c,v=>∃ a' c',v = .func (.func f) a' c'∧VRL G w a a'.toList∧VRL G w c c'.toList
 | .nilfunc,v=>v = .nilFunc
 | .yield l,v=>∃ b,G.be l=some b∧v = .func (.yield b) #[] #[]
 | .iface t x,v=>∃ y,v = .iface t y∧VR G w x y
 | .niliface,v=>v = .nilIface
 | .agg cs,v=>∃ vs,v = .agg vs∧VRL G w cs vs.toList
 | .tuple cs,v=>∃ vs,v = .tuple vs∧VRL G w cs vs.toList
def VRL (G:Gh) (w:World):List PV→List Value→Prop
 | [],vs=>vs=[]
 | c::cs,vs=>∃ v vs',vs=v::vs'∧VR G w c v∧VRL G w cs vs'
def VRC (G:Gh) (w:World):List PV→Nat→Nat→Prop
 | [],_,_=>True
 | c::cs,b,off=>(∃ v,w.cell? ⟨b,off,none⟩=some v∧VR G w c v)∧VRC G w cs b (off+1)
end
structure Pres (G:Gh) (w:World) (G':Gh) (w':World):Prop where
 be:∀ {l b},G.be l=some b→G'.be l=some b
 tg:∀ {l x},G.tg l=some x→G'.tg l=some x
 cm:∀ {b n},G.cm b=some n→∃ n',n≤n'∧G'.cm b=some n'
 row:∀ {b:Nat} {arr:Array Value} {T fr},w.heap[b]? = some (Obj.cells arr T fr)→∃ arr':Array Value,w'.heap[b]? = some (Obj.cells arr' T fr)∧arr'.size=arr.size
 data:∀ {b n o},G.cm b=some n→o<n→w'.cell? ⟨b,o,none⟩=w.cell? ⟨b,o,none⟩
theorem Pres.refl (G:Gh) (w:World):Pres G w G w:=⟨id,id,fun h=>⟨_,Nat.le_refl _,h⟩,fun h=>⟨_,h,rfl⟩,fun _ _=>rfl⟩
theorem Pres.hasRow {G w G' w'} (h:Pres G w G' w') {b n} (hr:HasRow w b n):HasRow w' b n:=by
 obtain ⟨arr,T,fr,h1,h2⟩:=hr
 obtain ⟨arr',h3,h4⟩:=h.row h1
 exact ⟨arr',T,fr,h3,by omega⟩
theorem Pres.trans {G w G1 w1 G2 w2} (h:Pres G w G1 w1) (h':Pres G1 w1 G2 w2):Pres G w G2 w2:=by
 refine ⟨fun x=>h'.be (h.be x),fun x=>h'.tg (h.tg x),fun x=>?_,fun x=>?_,fun x y=>?_⟩
 ·obtain ⟨n1,a1,b1⟩:=h.cm x
  obtain ⟨n2,a2,b2⟩:=h'.cm b1
  exact ⟨n2,by omega,b2⟩
 ·obtain ⟨a1,b1,c1⟩:=h.row x
  obtain ⟨a2,b2,c2⟩:=h'.row b1
  exact ⟨a2,b2,by omega⟩
 ·obtain ⟨n1,a1,b1⟩:=h.cm x
  rw [h'.data b1 (by omega),h.data x y]
theorem Pres.ownR {G w G' w'} (h:Pres G w G' w') {b off len cap} {o:Own} (hr:OwnR G w b off len cap o):OwnR G' w' b off len cap o:=by
 cases o with
 | shared=>trivial
 | tag t sz =>
  obtain ⟨x,h1,h2⟩:=hr
  exact ⟨x,h.tg h1,h2.imp id fun q=>⟨q.1,h.hasRow q.2⟩⟩
mutual
theorem VR.mono {G w G' w'} (h:Pres G w G' w'):∀ {p:PV} {v:Value},VR G w p v→VR G' w' p v
 | .bool b,v,r=>by simpa only [VR] using r
 | .int k n,v,r=>by simpa only [VR] using r
 | .str s,v,r=>by simpa only [VR] using r
 | .ptr l off,v,r=>by
  simp only [VR] at r ⊢
  obtain ⟨b,h1,h2⟩:=r
  exact ⟨b,h.be h1,h2⟩
 | .cptr cs,v,r=>by
  simp only [VR] at r ⊢
  obtain ⟨b,off,h1,h2,h3⟩:=r
  refine ⟨b,off,h1,fun hne=>?_,VRC.mono h (fun o ho1 ho2=>?_) h3⟩
  ·obtain ⟨m,a1,a2⟩:=h2 hne
   obtain ⟨m',a3,a4⟩:=h.cm a1
   exact ⟨m',a4,by omega⟩
  ·obtain ⟨m,a1,a2⟩:=h2 (by intro e;subst e;simp at ho2;omega)
   exact h.data a1 (by omega)
 | .nilptr,v,r=>by simpa only [VR] using r
 | .slice o n cs,v,r=>by
  simp only [VR] at r ⊢
  rcases r with ⟨b,off,cap,h1,hc,h2,h4,h3⟩|r
  rotate_left
  ·exact .inr r
  refine .inl ⟨b,off,cap,h1,hc,fun hne=>?_,h.ownR h4,VRC.mono h (fun o ho1 ho2=>?_) h3⟩
  ·obtain ⟨m,a1,a2⟩:=h2 hne
   obtain ⟨m',a3,a4⟩:=h.cm a1
   exact ⟨m',a4,by omega⟩
  ·obtain ⟨m,a1,a2⟩:=h2 (by intro e;subst e;simp at ho2;omega)
   exact h.data a1 (by omega)
 | .nilslice,v,r=>by simpa only [VR] using r
 | .hslice l sz n,v,r=>by
  simp only [VR] at r ⊢
  obtain ⟨b,e,cap,h1,h2,h3,h4⟩:=r
  exact ⟨b,e,cap,h.tg h1,h2,h3,h.hasRow h4⟩
 | .vslice l sz n,v,r=>by
  simp only [VR] at r ⊢
  obtain ⟨b,cap,h1,h2,h3⟩:=r
  exact ⟨b,cap,h.be h1,h2,h3⟩
 | .aptr l off,v,r=>by
  simp only [VR] at r ⊢
  obtain ⟨b,e,h1,h2⟩:=r
  exact ⟨b,e,h.tg h1,h2⟩
 | .map l,v,r=>by
  simp only [VR] at r ⊢
  obtain ⟨b,h1,h2⟩:=r
  exact ⟨b,h.be h1,h2⟩
 | .nilmap,v,r=>by simpa only [VR] using r
 | .func f a c,v,r=>by
  simp only [VR] at r ⊢
  obtain ⟨a',c',h1,h2,h3⟩:=r
  exact ⟨a',c',h1,VRL.mono h h2,VRL.mono h h3⟩
 | .nilfunc,v,r=>by simpa only [VR] using r
 | .yield l,v,r=>by
  simp only [VR] at r ⊢
  obtain ⟨b,h1,h2⟩:=r
  exact ⟨b,h.be h1,h2⟩
 | .iface t x,v,r=>by
  simp only [VR] at r ⊢
  obtain ⟨y,h1,h2⟩:=r
  exact ⟨y,h1,VR.mono h h2⟩
 | .niliface,v,r=>by simpa only [VR] using r
 | .agg cs,v,r=>by
  simp only [VR] at r ⊢
  obtain ⟨vs,h1,h2⟩:=r
  exact ⟨vs,h1,VRL.mono h h2⟩
 | .tuple cs,v,r=>by
  simp only [VR] at r ⊢
  obtain ⟨vs,h1,h2⟩:=r
  exact ⟨vs,h1,VRL.mono h h2⟩
theorem VRL.mono {G w G' w'} (h:Pres G w G' w'):∀ {ps:List PV} {vs:List Value},VRL G w ps vs→VRL G' w' ps vs
 | [],vs,r=>by simpa only [VRL] using r
 | c::cs,vs,r=>by
  simp only [VRL] at r ⊢
  obtain ⟨v,vs',h1,h2,h3⟩:=r
  exact ⟨v,vs',h1,VR.mono h h2,VRL.mono h h3⟩
theorem VRC.mono {G w G' w'} (h:Pres G w G' w'):∀ {ps:List PV} {b off:Nat},(∀ o,off≤o→o<off+ps.length→w'.cell? ⟨b,o,none⟩=w.cell? ⟨b,o,none⟩)→VRC G w ps b off→VRC G' w' ps b off
 | [],b,off,_,r=>by simp only [VRC]
 | c::cs,b,off,hd,r=>by
  simp only [VRC] at r ⊢
  obtain ⟨⟨v,h1,h2⟩,h3⟩:=r
  refine ⟨⟨v,?_,VR.mono h h2⟩,VRC.mono h (fun o h4 h5=>hd o (by omega) (by simp;omega)) h3⟩
  rw [hd off (Nat.le_refl _) (by simp)]
  exact h1
end
theorem VRL.nil_iff {G w vs}:VRL G w [] vs↔vs=[]:=by simp only [VRL]
theorem VRL.cons_iff {G w c cs vs}:VRL G w (c::cs) vs↔∃ v vs',vs=v::vs'∧VR G w c v∧VRL G w cs vs':=by simp only [VRL]
theorem VRL.cons {G w c cs v vs} (h:VR G w c v) (h':VRL G w cs vs):VRL G w (c::cs) (v::vs):=VRL.cons_iff.2 ⟨v,vs,rfl,h,h'⟩
theorem VRL.length {G w}:∀ {ps:List PV} {vs:List Value},VRL G w ps vs→vs.length=ps.length
 | [],vs,h=>by rw [VRL.nil_iff.1 h];rfl
 | c::cs,vs,h=>by
  obtain ⟨v,vs',rfl,_,h2⟩:=VRL.cons_iff.1 h
  simp [VRL.length h2]
theorem VRL.get {G w}:∀ {ps:List PV} {vs:List Value} {i:Nat} {p:PV},VRL G w ps vs→ps[i]? = some p→∃ v,vs[i]? = some v∧VR G w p v
 | [],vs,i,p,h,hi=>by simp at hi
 | c::cs,vs,0,p,h,hi=>by
  obtain ⟨v,vs',rfl,h1,_⟩:=VRL.cons_iff.1 h
  simp at hi;subst hi
  exact ⟨v,rfl,h1⟩
 | c::cs,vs,i+1,p,h,hi=>by
  obtain ⟨v,vs',rfl,_,h2⟩:=VRL.cons_iff.1 h
  simp at hi
  obtain ⟨x,hx,hr⟩:=VRL.get h2 hi
  exact ⟨x,by simpa using hx,hr⟩
theorem VRL.set {G w}:∀ {ps:List PV} {vs:List Value} {i:Nat} {p:PV} {v:Value},VRL G w ps vs→VR G w p v→VRL G w (ps.set i p) (vs.set i v)
 | [],vs,i,p,v,h,_=>by rw [VRL.nil_iff.1 h];simpa using VRL.nil_iff.2 rfl
 | c::cs,vs,0,p,v,h,hr=>by
  obtain ⟨v,vs',rfl,_,h2⟩:=VRL.cons_iff.1 h
  exact VRL.cons hr h2
 | c::cs,vs,i+1,p,v,h,hr=>by
  obtain ⟨v,vs',rfl,h1,h2⟩:=VRL.cons_iff.1 h
  exact VRL.cons h1 (VRL.set h2 hr)
theorem VRL.append {G w}:∀ {ps qs:List PV} {vs us:List Value},VRL G w ps vs→VRL G w qs us→VRL G w (ps++qs) (vs++us)
 | [],qs,vs,us,h,h'=>by rw [VRL.nil_iff.1 h];exact h'
 | c::cs,qs,vs,us,h,h'=>by
  obtain ⟨v,vs',rfl,h1,h2⟩:=VRL.cons_iff.1 h
  exact VRL.cons h1 (VRL.append h2 h')
theorem VRL.take {G w}:∀ {ps:List PV} {vs:List Value} (n:Nat),VRL G w ps vs→VRL G w (ps.take n) (vs.take n)
 | [],vs,n,h=>by rw [VRL.nil_iff.1 h];simpa using VRL.nil_iff.2 rfl
 | c::cs,vs,0,h=>by simpa using VRL.nil_iff.2 rfl
 | c::cs,vs,n+1,h=>by
  obtain ⟨v,vs',rfl,h1,h2⟩:=VRL.cons_iff.1 h
  exact VRL.cons h1 (VRL.take n h2)
theorem VRL.drop {G w}:∀ {ps:List PV} {vs:List Value} (n:Nat),VRL G w ps vs→VRL G w (ps.drop n) (vs.drop n)
 | [],vs,n,h=>by rw [VRL.nil_iff.1 h];simpa using VRL.nil_iff.2 rfl
 | c::cs,vs,0,h=>by simpa using h
 | c::cs,vs,n+1,h=>by
  obtain ⟨v,vs',rfl,h1,h2⟩:=VRL.cons_iff.1 h
  exact VRL.drop n h2
theorem VRL.replicate {G w p v} (h:VR G w p v):∀ (n:Nat),VRL G w (List.replicate n p) (List.replicate n v)
 | 0=>VRL.nil_iff.2 rfl
 | n+1=>VRL.cons h (VRL.replicate h n)
theorem VR.undef {G w}:VR G w undef Go.undef:=by
 simp only [Den.undef,VR]
 exact ⟨#[],rfl,VRL.nil_iff.2 rfl⟩
theorem VRL.getD {G w} {ps:List PV} {vs:List Value} (h:VRL G w ps vs) (i:Nat):VR G w (ps.getD i Den.undef) (vs.getD i Go.undef):=by
 by_cases hi:i<ps.length
 ·obtain ⟨v,h1,h2⟩:=h.get (List.getElem?_eq_getElem hi)
  simp only [List.getD_eq_getElem?_getD,h1,List.getElem?_eq_getElem hi,Option.getD_some]
  exact h2
 ·have:=h.length
  simp only [List.getD_eq_getElem?_getD]
  rw [List.getElem?_eq_none (by omega),List.getElem?_eq_none (by omega)]
  exact VR.undef
theorem VR.cells {G w p v} (h:VR G w p v):VRL G w p.cells v.cells.toList:=by
 cases p with
 | agg cs =>
  simp only [VR] at h
  obtain ⟨vs,rfl,h2⟩:=h
  exact h2
 | _ =>
  have h0:=h
  simp only [VR] at h
  simp only [PV.cells]
  first
   | (subst h;exact VRL.cons h0 (VRL.nil_iff.2 rfl))
   | (rcases h with ⟨_,_,_,rfl,_⟩|⟨_,_,_,_,rfl⟩ <;> exact VRL.cons h0 (VRL.nil_iff.2 rfl))
   | (obtain ⟨_,_,rfl⟩:=h;exact VRL.cons h0 (VRL.nil_iff.2 rfl))
   | (obtain ⟨_,_,_,rfl,_⟩:=h;exact VRL.cons h0 (VRL.nil_iff.2 rfl))
   | (obtain ⟨_,_,_,rfl⟩:=h;exact VRL.cons h0 (VRL.nil_iff.2 rfl))
   | (obtain ⟨_,_,rfl,_⟩:=h;exact VRL.cons h0 (VRL.nil_iff.2 rfl))
   | (obtain ⟨_,rfl,_⟩:=h;exact VRL.cons h0 (VRL.nil_iff.2 rfl))
   | (obtain ⟨_,_,_,_,rfl,_⟩:=h;exact VRL.cons h0 (VRL.nil_iff.2 rfl))
end Go.Den
end

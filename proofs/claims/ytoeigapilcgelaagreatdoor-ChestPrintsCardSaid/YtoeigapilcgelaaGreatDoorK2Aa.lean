/- Part of the proofs of laws of the package chest: the interpreter Den, its soundness, and contracts of the program's functions over it. Texts: DenCore. -/
import GoSem.Dispatch
import GoSem.Machine.Frame
set_option linter.unusedSimpArgs false
set_option linter.unusedVariables false
section
namespace Go.Den
inductive Own where
 | tag (t sz : Nat)
 | shared
inductive PV where
 | bool (b : Bool)
 | int (k : IntKind) (n : Int)
 | str (s : ByteArray)
 | ptr (l off : Nat)
 | cptr (cs : List PV)
 | nilptr
 | slice (o : Own) (n : Nat) (cs : List PV)
 | nilslice
 | hslice (l sz n : Nat)
 | aptr (l off : Nat)
 | map (l : Nat)
 | nilmap
 | func (f : Nat) (first captured : List PV)
 | nilfunc
 | yield (l : Nat)
 | iface (t : Nat) (v : PV)
 | niliface
 | agg (cs : List PV)
 | tuple (vs : List PV)
def undef : PV := .tuple []
def PV.cells : PV → List PV
 | .agg cs => cs
 | v => [v]
inductive Opd where
 | t (i : Nat)
 | c (v : PV)
inductive DOp where
 | val (x : Opd)
 | pick (c a b : Opd)
 | box (x : Opd)
 | alloc (z : List PV)
 | build (z : List PV) (parts : List (Nat × Nat × Opd))
 | buildSlice (sz : Nat) (n : Nat) (z : List PV) (parts : List (Nat × Nat × Opd))
 | buildSliceS (sz : Nat) (n : Nat) (z : List PV) (parts : List (Nat × Nat × Opd))
 | load (agg : Bool) (sz : Nat) (a : Opd)
 | store (sz : Nat) (a x : Opd)
 | nilCheck (x : Opd)
 | binI (op : BinOp) (x y : Opd)
 | binS (op : BinOp) (x y : Opd)
 | binB (neg : Bool) (x y : Opd)
 | eqAgg (neg : Bool) (k : Nat) (x y : Opd)
 | isNilS (neg : Bool) (x : Opd)
 | not (x : Opd)
 | neg (x : Opd)
 | toInt (k : IntKind) (x : Opd)
 | bytesToStr (x : Opd)
 | strToBytes (x : Opd)
 | rangeStr (x : Opd)
 | nextStr (x : Opd)
 | assertT (t : Nat) (z : PV) (x : Opd)
 | mkIface (t : Nat) (x : Opd)
 | mkFunc (f : Nat) (first captured : List Opd)
 | mkMap
 | slice (sz : Nat) (x : Opd) (lo hi : Option Opd)
 | sliceStr (x : Opd) (lo hi : Option Opd)
 | fieldAddr (off : Nat) (x : Opd)
 | part (agg : Bool) (sz off : Nat) (x : Opd)
 | indexAddr (sz : Nat) (x i : Opd)
 | indexVar (len sz : Nat) (x i : Opd)
 | indexArr (agg : Bool) (len sz : Nat) (x i : Opd)
 | indexStr (x i : Opd)
 | lookup (nf : Nat) (z : PV) (m k : Opd) (ok : Bool)
 | mapUpdate (nf : Nat) (m k v : Opd)
 | extract (x : Opd) (i : Nat)
 | len (x : Opd)
 | lenStr (x : Opd)
 | append (mu : Bool) (sz : Nat) (x y : Opd)
 | minmax (max : Bool) (x : Opd) (ys : List Opd)
 | call (f : Opd) (args : List Opd)
 | invoke (x : Opd) (m : String) (args : List Opd)
 | panic (x : Opd)
structure DOper where
 op : DOp
 dst : Option Nat
 guard : Option (Nat × Bool)
inductive DCode where
 | skip
 | region (ops : List DOper)
 | dregion (ops : List DOper) (heavy : List (Nat × List Nat))
 | seq (a b : DCode)
 | cond (c : Opd) (a b : DCode)
 | block (id : Nat) (b : DCode)
 | loop (b : DCode)
 | rangeFunc (f : Opd) (params : List Nat) (assign body : DCode)
 | exit (id : Nat)
 | scope (b : DCode)
 | ret
inductive DRes where
 | tmp (t : Nat)
 | cell (t : Nat) (agg : Bool) (sz : Nat)
structure DFunc where
 ntmps : Nat
 results : List DRes
 body : DCode
inductive LSt where
 | ready | busy | done | over
inductive Jump where
 | ret
 | exit (id : Nat)
inductive HObj where
 | var (cs : List PV)
 | tag (isOpen : Bool)
 | arr (cs : List PV)
 | iter (s : ByteArray) (pos : Nat)
 | map (es : List (PV × PV))
 | loop (tm : List PV) (params : List Nat) (assign body : DCode) (s : LSt) (pend : Option Jump)
structure St where
 heap : List HObj
 lo : Nat
inductive Ex where
 | normal
 | ret
 | exit (id : Nat)
 | panic (v : PV)
inductive CR where
 | ret (v : PV)
 | panic (v : PV)
def Opd.ev (tm : List PV) : Opd → PV
 | .t i => tm.getD i undef
 | .c v => v
def binI (op : BinOp) (k : IntKind) (x y : Int) : Option PV :=
 match op with
 | .add => some (.int k (k.wrap (x + y)))
 | .sub => some (.int k (k.wrap (x - y)))
 | .mul => some (.int k (k.wrap (x * y)))
 | .quo => if y = 0 then none else some (.int k (k.wrap (x.tdiv y)))
 | .rem => if y = 0 then none else some (.int k (x.tmod y))
 | .or => some (.int k (k.wrap (BitVec.ofInt k.bits x ||| BitVec.ofInt k.bits y).toNat))
 | .and => some (.int k (k.wrap (BitVec.ofInt k.bits x &&& BitVec.ofInt k.bits y).toNat))
 | .shl => if y < 0 then none else some (.int k (k.wrap (x * 2 ^ (min y.toNat k.bits))))
 | .eql => some (.bool (x == y))
 | .neq => some (.bool (x != y))
 | .lss => some (.bool (decide (x < y)))
 | .leq => some (.bool (decide (x ≤ y)))
 | .gtr => some (.bool (decide (x > y)))
 | .geq => some (.bool (decide (x ≥ y)))
 | _ => none
def binS (op : BinOp) (x y : ByteArray) : Option PV :=
 match op with
 | .add => if x.size + y.size ≤ 1000000 then some (.str (x ++ y)) else none
 | .eql => some (.bool (x.toList == y.toList))
 | .neq => some (.bool (!(x.toList == y.toList)))
 | _ => none
def ints : List PV → Option (List Int)
 | [] => some []
 | .int .i64 n :: r => (ints r).map (n :: ·)
 | _ => none
def splice (cs : List PV) (off : Nat) (p : List PV) : List PV := cs.take off ++ p ++ cs.drop (off + p.length)
def fillD (tm : List PV) : List PV → List (Nat × Nat × Opd) → Option (List PV)
 | cs, [] => some cs
 | cs, (off, size, x) :: r =>
  let p := (x.ev tm).cells
  if p.length = size ∧ off + size ≤ cs.length then fillD tm (splice cs off p) r else none
def rdPart (agg : Bool) (sz : Nat) (cs : List PV) : Option PV :=
 if agg then (if sz ≤ cs.length then some (.agg (cs.take sz)) else none) else cs.head?
mutual
def PV.low (m : Nat) : PV → Bool
 | .ptr l _ => decide (l < m)
 | .cptr cs => lowL m cs
 | .slice (.tag t _) _ cs => decide (t < m) && lowL m cs
 | .slice .shared _ cs => lowL m cs
 | .hslice l _ _ => decide (l < m)
 | .aptr l _ => decide (l < m)
 | .map l => decide (l < m)
 | .func _ a c => lowL m a && lowL m c
 | .yield l => decide (l < m)
 | .iface _ v => v.low m
 | .agg cs => lowL m cs
 | .tuple vs => lowL m vs
 | _ => true
def lowL (m : Nat) : List PV → Bool
 | [] => true
 | v :: vs => v.low m && lowL m vs
end
def PV.isCell : PV → Bool
 | .agg _ => false
 | .tuple _ => false
 | _ => true
def PV.share : PV → PV
 | .slice _ n cs => .slice .shared n cs
 | v => v
def freeze1 (m : Nat) (h : List HObj) : PV → PV × List HObj
 | .hslice t sz n => if t < m then (.hslice t sz n, h) else match h[t]? with
  | some (.arr cs) => if cs.all PV.isCell then (.slice (.tag t sz) n (cs.map PV.share), h.set t (.tag true)) else (.hslice t sz n, h)
  | _ => (.hslice t sz n, h)
 | v => (v, h)
def freezeL (m : Nat) (h : List HObj) : List PV → List PV × List HObj
 | [] => ([], h)
 | v :: vs => match freeze1 m h v with
  | (v', h1) => match freezeL m h1 vs with
   | (vs', h2) => (v' :: vs', h2)
def retag1 (h : List HObj) (m : Nat) (seen : List Nat) : PV → Option (PV × List Nat)
 | .slice (.tag t sz) n cs =>
  if lowL m cs then
   if t < m then some (.slice (.tag t sz) n cs, seen)
   else match h[t]? with
    | some (.tag true) => if seen.contains t then some (.slice .shared n cs, seen) else some (.slice (.tag (m + seen.length) sz) n cs, seen ++ [t])
    | _ => some (.slice .shared n cs, seen)
  else none
 | v => if v.low m then some (v, seen) else none
def retagL (h : List HObj) (m : Nat) (seen : List Nat) : List PV → Option (List PV × List Nat)
 | [] => some ([], seen)
 | v :: vs => match retag1 h m seen v with
  | some (v', s1) => match retagL h m s1 vs with
   | some (vs', s2) => some (v' :: vs', s2)
   | none => none
  | none => none
def letGo (m : Nat) (h : List HObj) : PV → Option (PV × Nat)
 | .tuple vs => match freezeL m h vs with
  | (vs, h) => (retagL h m [] vs).map fun r => (.tuple r.1, r.2.length)
 | .agg vs => match freezeL m h vs with
  | (vs, h) => (retagL h m [] vs).map fun r => (.agg r.1, r.2.length)
 | v => match freeze1 m h v with
  | (v, h) => (retag1 h m [] v).map fun r => (r.1, r.2.length)
def finishCall (st st1 : St) (v : PV) : PV × St :=
 if st.heap.length ≤ st1.lo then
  match letGo st.heap.length st1.heap v with
  | some (v', k) => (v', { heap := st.heap ++ List.replicate k (.tag true), lo := st.lo })
  | none => (v, { heap := st1.heap, lo := st.lo })
 else (v, { heap := st1.heap, lo := min st.lo st1.lo })
def setVar (st : St) (l : Nat) (o : HObj) : St := { heap := st.heap.set l o, lo := min st.lo l }
inductive OpR where
 | val (v : PV) (st : St)
 | panic (v : PV) (st : St)
structure Rec where
 code : DCode → List PV → St → Option (Ex × List PV × St)
 call : PV → List PV → St → Option (CR × St)
structure Env where
 fn : Nat → Option DFunc
 meth : Nat → String → Option Nat
 prim : Nat → Rec → List PV → St → Option (Option (CR × St))
def maxList : Nat := 1000000
def findKey (k : List Int) : List (PV × PV) → Nat → Option (Option Nat)
 | [], _ => some none
 | (.agg cs, _) :: r, i => match ints cs with
  | some l => if l.length = k.length then (if l = k then some (some i) else findKey k r (i + 1)) else none
  | none => none
 | _, _ => none
def put (tm : List PV) (dst : Option Nat) (v : PV) : List PV :=
 match dst with
 | some d => tm.set d v
 | none => tm
def evs (tm : List PV) (xs : List Opd) : List PV := xs.map (Opd.ev tm)
def asInt : PV → Option Int
 | .int _ n => some n
 | _ => none
def bound (tm : List PV) : Option Opd → Nat → Option Nat
 | none, d => some d
 | some x, _ => match x.ev tm with
  | .int _ n => if 0 ≤ n then some n.toNat else none
  | _ => none
def bytesOf : List PV → Option (List UInt8)
 | [] => some []
 | .int .u8 n :: r => (bytesOf r).map (UInt8.ofNat n.toNat :: ·)
 | _ => none
def doAppend (mu : Bool) (sz : Nat) (st : St) (x : PV) (m : Nat) (ys : List PV) : Option OpR :=
 if ys.length = m * sz ∧ ys.all PV.isCell = true then
  if m = 0 then match x with
   | .nilslice => some (.val .nilslice st)
   | .slice o n cs => some (.val (.slice o n cs) st)
   | .hslice t s n => some (.val (.hslice t s n) st)
   | _ => none
  else match x with
  | .nilslice => if m ≤ maxList then
    (if mu then some (.val (.hslice st.heap.length sz m) { st with heap := st.heap ++ [.arr ys] })
     else some (.val (.slice (.tag st.heap.length sz) m (ys.map PV.share)) { st with heap := st.heap ++ [.tag true] })) else none
  | .slice (.tag t sz') n cs =>
   if sz' = sz ∧ cs.length = n * sz ∧ n + m ≤ maxList then
    match st.heap[t]? with
    | some (.tag true) =>
     some (.val (.slice (.tag st.heap.length sz) (n + m) (cs ++ ys.map PV.share)) { heap := st.heap.set t (.tag false) ++ [.tag true], lo := min st.lo t })
    | _ => none
   else none
  | .hslice t sz' n =>
   match st.heap[t]? with
   | some (.arr cs) =>
    if sz' = sz ∧ cs.length = n * sz ∧ n + m ≤ maxList then
     some (.val (.hslice st.heap.length sz (n + m)) { heap := st.heap.set t (.tag false) ++ [.arr (cs ++ ys)], lo := min st.lo t })
    else none
   | _ => none
  | _ => none
 else none
def mm (mx : Bool) : PV → List PV → Option PV
 | v, [] => some v
 | .int k a, .int _ b :: r => mm mx (.int k (if mx then (if b > a then b else a) else (if b < a then b else a))) r
 | _, _ => none
def stepOp (E : Env) (rec : Rec) (tm : List PV) (st : St) : DOp → Option OpR
 | .val x => some (.val (x.ev tm) st)
 | .pick c a b => match c.ev tm with
  | .bool t => some (.val (if t then a.ev tm else b.ev tm) st)
  | _ => none
 | .box x => some (.val (.ptr st.heap.length 0) { st with heap := st.heap ++ [.var (x.ev tm).cells] })
 | .alloc z => some (.val (.ptr st.heap.length 0) { st with heap := st.heap ++ [.var z] })
 | .build z parts => match fillD tm z parts with
  | some cs => some (.val (.agg cs) st)
  | none => none
 | .buildSlice sz n z parts => match fillD tm z parts with
  | some cs => some (.val (.slice (.tag st.heap.length sz) n (cs.map PV.share)) { st with heap := st.heap ++ [.tag true] })
  | none => none
 | .buildSliceS sz n z parts => match fillD tm z parts with
  | some cs => some (.val (.slice .shared n (cs.map PV.share)) st)
  | none => none
 | .load agg sz a => match a.ev tm with
  | .ptr l off => match st.heap[l]? with
   | some (.var cs) => if off ≤ cs.length then (rdPart agg sz (cs.drop off)).map (.val · st) else none
   | _ => none
  | .cptr cs => (rdPart agg sz cs).map (.val · st)
  | .aptr l off => match st.heap[l]? with
   | some (.arr cs) => if off ≤ cs.length then (rdPart agg sz (cs.drop off)).map (.val · st) else none
   | _ => none
  | _ => none
 | .store sz a x => match a.ev tm with
  | .ptr l off => match st.heap[l]? with
   | some (.var cs) =>
    let p := (x.ev tm).cells
    if p.length = sz ∧ off + sz ≤ cs.length ∧ p.all PV.isCell = true then some (.val undef (setVar st l (.var (splice cs off p)))) else none
   | _ => none
  | .aptr l off => match st.heap[l]? with
   | some (.arr cs) =>
    let p := (x.ev tm).cells
    if p.length = sz ∧ off + sz ≤ cs.length ∧ p.all PV.isCell = true then some (.val undef (setVar st l (.arr (splice cs off p)))) else none
   | _ => none
  | _ => none
 | .nilCheck x => match x.ev tm with
  | .ptr l o => some (.val (.ptr l o) st)
  | .cptr cs => some (.val (.cptr cs) st)
  | .func f a c => some (.val (.func f a c) st)
  | _ => none
 | .binI op x y => match x.ev tm, y.ev tm with
  | .int k a, .int k' b => if k = k' then (binI op k a b).map (.val · st) else none
  | _, _ => none
 | .binS op x y => match x.ev tm, y.ev tm with
  | .str a, .str b => (binS op a b).map (.val · st)
  | _, _ => none
 | .binB neg x y => match x.ev tm, y.ev tm with
  | .bool a, .bool b => some (.val (.bool (if neg then !(a == b) else a == b)) st)
  | _, _ => none
 | .eqAgg neg k x y => match x.ev tm, y.ev tm with
  | .agg a, .agg b => match ints a, ints b with
   | some l, some m => if l.length = k ∧ m.length = k then some (.val (.bool (if neg then !(l == m) else l == m)) st) else none
   | _, _ => none
  | _, _ => none
 | .isNilS neg x => match x.ev tm with
  | .nilslice => some (.val (.bool (!neg)) st)
  | .slice _ _ _ => some (.val (.bool neg) st)
  | _ => none
 | .not x => match x.ev tm with
  | .bool b => some (.val (.bool !b) st)
  | _ => none
 | .neg x => match x.ev tm with
  | .int k n => some (.val (.int k (k.wrap (0 - n))) st)
  | _ => none
 | .toInt k x => match x.ev tm with
  | .int _ n => some (.val (.int k (k.wrap n)) st)
  | _ => none
 | .bytesToStr x => match x.ev tm with
  | .nilslice => some (.val (.str .empty) st)
  | .slice _ n cs => if cs.length = n then (bytesOf cs).map (fun l => .val (.str ⟨l.toArray⟩) st) else none
  | .hslice l _ n => match st.heap[l]? with
   | some (.arr cs) => if cs.length = n then (bytesOf cs).map (fun l => .val (.str ⟨l.toArray⟩) st) else none
   | _ => none
  | _ => none
 | .strToBytes x => match x.ev tm with
  | .str s => if s.size ≤ maxList then some (.val (.hslice st.heap.length 1 s.size) { st with heap := st.heap ++ [.arr (s.data.toList.map fun b => .int .u8 b.toNat)] }) else none
  | _ => none
 | .rangeStr x => match x.ev tm with
  | .str s => some (.val (.ptr st.heap.length 0) { st with heap := st.heap ++ [.iter s 0] })
  | _ => none
 | .nextStr x => match x.ev tm with
  | .ptr l 0 => match st.heap[l]? with
   | some (.iter s pos) =>
    if pos < s.size then
     some (.val (.tuple [.bool true, .int .i64 pos, .int .i32 (Utf8.decode s pos).1]) (setVar st l (.iter s (pos + (Utf8.decode s pos).2))))
    else some (.val (.tuple [.bool false]) st)
   | _ => none
  | _ => none
 | .assertT t z x => match x.ev tm with
  | .iface t' v => some (.val (if t' = t then .tuple [v, .bool true] else .tuple [z, .bool false]) st)
  | _ => none
 | .mkIface t x => some (.val (.iface t (x.ev tm)) st)
 | .mkFunc f a c => some (.val (.func f (evs tm a) (evs tm c)) st)
 | .mkMap => some (.val (.map st.heap.length) { st with heap := st.heap ++ [.map []] })
 | .slice sz x lo hi => match x.ev tm with
  | .nilslice => match bound tm hi 0, bound tm lo 0 with
   | some 0, some 0 => some (.val .nilslice st)
   | _, _ => none
  | .slice _ n cs => match bound tm hi n, bound tm lo 0 with
   | some h, some l => if l ≤ h ∧ h ≤ n ∧ cs.length = n * sz then some (.val (.slice .shared (h - l) ((cs.drop (l * sz)).take ((h - l) * sz))) st) else none
   | _, _ => none
  | _ => none
 | .sliceStr x lo hi => match x.ev tm with
  | .str s => match bound tm hi s.size, bound tm lo 0 with
   | some h, some l => if l ≤ h ∧ h ≤ s.size then some (.val (.str (s.extract l h)) st) else none
   | _, _ => none
  | _ => none
 | .fieldAddr off x => match x.ev tm with
  | .ptr l o => some (.val (.ptr l (o + off)) st)
  | .aptr l o => some (.val (.aptr l (o + off)) st)
  | .cptr cs => if off ≤ cs.length then some (.val (.cptr (cs.drop off)) st) else none
  | _ => none
 | .part agg sz off x => match x.ev tm with
  | .agg cs => if off ≤ cs.length then (rdPart agg sz (cs.drop off)).map (.val · st) else none
  | _ => none
 | .indexAddr sz x i => match x.ev tm, i.ev tm with
  | .slice _ n cs, .int _ i => if 0 ≤ i ∧ i < n then some (.val (.cptr ((cs.drop (i.toNat * sz)).take sz)) st) else none
  | .hslice l sz' n, .int _ i => if sz' = sz ∧ 0 ≤ i ∧ i < n then some (.val (.aptr l (i.toNat * sz)) st) else none
  | _, _ => none
 | .indexVar len sz x i => match x.ev tm, i.ev tm with
  | .ptr l o, .int _ i => if 0 ≤ i ∧ i < len then some (.val (.ptr l (o + i.toNat * sz)) st) else none
  | _, _ => none
 | .indexArr agg len sz x i => match x.ev tm, i.ev tm with
  | .agg cs, .int _ i => if 0 ≤ i ∧ i < len ∧ i.toNat * sz ≤ cs.length then (rdPart agg sz (cs.drop (i.toNat * sz))).map (.val · st) else none
  | _, _ => none
 | .indexStr x i => match x.ev tm, i.ev tm with
  | .str s, .int _ i => if 0 ≤ i then (s[i.toNat]?).map (fun b => .val (.int .u8 b.toNat) st) else none
  | _, _ => none
 | .lookup nf z m k ok => match m.ev tm, k.ev tm with
  | .map l, .agg kc => match st.heap[l]? with
   | some (.map es) => match ints kc with
    | some ki => if ki.length = nf then match findKey ki es 0 with
     | some (some i) => (es[i]?).map fun e => .val (if ok then .tuple [e.2, .bool true] else e.2) st
     | some none => some (.val (if ok then .tuple [z, .bool false] else z) st)
     | none => none
     else none
    | none => none
   | _ => none
  | _, _ => none
 | .mapUpdate nf m k v => match m.ev tm, k.ev tm with
  | .map l, .agg kc => match st.heap[l]? with
   | some (.map es) => match ints kc with
    | some ki => if ki.length = nf then match findKey ki es 0 with
     | some none => some (.val undef (setVar st l (.map (es ++ [(.agg kc, v.ev tm)]))))
     | _ => none
     else none
    | none => none
   | _ => none
  | _, _ => none
 | .extract x i => match x.ev tm with
  | .tuple vs => (vs[i]?).map (.val · st)
  | _ => none
 | .len x => match x.ev tm with
  | .nilslice => some (.val (.int .i64 0) st)
  | .slice _ n _ => some (.val (.int .i64 n) st)
  | .hslice _ _ n => some (.val (.int .i64 n) st)
  | _ => none
 | .lenStr x => match x.ev tm with
  | .str s => some (.val (.int .i64 s.size) st)
  | _ => none
 | .append mu sz x y => match y.ev tm with
  | .nilslice => doAppend mu sz st (x.ev tm) 0 []
  | .slice _ m ys => doAppend mu sz st (x.ev tm) m ys
  | _ => none
 | .minmax mx x ys => (mm mx (x.ev tm) (evs tm ys)).map (.val · st)
 | .call f args => match rec.call (f.ev tm) (evs tm args) st with
  | some (.ret v, st') => some (.val v st')
  | some (.panic v, st') => some (.panic v st')
  | none => none
 | .invoke x m args => match x.ev tm with
  | .iface t v => match E.meth t m with
   | some f => match rec.call (.func f [] []) (v :: evs tm args) st with
    | some (.ret v, st') => some (.val v st')
    | some (.panic v, st') => some (.panic v st')
    | none => none
   | none => none
  | _ => none
 | .panic x => match x.ev tm with
  | .iface t v => some (.panic (.iface t v) st)
  | _ => none
def wants (tm : List PV) : Option (Nat × Bool) → Bool
 | none => true
 | some (d, want) => match tm[d]? with
  | some (.bool b) => b == want
  | _ => false
def stepOps (E : Env) (rec : Rec) : List DOper → List PV → St → Option (Ex × List PV × St)
 | [], tm, st => some (.normal, tm, st)
 | o :: os, tm, st =>
  if wants tm o.guard then
   match stepOp E rec tm st o.op with
   | some (.val v st') => stepOps E rec os (put tm o.dst v) st'
   | some (.panic v st') => some (.panic v, tm, st')
   | none => none
  else stepOps E rec os (put tm o.dst undef) st
inductive Foot where
 | quiet
 | ld (l : Nat)
 | st (l : Nat)
 | wr (lo : Nat)
def footOf (tm : List PV) (o : DOp) (m lo : Nat) : Foot :=
 match o with
 | .load _ _ a => match a.ev tm with
  | .ptr l _ => .ld l
  | .aptr l _ => .ld l
  | _ => .quiet
 | .bytesToStr a => match a.ev tm with
  | .hslice l _ _ => .ld l
  | _ => .quiet
 | .lookup _ _ m _ _ => match m.ev tm with
  | .map l => .ld l
  | _ => .quiet
 | .store _ a _ => match a.ev tm with
  | .ptr l _ => .st l
  | .aptr l _ => .st l
  | _ => .quiet
 | _ => if m ≤ lo then .quiet else .wr lo
def stepOpsD (E : Env) (rec : Rec) : List DOper → List PV → St → Option (Ex × List PV × St × List Foot)
 | [], tm, st => some (.normal, tm, st, [])
 | o :: os, tm, st =>
  if wants tm o.guard then
   match stepOp E rec tm { st with lo := st.heap.length } o.op with
   | some (.val v st') =>
    match stepOpsD E rec os (put tm o.dst v) { st' with lo := min st.lo st'.lo } with
    | some (e, tm', st'', fs) => some (e, tm', st'', footOf tm o.op st.heap.length st'.lo :: fs)
    | none => none
   | some (.panic v st') => if os.isEmpty then some (.panic v, tm, { st' with lo := min st.lo st'.lo }, [footOf tm o.op st.heap.length st'.lo]) else none
   | none => none
  else match stepOpsD E rec os (put tm o.dst undef) st with
   | some (e, tm', st'', fs) => some (e, tm', st'', .quiet :: fs)
   | none => none
def clash (l : Nat) : Foot → Bool
 | .st l' => l == l'
 | .wr lo => decide (lo ≤ l)
 | _ => false
def footOk (fs : List Foot) (free : List (Nat × List Nat)) : Bool :=
 free.all fun (i, js) => match fs[i]? with
  | some (.ld l) => js.all fun j => match fs[j]? with
   | some f => !clash l f
   | none => true
  | _ => true
def rdRes (tm : List PV) (h : List HObj) : DRes → Option PV
 | .tmp t => some (tm.getD t undef)
 | .cell t agg sz => match tm.getD t undef with
  | .ptr l off => match h[l]? with
   | some (.var cs) => if off ≤ cs.length then rdPart agg sz (cs.drop off) else none
   | _ => none
  | _ => none
def rdResL (tm : List PV) (h : List HObj) : List DRes → Option (List PV)
 | [] => some []
 | r :: rs => match rdRes tm h r, rdResL tm h rs with
  | some v, some vs => some (v :: vs)
  | _, _ => none
def results (tm : List PV) (h : List HObj) (rs : List DRes) : Option PV :=
 match rdResL tm h rs with
 | some [v] => some v
 | some vs => some (.tuple vs)
 | none => none
def setParams (tm : List PV) : List Nat → List PV → Option (List PV)
 | [], [] => some tm
 | p :: ps, v :: vs => setParams (tm.set p v) ps vs
 | _, _ => none
def enter (E : Env) (rec : Rec) (f : Nat) (args : List PV) (st : St) : Option (CR × St) :=
 match E.prim f rec args st with
 | some r => r
 | none => match E.fn f with
  | none => none
  | some df =>
   match rec.code df.body (args ++ List.replicate (df.ntmps - args.length) undef) { st with lo := st.heap.length } with
   | some (.normal, tm, st1) | some (.ret, tm, st1) =>
    match results tm st1.heap df.results with
    | some v => match finishCall st st1 v with | (v', st2) => some (.ret v', st2)
    | none => none
   | some (.panic v, _, st1) => some (.panic v, { heap := st1.heap, lo := min st.lo st1.lo })
   | _ => none
def setLoop (st : St) (l : Nat) (s : LSt) (p : Option Jump → Option Jump) : Option (LSt × Option Jump × St) :=
 match st.heap[l]? with
 | some (.loop tm params assign body s0 pend) => some (s0, pend, setVar st l (.loop tm params assign body s (p pend)))
 | _ => none
def round (rec : Rec) (l : Nat) (args : List PV) (st : St) : Option (CR × St) :=
 match st.heap[l]? with
 | some (.loop tm params assign body _ _) =>
  match setParams tm params args with
  | none => none
  | some tm0 => match rec.code assign tm0 st with
   | some (.normal, tm1, st1) =>
    match setLoop st1 l .busy id with
    | some (.ready, _, st2) =>
     match rec.code body tm1 st2 with
     | some (.normal, _, st3) => (setLoop st3 l .ready fun _ => none).map fun r => (.ret (.bool true), r.2.2)
     | some (.ret, _, st3) => (setLoop st3 l .done fun _ => some .ret).map fun r => (.ret (.bool false), r.2.2)
     | some (.exit id, _, st3) => (setLoop st3 l .done fun _ => some (.exit id)).map fun r => (.ret (.bool false), r.2.2)
     | _ => none
    | _ => none
   | _ => none
 | _ => none
def stepCall (E : Env) (rec : Rec) (f : PV) (args : List PV) (st : St) : Option (CR × St) :=
 match f with
 | .func f a c => enter E rec f (a ++ args ++ c) st
 | .yield l => round rec l args st
 | _ => none
def stepCode (E : Env) (rec : Rec) (c : DCode) (tm : List PV) (st : St) : Option (Ex × List PV × St) :=
 match c with
 | .skip => some (.normal, tm, st)
 | .region ops => stepOps E rec ops tm st
 | .dregion ops free => match stepOpsD E rec ops tm st with
  | some (e, tm', st', fs) => if footOk fs free then some (e, tm', st') else none
  | none => none
 | .seq a b => match rec.code a tm st with
  | some (.normal, tm', st') => rec.code b tm' st'
  | r => r
 | .cond c a b => match c.ev tm with
  | .bool true => rec.code a tm st
  | .bool false => rec.code b tm st
  | _ => none
 | .block id b => match rec.code b tm st with
  | some (.exit i, tm', st') => if i = id then some (.normal, tm', st') else some (.exit i, tm', st')
  | r => r
 | .loop b => match rec.code b tm st with
  | some (.normal, tm', st') => rec.code (.loop b) tm' st'
  | r => r
 | .scope b => rec.code b tm st
 | .rangeFunc f params assign body =>
  match f.ev tm with
  | .func g fa fc =>
   match rec.call (.func g fa fc) [.yield st.heap.length] { st with heap := st.heap ++ [.loop tm params assign body .ready none] } with
   | some (.ret _, st') => match setLoop st' st.heap.length .over id with
    | some (.ready, none, st2) => some (.normal, tm, st2)
    | some (.done, some .ret, st2) => some (.ret, tm, st2)
    | some (.done, some (.exit id), st2) => some (.exit id, tm, st2)
    | _ => none
   | _ => none
  | _ => none
 | .exit id => some (.exit id, tm, st)
 | .ret => some (.ret, tm, st)
def run (E : Env) : Nat → Rec
 | 0 => ⟨fun _ _ _ => none, fun _ _ _ => none⟩
 | n + 1 => ⟨stepCode E (run E n), stepCall E (run E n)⟩
end Go.Den
end

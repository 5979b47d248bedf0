/- Part of the proofs of laws of the package chest: the interpreter Den, its soundness, and contracts of the program's functions over it. Texts: ChEnv, ChPure. -/
import Derived.Test.YtoeigapilcgelaaGreatDoorK2Aw
import Derived.Test.YtoeigapilcgelaaGreatDoorK2Av
set_option linter.unusedSimpArgs false
set_option linter.unusedVariables false
section
namespace Go.Den.Ch
def fnT (n : Nat) : Option DFunc := match n with
 | 7 => some den7
 | 15 => some den15
 | 17 => some den17
 | 18 => some den18
 | 21 => some den21
 | 24 => some den24
 | 25 => some den25
 | 26 => some den26
 | 27 => some den27
 | 29 => some den29
 | 30 => some den30
 | 31 => some den31
 | 32 => some den32
 | 33 => some den33
 | 36 => some den36
 | 37 => some den37
 | 38 => some den38
 | 39 => some den39
 | 40 => some den40
 | 41 => some den41
 | 44 => some den44
 | 45 => some den45
 | 49 => some den49
 | 53 => some den53
 | 54 => some den54
 | 57 => some den57
 | 58 => some den58
 | 60 => some den60
 | 61 => some den61
 | 62 => some den62
 | 63 => some den63
 | 66 => some den66
 | 69 => some den69
 | 70 => some den70
 | 71 => some den71
 | 72 => some den72
 | 74 => some den74
 | 75 => some den75
 | 76 => some den76
 | 77 => some den77
 | 78 => some den78
 | 80 => some den80
 | 81 => some den81
 | 82 => some den82
 | 83 => some den83
 | 84 => some den84
 | 86 => some den86
 | 87 => some den87
 | 88 => some den88
 | 89 => some den89
 | 90 => some den90
 | 91 => some den91
 | 92 => some den92
 | 93 => some den93
 | 95 => some den95
 | 96 => some den96
 | 97 => some den97
 | 98 => some den98
 | 99 => some den99
 | 100 => some den100
 | 101 => some den101
 | 102 => some den102
 | 105 => some den105
 | 106 => some den106
 | 107 => some den107
 | 108 => some den108
 | 109 => some den109
 | 110 => some den110
 | 111 => some den111
 | 115 => some den115
 | 116 => some den116
 | 117 => some den117
 | 118 => some den118
 | 119 => some den119
 | 122 => some den122
 | 123 => some den123
 | 124 => some den124
 | 125 => some den125
 | 126 => some den126
 | 128 => some den128
 | 129 => some den129
 | 130 => some den130
 | 131 => some den131
 | 132 => some den132
 | 133 => some den133
 | 134 => some den134
 | 135 => some den135
 | 136 => some den136
 | 140 => some den140
 | 141 => some den141
 | 142 => some den142
 | 144 => some den144
 | 145 => some den145
 | 146 => some den146
 | 147 => some den147
 | 148 => some den148
 | 149 => some den149
 | 200 => some den200
 | 201 => some den201
 | 202 => some den202
 | 203 => some den203
 | _ => none

def methT (t : Nat) (m : String) : Option Nat := match t with
 | 142 => if m = "kelir/chest.kind" then some 200 else if m = "kelir/chest.numbers" then some 201 else none
 | 144 => if m = "kelir/chest.kind" then some 202 else if m = "kelir/chest.numbers" then some 203 else none
 | _ => none

/-- The decimal text of a number below 100. -/
def itoaL (n : Nat) : List UInt8 := if n < 10 then [UInt8.ofNat (48 + n)] else [UInt8.ofNat (48 + n / 10), UInt8.ofNat (48 + n % 10)]
def toB (l : List UInt8) : ByteArray := ⟨l.toArray⟩
def unB (b : ByteArray) : List UInt8 := b.data.toList
/-- A list cut at each byte. -/
def splitL (b : UInt8) : List UInt8 → List UInt8 → List (List UInt8)
 | acc, [] => [acc]
 | acc, x :: xs => if x = b then acc :: splitL b [] xs else splitL b (acc ++ [x]) xs
def strs : List PV → Option (List ByteArray)
 | [] => some []
 | .str s :: r => (strs r).map (s :: ·)
 | _ => none
def encS (s : List UInt8) : List PV := [.str (toB s)]

def zeroF : PV := .agg [.int .i64 0, .int .i64 0, .int .i64 0]
def tryR (rec : Rec) (d : PV) (st : St) : Option (Option (CR × St)) := match rec.call d [] st with
 | some (.ret _, st') => some (some (.ret (.tuple [zeroF, .int .i64 0]), st'))
 | some (.panic (.iface t v), st') => match t, v with
  | 133, .agg [.int .i64 a, .int .i64 b, .int .i64 c] => some (some (.ret (.tuple [.agg [.int .i64 a, .int .i64 b, .int .i64 c], .int .i64 7]), st'))
  | 135, .agg [.str _] => some (some (.ret (.tuple [zeroF, .int .i64 4]), st'))
  | _, _ => some none
 | _ => some none
def itoaR (st : St) : List PV → Option (Option (CR × St))
 | [.int .i64 n] => if 0 ≤ n ∧ n < 100 then some (some (.ret (.str (toB (itoaL n.toNat))), st)) else some none
 | _ => some none
def joinR (st : St) : List PV → Option (Option (CR × St))
 | [.slice _ n cs, .str sep] => match strs cs with
  | some l => if n = cs.length ∧ n ≤ 1000 ∧ sep.size ≤ 1000 ∧ (l.all fun s => s.size ≤ 1000) = true then some (some (.ret (.str (toB (List.intercalate (unB sep) (l.map unB)))), st)) else some none
  | none => some none
 | _ => some none
def splitR (st : St) : List PV → Option (Option (CR × St))
 | [.str s, .str sep] => match unB sep with
  | [b] => if s.size ≤ 100000 then some (some (.ret (.slice .shared (splitL b [] (unB s)).length ((splitL b [] (unB s)).flatMap encS)), st)) else some none
  | _ => some none
 | _ => some none

def primT (g : Nat) (rec : Rec) (args : List PV) (st : St) : Option (Option (CR × St)) := match g with
 | 79 => match args with
  | [.func dg da dc] => tryR rec (.func dg da dc) st
  | _ => some none
 | 137 => itoaR st args
 | 138 => joinR st args
 | 139 => splitR st args
 | _ => none

def EE : Env := { fn := fnT, meth := methT, prim := primT }
theorem fn7 : EE.fn 7 = some den7 := rfl
theorem fn15 : EE.fn 15 = some den15 := rfl
theorem fn17 : EE.fn 17 = some den17 := rfl
theorem fn18 : EE.fn 18 = some den18 := rfl
theorem fn21 : EE.fn 21 = some den21 := rfl
theorem fn24 : EE.fn 24 = some den24 := rfl
theorem fn25 : EE.fn 25 = some den25 := rfl
theorem fn26 : EE.fn 26 = some den26 := rfl
theorem fn27 : EE.fn 27 = some den27 := rfl
theorem fn29 : EE.fn 29 = some den29 := rfl
theorem fn30 : EE.fn 30 = some den30 := rfl
theorem fn31 : EE.fn 31 = some den31 := rfl
theorem fn32 : EE.fn 32 = some den32 := rfl
theorem fn33 : EE.fn 33 = some den33 := rfl
theorem fn36 : EE.fn 36 = some den36 := rfl
theorem fn37 : EE.fn 37 = some den37 := rfl
theorem fn38 : EE.fn 38 = some den38 := rfl
theorem fn39 : EE.fn 39 = some den39 := rfl
theorem fn40 : EE.fn 40 = some den40 := rfl
theorem fn41 : EE.fn 41 = some den41 := rfl
theorem fn44 : EE.fn 44 = some den44 := rfl
theorem fn45 : EE.fn 45 = some den45 := rfl
theorem fn49 : EE.fn 49 = some den49 := rfl
theorem fn53 : EE.fn 53 = some den53 := rfl
theorem fn54 : EE.fn 54 = some den54 := rfl
theorem fn57 : EE.fn 57 = some den57 := rfl
theorem fn58 : EE.fn 58 = some den58 := rfl
theorem fn60 : EE.fn 60 = some den60 := rfl
theorem fn61 : EE.fn 61 = some den61 := rfl
theorem fn62 : EE.fn 62 = some den62 := rfl
theorem fn63 : EE.fn 63 = some den63 := rfl
theorem fn66 : EE.fn 66 = some den66 := rfl
theorem fn69 : EE.fn 69 = some den69 := rfl
theorem fn70 : EE.fn 70 = some den70 := rfl
theorem fn71 : EE.fn 71 = some den71 := rfl
theorem fn72 : EE.fn 72 = some den72 := rfl
theorem fn74 : EE.fn 74 = some den74 := rfl
theorem fn75 : EE.fn 75 = some den75 := rfl
theorem fn76 : EE.fn 76 = some den76 := rfl
theorem fn77 : EE.fn 77 = some den77 := rfl
theorem fn78 : EE.fn 78 = some den78 := rfl
theorem fn80 : EE.fn 80 = some den80 := rfl
theorem fn81 : EE.fn 81 = some den81 := rfl
theorem fn82 : EE.fn 82 = some den82 := rfl
theorem fn83 : EE.fn 83 = some den83 := rfl
theorem fn84 : EE.fn 84 = some den84 := rfl
theorem fn86 : EE.fn 86 = some den86 := rfl
theorem fn87 : EE.fn 87 = some den87 := rfl
theorem fn88 : EE.fn 88 = some den88 := rfl
theorem fn89 : EE.fn 89 = some den89 := rfl
theorem fn90 : EE.fn 90 = some den90 := rfl
theorem fn91 : EE.fn 91 = some den91 := rfl
theorem fn92 : EE.fn 92 = some den92 := rfl
theorem fn93 : EE.fn 93 = some den93 := rfl
theorem fn95 : EE.fn 95 = some den95 := rfl
theorem fn96 : EE.fn 96 = some den96 := rfl
theorem fn97 : EE.fn 97 = some den97 := rfl
theorem fn98 : EE.fn 98 = some den98 := rfl
theorem fn99 : EE.fn 99 = some den99 := rfl
theorem fn100 : EE.fn 100 = some den100 := rfl
theorem fn101 : EE.fn 101 = some den101 := rfl
theorem fn102 : EE.fn 102 = some den102 := rfl
theorem fn105 : EE.fn 105 = some den105 := rfl
theorem fn106 : EE.fn 106 = some den106 := rfl
theorem fn107 : EE.fn 107 = some den107 := rfl
theorem fn108 : EE.fn 108 = some den108 := rfl
theorem fn109 : EE.fn 109 = some den109 := rfl
theorem fn110 : EE.fn 110 = some den110 := rfl
theorem fn111 : EE.fn 111 = some den111 := rfl
theorem fn115 : EE.fn 115 = some den115 := rfl
theorem fn116 : EE.fn 116 = some den116 := rfl
theorem fn117 : EE.fn 117 = some den117 := rfl
theorem fn118 : EE.fn 118 = some den118 := rfl
theorem fn119 : EE.fn 119 = some den119 := rfl
theorem fn122 : EE.fn 122 = some den122 := rfl
theorem fn123 : EE.fn 123 = some den123 := rfl
theorem fn124 : EE.fn 124 = some den124 := rfl
theorem fn125 : EE.fn 125 = some den125 := rfl
theorem fn126 : EE.fn 126 = some den126 := rfl
theorem fn128 : EE.fn 128 = some den128 := rfl
theorem fn129 : EE.fn 129 = some den129 := rfl
theorem fn130 : EE.fn 130 = some den130 := rfl
theorem fn131 : EE.fn 131 = some den131 := rfl
theorem fn132 : EE.fn 132 = some den132 := rfl
theorem fn133 : EE.fn 133 = some den133 := rfl
theorem fn134 : EE.fn 134 = some den134 := rfl
theorem fn135 : EE.fn 135 = some den135 := rfl
theorem fn136 : EE.fn 136 = some den136 := rfl
theorem fn140 : EE.fn 140 = some den140 := rfl
theorem fn141 : EE.fn 141 = some den141 := rfl
theorem fn142 : EE.fn 142 = some den142 := rfl
theorem fn144 : EE.fn 144 = some den144 := rfl
theorem fn145 : EE.fn 145 = some den145 := rfl
theorem fn146 : EE.fn 146 = some den146 := rfl
theorem fn147 : EE.fn 147 = some den147 := rfl
theorem fn148 : EE.fn 148 = some den148 := rfl
theorem fn149 : EE.fn 149 = some den149 := rfl
theorem fn200 : EE.fn 200 = some den200 := rfl
theorem fn201 : EE.fn 201 = some den201 := rfl
theorem fn202 : EE.fn 202 = some den202 := rfl
theorem fn203 : EE.fn 203 = some den203 := rfl
variable (r : Rec) (a : List PV) (s : St)
theorem pr7 : EE.prim 7 r a s = none := rfl
theorem pr15 : EE.prim 15 r a s = none := rfl
theorem pr17 : EE.prim 17 r a s = none := rfl
theorem pr18 : EE.prim 18 r a s = none := rfl
theorem pr21 : EE.prim 21 r a s = none := rfl
theorem pr24 : EE.prim 24 r a s = none := rfl
theorem pr25 : EE.prim 25 r a s = none := rfl
theorem pr26 : EE.prim 26 r a s = none := rfl
theorem pr27 : EE.prim 27 r a s = none := rfl
theorem pr29 : EE.prim 29 r a s = none := rfl
theorem pr30 : EE.prim 30 r a s = none := rfl
theorem pr31 : EE.prim 31 r a s = none := rfl
theorem pr32 : EE.prim 32 r a s = none := rfl
theorem pr33 : EE.prim 33 r a s = none := rfl
theorem pr36 : EE.prim 36 r a s = none := rfl
theorem pr37 : EE.prim 37 r a s = none := rfl
theorem pr38 : EE.prim 38 r a s = none := rfl
theorem pr39 : EE.prim 39 r a s = none := rfl
theorem pr40 : EE.prim 40 r a s = none := rfl
theorem pr41 : EE.prim 41 r a s = none := rfl
theorem pr44 : EE.prim 44 r a s = none := rfl
theorem pr45 : EE.prim 45 r a s = none := rfl
theorem pr49 : EE.prim 49 r a s = none := rfl
theorem pr53 : EE.prim 53 r a s = none := rfl
theorem pr54 : EE.prim 54 r a s = none := rfl
theorem pr57 : EE.prim 57 r a s = none := rfl
theorem pr58 : EE.prim 58 r a s = none := rfl
theorem pr60 : EE.prim 60 r a s = none := rfl
theorem pr61 : EE.prim 61 r a s = none := rfl
theorem pr62 : EE.prim 62 r a s = none := rfl
theorem pr63 : EE.prim 63 r a s = none := rfl
theorem pr66 : EE.prim 66 r a s = none := rfl
theorem pr69 : EE.prim 69 r a s = none := rfl
theorem pr70 : EE.prim 70 r a s = none := rfl
theorem pr71 : EE.prim 71 r a s = none := rfl
theorem pr72 : EE.prim 72 r a s = none := rfl
theorem pr74 : EE.prim 74 r a s = none := rfl
theorem pr75 : EE.prim 75 r a s = none := rfl
theorem pr76 : EE.prim 76 r a s = none := rfl
theorem pr77 : EE.prim 77 r a s = none := rfl
theorem pr78 : EE.prim 78 r a s = none := rfl
theorem pr80 : EE.prim 80 r a s = none := rfl
theorem pr81 : EE.prim 81 r a s = none := rfl
theorem pr82 : EE.prim 82 r a s = none := rfl
theorem pr83 : EE.prim 83 r a s = none := rfl
theorem pr84 : EE.prim 84 r a s = none := rfl
theorem pr86 : EE.prim 86 r a s = none := rfl
theorem pr87 : EE.prim 87 r a s = none := rfl
theorem pr88 : EE.prim 88 r a s = none := rfl
theorem pr89 : EE.prim 89 r a s = none := rfl
theorem pr90 : EE.prim 90 r a s = none := rfl
theorem pr91 : EE.prim 91 r a s = none := rfl
theorem pr92 : EE.prim 92 r a s = none := rfl
theorem pr93 : EE.prim 93 r a s = none := rfl
theorem pr95 : EE.prim 95 r a s = none := rfl
theorem pr96 : EE.prim 96 r a s = none := rfl
theorem pr97 : EE.prim 97 r a s = none := rfl
theorem pr98 : EE.prim 98 r a s = none := rfl
theorem pr99 : EE.prim 99 r a s = none := rfl
theorem pr100 : EE.prim 100 r a s = none := rfl
theorem pr101 : EE.prim 101 r a s = none := rfl
theorem pr102 : EE.prim 102 r a s = none := rfl
theorem pr105 : EE.prim 105 r a s = none := rfl
theorem pr106 : EE.prim 106 r a s = none := rfl
theorem pr107 : EE.prim 107 r a s = none := rfl
theorem pr108 : EE.prim 108 r a s = none := rfl
theorem pr109 : EE.prim 109 r a s = none := rfl
theorem pr110 : EE.prim 110 r a s = none := rfl
theorem pr111 : EE.prim 111 r a s = none := rfl
theorem pr115 : EE.prim 115 r a s = none := rfl
theorem pr116 : EE.prim 116 r a s = none := rfl
theorem pr117 : EE.prim 117 r a s = none := rfl
theorem pr118 : EE.prim 118 r a s = none := rfl
theorem pr119 : EE.prim 119 r a s = none := rfl
theorem pr122 : EE.prim 122 r a s = none := rfl
theorem pr123 : EE.prim 123 r a s = none := rfl
theorem pr124 : EE.prim 124 r a s = none := rfl
theorem pr125 : EE.prim 125 r a s = none := rfl
theorem pr126 : EE.prim 126 r a s = none := rfl
theorem pr128 : EE.prim 128 r a s = none := rfl
theorem pr129 : EE.prim 129 r a s = none := rfl
theorem pr130 : EE.prim 130 r a s = none := rfl
theorem pr131 : EE.prim 131 r a s = none := rfl
theorem pr132 : EE.prim 132 r a s = none := rfl
theorem pr133 : EE.prim 133 r a s = none := rfl
theorem pr134 : EE.prim 134 r a s = none := rfl
theorem pr135 : EE.prim 135 r a s = none := rfl
theorem pr136 : EE.prim 136 r a s = none := rfl
theorem pr140 : EE.prim 140 r a s = none := rfl
theorem pr141 : EE.prim 141 r a s = none := rfl
theorem pr142 : EE.prim 142 r a s = none := rfl
theorem pr144 : EE.prim 144 r a s = none := rfl
theorem pr145 : EE.prim 145 r a s = none := rfl
theorem pr146 : EE.prim 146 r a s = none := rfl
theorem pr147 : EE.prim 147 r a s = none := rfl
theorem pr148 : EE.prim 148 r a s = none := rfl
theorem pr149 : EE.prim 149 r a s = none := rfl
theorem pr200 : EE.prim 200 r a s = none := rfl
theorem pr201 : EE.prim 201 r a s = none := rfl
theorem pr202 : EE.prim 202 r a s = none := rfl
theorem pr203 : EE.prim 203 r a s = none := rfl
end Go.Den.Ch
end
section
namespace Go.Den.Ch
structure Fig where
 size : Int
 rank : Int
 eve : Int
deriving DecidableEq
structure CL where
 room : Int
 depth : Int
 figs : List Fig
structure Flt where
 rule : Int
 one : Int
 other : Int
deriving DecidableEq
def inB (x lo hi : Int) : Bool := decide (lo ≤ x) && decide (x ≤ hi)
def figB (f : Fig) : Bool := inB f.size 1 9 && (inB f.rank 1 5 && inB f.eve 0 5)
def listB (c : CL) : Bool := inB c.room 1 20 && (inB c.depth 1 5 && (decide (c.figs.length ≤ 6) && c.figs.all figB))
def packB (c : CL) (p : List Int) : Bool := decide (p.length = c.figs.length) && p.all (fun n => inB n 0 (c.depth - 1))
def layerL : List Fig → List Int → Int → List Int
 | f :: fs, x :: xs, n => if x = n then f.size :: layerL fs xs n else layerL fs xs n
 | _, _, _ => []
def layersL (p : List Int) : Int := p.foldl (fun n x => max n (x + 1)) 0
def key (i : Nat) (f : Fig) : Int := if i = 0 then -f.rank else f.eve
def brk (c : CL) (p : List Int) (i a b : Nat) : Bool := match p[a]?, p[b]?, c.figs[a]?, c.figs[b]? with
 | some x, some y, some f, some g => decide (x < y) && decide (key i f > key i g)
 | _, _, _, _ => false
def disB (c : CL) (p : List Int) (i a : Nat) : Option Flt := (List.range c.figs.length).findSome? fun b => if brk c p i a b then some ⟨3 + i, a, b⟩ else none
def disA (c : CL) (p : List Int) (i : Nat) : Option Flt := (List.range c.figs.length).findSome? fun a => disB c p i a
def disorder (c : CL) (p : List Int) : Option Flt := (List.range 2).findSome? fun i => disA c p i
def fullL (c : CL) (p : List Int) : Option Flt := (List.range c.depth.toNat).findSome? fun (n : Nat) => if (layerL c.figs p n).sum > c.room then some ⟨1, n, 0⟩ else none
def gapL (c : CL) (p : List Int) : Option Flt := (List.range (layersL p).toNat).findSome? fun (n : Nat) => if (layerL c.figs p n).length = 0 then some ⟨2, n, 0⟩ else none
def fault (c : CL) (p : List Int) : Option Flt := (fullL c p).or ((gapL c p).or (disorder c p))
end Go.Den.Ch
end

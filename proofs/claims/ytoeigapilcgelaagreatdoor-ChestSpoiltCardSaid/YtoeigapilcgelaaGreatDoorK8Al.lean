/- Part of the proofs of laws of the package chest. Texts: ChEnv, ChPure, ChA, ChB, ChC. -/
import Derived.Test.YtoeigapilcgelaaGreatDoorK8Ak
import Derived.Test.YtoeigapilcgelaaGreatDoorK8Aj
set_option linter.unusedSimpArgs false
set_option linter.unusedVariables false
section
namespace Go.Den.Ch
def fnT (n : Nat) : Option DFunc := match n with
 | 23 => some den23
 | 24 => some den24
 | 26 => some den26
 | 27 => some den27
 | 30 => some den30
 | 31 => some den31
 | 32 => some den32
 | 33 => some den33
 | 36 => some den36
 | 39 => some den39
 | 40 => some den40
 | 41 => some den41
 | 44 => some den44
 | 49 => some den49
 | 53 => some den53
 | 54 => some den54
 | 57 => some den57
 | 58 => some den58
 | 62 => some den62
 | 63 => some den63
 | 69 => some den69
 | 70 => some den70
 | 71 => some den71
 | 72 => some den72
 | 74 => some den74
 | 75 => some den75
 | 76 => some den76
 | 77 => some den77
 | 78 => some den78
 | 80 => some den80
 | 81 => some den81
 | 82 => some den82
 | 83 => some den83
 | 84 => some den84
 | 86 => some den86
 | 87 => some den87
 | 88 => some den88
 | 89 => some den89
 | 90 => some den90
 | 91 => some den91
 | 92 => some den92
 | 93 => some den93
 | 95 => some den95
 | 96 => some den96
 | 97 => some den97
 | 98 => some den98
 | 99 => some den99
 | 100 => some den100
 | 101 => some den101
 | 102 => some den102
 | 107 => some den107
 | 108 => some den108
 | 109 => some den109
 | 110 => some den110
 | 111 => some den111
 | 115 => some den115
 | 116 => some den116
 | 117 => some den117
 | 118 => some den118
 | 119 => some den119
 | 122 => some den122
 | 123 => some den123
 | 124 => some den124
 | 125 => some den125
 | 126 => some den126
 | 128 => some den128
 | 129 => some den129
 | 130 => some den130
 | 131 => some den131
 | 132 => some den132
 | 133 => some den133
 | 134 => some den134
 | 135 => some den135
 | 136 => some den136
 | 140 => some den140
 | 141 => some den141
 | 142 => some den142
 | 144 => some den144
 | 145 => some den145
 | 146 => some den146
 | 147 => some den147
 | 148 => some den148
 | 149 => some den149
 | 200 => some den200
 | 201 => some den201
 | 202 => some den202
 | 203 => some den203
 | _ => none

def methT (t : Nat) (m : String) : Option Nat := match t with
 | 142 => if m = "kelir/chest.kind" then some 200 else if m = "kelir/chest.numbers" then some 201 else none
 | 144 => if m = "kelir/chest.kind" then some 202 else if m = "kelir/chest.numbers" then some 203 else none
 | _ => none

/-- The decimal text of a number below 100. -/
def itoaL (n : Nat) : List UInt8 := if n < 10 then [UInt8.ofNat (48 + n)] else [UInt8.ofNat (48 + n / 10),UInt8.ofNat (48 + n % 10)]
def toB (l : List UInt8) : ByteArray := ⟨l.toArray⟩
def unB (b : ByteArray) : List UInt8 := b.data.toList
/-- A list cut at each byte. -/
def splitL (b : UInt8) : List UInt8 → List UInt8 → List (List UInt8)
 | acc,[] => [acc]
 | acc,x :: xs => if x = b then acc :: splitL b [] xs else splitL b (acc ++ [x]) xs
def strs : List PV → Option (List ByteArray)
 | [] => some []
 | .str s :: r => (strs r).map (s :: ·)
 | _ => none
def encS (s : List UInt8) : List PV := [.str (toB s)]

def zeroF : PV := .agg [.int .i64 0,.int .i64 0,.int .i64 0]
def tryR (rec : Rec) (d : PV) (st : St) : Option (Option (CR × St)) := match rec.call d [] st with
 | some (.ret _,st') => some (some (.ret (.tuple [zeroF,.int .i64 0]),st'))
 | some (.panic (.iface t v),st') => match t,v with
  | 133,.agg [.int .i64 a,.int .i64 b,.int .i64 c] => some (some (.ret (.tuple [.agg [.int .i64 a,.int .i64 b,.int .i64 c],.int .i64 7]),st'))
  | 135,.agg [.str _] => some (some (.ret (.tuple [zeroF,.int .i64 4]),st'))
  | _,_ => some none
 | _ => some none
def itoaR (st : St) : List PV → Option (Option (CR × St))
 | [.int .i64 n] => if 0 ≤ n ∧ n < 100 then some (some (.ret (.str (toB (itoaL n.toNat))),st)) else some none
 | _ => some none
def joinR (st : St) : List PV → Option (Option (CR × St))
 | [.slice _ n cs,.str sep] => match strs cs with
  | some l => if n = cs.length ∧ n ≤ 1000 ∧ sep.size ≤ 1000 ∧ (l.all fun s => s.size ≤ 1000) = true then some (some (.ret (.str (toB (List.intercalate (unB sep) (l.map unB)))),st)) else some none
  | none => some none
 | _ => some none
def splitR (st : St) : List PV → Option (Option (CR × St))
 | [.str s,.str sep] => match unB sep with
  | [b] => if s.size ≤ 100000 then some (some (.ret (.slice .shared (splitL b [] (unB s)).length ((splitL b [] (unB s)).flatMap encS)),st)) else some none
  | _ => some none
 | _ => some none

def primT (g : Nat) (rec : Rec) (args : List PV) (st : St) : Option (Option (CR × St)) := match g with
 | 79 => match args with
  | [.func dg da dc] => tryR rec (.func dg da dc) st
  | _ => some none
 | 137 => itoaR st args
 | 138 => joinR st args
 | 139 => splitR st args
 | _ => none

def EE : Env := { fn := fnT,meth := methT,prim := primT }
theorem fn23 : EE.fn 23 = some den23 := rfl
theorem fn26 : EE.fn 26 = some den26 := rfl
theorem fn27 : EE.fn 27 = some den27 := rfl
theorem fn30 : EE.fn 30 = some den30 := rfl
theorem fn31 : EE.fn 31 = some den31 := rfl
theorem fn32 : EE.fn 32 = some den32 := rfl
theorem fn33 : EE.fn 33 = some den33 := rfl
theorem fn36 : EE.fn 36 = some den36 := rfl
theorem fn39 : EE.fn 39 = some den39 := rfl
theorem fn40 : EE.fn 40 = some den40 := rfl
theorem fn41 : EE.fn 41 = some den41 := rfl
theorem fn44 : EE.fn 44 = some den44 := rfl
theorem fn49 : EE.fn 49 = some den49 := rfl
theorem fn53 : EE.fn 53 = some den53 := rfl
theorem fn54 : EE.fn 54 = some den54 := rfl
theorem fn57 : EE.fn 57 = some den57 := rfl
theorem fn58 : EE.fn 58 = some den58 := rfl
theorem fn62 : EE.fn 62 = some den62 := rfl
theorem fn63 : EE.fn 63 = some den63 := rfl
theorem fn69 : EE.fn 69 = some den69 := rfl
theorem fn70 : EE.fn 70 = some den70 := rfl
theorem fn71 : EE.fn 71 = some den71 := rfl
theorem fn72 : EE.fn 72 = some den72 := rfl
theorem fn74 : EE.fn 74 = some den74 := rfl
theorem fn75 : EE.fn 75 = some den75 := rfl
theorem fn76 : EE.fn 76 = some den76 := rfl
theorem fn77 : EE.fn 77 = some den77 := rfl
theorem fn78 : EE.fn 78 = some den78 := rfl
theorem fn80 : EE.fn 80 = some den80 := rfl
theorem fn81 : EE.fn 81 = some den81 := rfl
theorem fn82 : EE.fn 82 = some den82 := rfl
theorem fn83 : EE.fn 83 = some den83 := rfl
theorem fn84 : EE.fn 84 = some den84 := rfl
theorem fn86 : EE.fn 86 = some den86 := rfl
theorem fn87 : EE.fn 87 = some den87 := rfl
theorem fn88 : EE.fn 88 = some den88 := rfl
theorem fn89 : EE.fn 89 = some den89 := rfl
theorem fn90 : EE.fn 90 = some den90 := rfl
theorem fn91 : EE.fn 91 = some den91 := rfl
theorem fn92 : EE.fn 92 = some den92 := rfl
theorem fn93 : EE.fn 93 = some den93 := rfl
theorem fn95 : EE.fn 95 = some den95 := rfl
theorem fn96 : EE.fn 96 = some den96 := rfl
theorem fn97 : EE.fn 97 = some den97 := rfl
theorem fn98 : EE.fn 98 = some den98 := rfl
theorem fn99 : EE.fn 99 = some den99 := rfl
theorem fn100 : EE.fn 100 = some den100 := rfl
theorem fn101 : EE.fn 101 = some den101 := rfl
theorem fn102 : EE.fn 102 = some den102 := rfl
theorem fn107 : EE.fn 107 = some den107 := rfl
theorem fn108 : EE.fn 108 = some den108 := rfl
theorem fn109 : EE.fn 109 = some den109 := rfl
theorem fn110 : EE.fn 110 = some den110 := rfl
theorem fn111 : EE.fn 111 = some den111 := rfl
theorem fn115 : EE.fn 115 = some den115 := rfl
theorem fn116 : EE.fn 116 = some den116 := rfl
theorem fn117 : EE.fn 117 = some den117 := rfl
theorem fn118 : EE.fn 118 = some den118 := rfl
theorem fn119 : EE.fn 119 = some den119 := rfl
theorem fn122 : EE.fn 122 = some den122 := rfl
theorem fn123 : EE.fn 123 = some den123 := rfl
theorem fn124 : EE.fn 124 = some den124 := rfl
theorem fn125 : EE.fn 125 = some den125 := rfl
theorem fn126 : EE.fn 126 = some den126 := rfl
theorem fn128 : EE.fn 128 = some den128 := rfl
theorem fn129 : EE.fn 129 = some den129 := rfl
theorem fn130 : EE.fn 130 = some den130 := rfl
theorem fn131 : EE.fn 131 = some den131 := rfl
theorem fn132 : EE.fn 132 = some den132 := rfl
theorem fn133 : EE.fn 133 = some den133 := rfl
theorem fn134 : EE.fn 134 = some den134 := rfl
theorem fn135 : EE.fn 135 = some den135 := rfl
theorem fn136 : EE.fn 136 = some den136 := rfl
theorem fn140 : EE.fn 140 = some den140 := rfl
theorem fn141 : EE.fn 141 = some den141 := rfl
theorem fn142 : EE.fn 142 = some den142 := rfl
theorem fn144 : EE.fn 144 = some den144 := rfl
theorem fn145 : EE.fn 145 = some den145 := rfl
theorem fn146 : EE.fn 146 = some den146 := rfl
theorem fn147 : EE.fn 147 = some den147 := rfl
theorem fn148 : EE.fn 148 = some den148 := rfl
theorem fn149 : EE.fn 149 = some den149 := rfl
theorem fn200 : EE.fn 200 = some den200 := rfl
theorem fn201 : EE.fn 201 = some den201 := rfl
theorem fn202 : EE.fn 202 = some den202 := rfl
theorem fn203 : EE.fn 203 = some den203 := rfl
variable (r : Rec) (a : List PV) (s : St)
theorem pr23 : EE.prim 23 r a s = none := rfl
theorem pr26 : EE.prim 26 r a s = none := rfl
theorem pr27 : EE.prim 27 r a s = none := rfl
theorem pr30 : EE.prim 30 r a s = none := rfl
theorem pr31 : EE.prim 31 r a s = none := rfl
theorem pr32 : EE.prim 32 r a s = none := rfl
theorem pr33 : EE.prim 33 r a s = none := rfl
theorem pr36 : EE.prim 36 r a s = none := rfl
theorem pr39 : EE.prim 39 r a s = none := rfl
theorem pr40 : EE.prim 40 r a s = none := rfl
theorem pr41 : EE.prim 41 r a s = none := rfl
theorem pr44 : EE.prim 44 r a s = none := rfl
theorem pr49 : EE.prim 49 r a s = none := rfl
theorem pr53 : EE.prim 53 r a s = none := rfl
theorem pr54 : EE.prim 54 r a s = none := rfl
theorem pr57 : EE.prim 57 r a s = none := rfl
theorem pr58 : EE.prim 58 r a s = none := rfl
theorem pr62 : EE.prim 62 r a s = none := rfl
theorem pr63 : EE.prim 63 r a s = none := rfl
theorem pr69 : EE.prim 69 r a s = none := rfl
theorem pr70 : EE.prim 70 r a s = none := rfl
theorem pr71 : EE.prim 71 r a s = none := rfl
theorem pr72 : EE.prim 72 r a s = none := rfl
theorem pr74 : EE.prim 74 r a s = none := rfl
theorem pr75 : EE.prim 75 r a s = none := rfl
theorem pr76 : EE.prim 76 r a s = none := rfl
theorem pr77 : EE.prim 77 r a s = none := rfl
theorem pr78 : EE.prim 78 r a s = none := rfl
theorem pr80 : EE.prim 80 r a s = none := rfl
theorem pr81 : EE.prim 81 r a s = none := rfl
theorem pr82 : EE.prim 82 r a s = none := rfl
theorem pr83 : EE.prim 83 r a s = none := rfl
theorem pr84 : EE.prim 84 r a s = none := rfl
theorem pr86 : EE.prim 86 r a s = none := rfl
theorem pr87 : EE.prim 87 r a s = none := rfl
theorem pr88 : EE.prim 88 r a s = none := rfl
theorem pr89 : EE.prim 89 r a s = none := rfl
theorem pr90 : EE.prim 90 r a s = none := rfl
theorem pr91 : EE.prim 91 r a s = none := rfl
theorem pr92 : EE.prim 92 r a s = none := rfl
theorem pr93 : EE.prim 93 r a s = none := rfl
theorem pr95 : EE.prim 95 r a s = none := rfl
theorem pr96 : EE.prim 96 r a s = none := rfl
theorem pr97 : EE.prim 97 r a s = none := rfl
theorem pr98 : EE.prim 98 r a s = none := rfl
theorem pr99 : EE.prim 99 r a s = none := rfl
theorem pr100 : EE.prim 100 r a s = none := rfl
theorem pr101 : EE.prim 101 r a s = none := rfl
theorem pr102 : EE.prim 102 r a s = none := rfl
theorem pr107 : EE.prim 107 r a s = none := rfl
theorem pr108 : EE.prim 108 r a s = none := rfl
theorem pr109 : EE.prim 109 r a s = none := rfl
theorem pr110 : EE.prim 110 r a s = none := rfl
theorem pr111 : EE.prim 111 r a s = none := rfl
theorem pr115 : EE.prim 115 r a s = none := rfl
theorem pr116 : EE.prim 116 r a s = none := rfl
theorem pr117 : EE.prim 117 r a s = none := rfl
theorem pr118 : EE.prim 118 r a s = none := rfl
theorem pr119 : EE.prim 119 r a s = none := rfl
theorem pr122 : EE.prim 122 r a s = none := rfl
theorem pr123 : EE.prim 123 r a s = none := rfl
theorem pr124 : EE.prim 124 r a s = none := rfl
theorem pr125 : EE.prim 125 r a s = none := rfl
theorem pr126 : EE.prim 126 r a s = none := rfl
theorem pr128 : EE.prim 128 r a s = none := rfl
theorem pr129 : EE.prim 129 r a s = none := rfl
theorem pr130 : EE.prim 130 r a s = none := rfl
theorem pr131 : EE.prim 131 r a s = none := rfl
theorem pr132 : EE.prim 132 r a s = none := rfl
theorem pr133 : EE.prim 133 r a s = none := rfl
theorem pr134 : EE.prim 134 r a s = none := rfl
theorem pr135 : EE.prim 135 r a s = none := rfl
theorem pr136 : EE.prim 136 r a s = none := rfl
theorem pr140 : EE.prim 140 r a s = none := rfl
theorem pr141 : EE.prim 141 r a s = none := rfl
theorem pr142 : EE.prim 142 r a s = none := rfl
theorem pr144 : EE.prim 144 r a s = none := rfl
theorem pr145 : EE.prim 145 r a s = none := rfl
theorem pr146 : EE.prim 146 r a s = none := rfl
theorem pr147 : EE.prim 147 r a s = none := rfl
theorem pr148 : EE.prim 148 r a s = none := rfl
theorem pr149 : EE.prim 149 r a s = none := rfl
theorem pr200 : EE.prim 200 r a s = none := rfl
theorem pr201 : EE.prim 201 r a s = none := rfl
theorem pr202 : EE.prim 202 r a s = none := rfl
theorem pr203 : EE.prim 203 r a s = none := rfl
end Go.Den.Ch
end
section
namespace Go.Den.Ch
structure Fig where
 size : Int
 rank : Int
 eve : Int
deriving DecidableEq
structure CL where
 room : Int
 depth : Int
 figs : List Fig
structure Flt where
 rule : Int
 one : Int
 other : Int
deriving DecidableEq
def inB (x lo hi : Int) : Bool := decide (lo ≤ x) && decide (x ≤ hi)
def figB (f : Fig) : Bool := inB f.size 1 9 && (inB f.rank 1 5 && inB f.eve 0 5)
def listB (c : CL) : Bool := inB c.room 1 20 && (inB c.depth 1 5 && (decide (c.figs.length ≤ 6) && c.figs.all figB))
def packB (c : CL) (p : List Int) : Bool := decide (p.length = c.figs.length) && p.all (fun n => inB n 0 (c.depth - 1))
def layerL : List Fig → List Int → Int → List Int
 | f :: fs,x :: xs,n => if x = n then f.size :: layerL fs xs n else layerL fs xs n
 | _,_,_ => []
def layersL (p : List Int) : Int := p.foldl (fun n x => max n (x + 1)) 0
def key (i : Nat) (f : Fig) : Int := if i = 0 then -f.rank else f.eve
def brk (c : CL) (p : List Int) (i a b : Nat) : Bool := match p[a]?,p[b]?,c.figs[a]?,c.figs[b]? with
 | some x,some y,some f,some g => decide (x < y) && decide (key i f > key i g)
 | _,_,_,_ => false
def disB (c : CL) (p : List Int) (i a : Nat) : Option Flt := (List.range c.figs.length).findSome? fun b => if brk c p i a b then some ⟨3 + i,a,b⟩ else none
def disA (c : CL) (p : List Int) (i : Nat) : Option Flt := (List.range c.figs.length).findSome? fun a => disB c p i a
def disorder (c : CL) (p : List Int) : Option Flt := (List.range 2).findSome? fun i => disA c p i
def fullL (c : CL) (p : List Int) : Option Flt := (List.range c.depth.toNat).findSome? fun (n : Nat) => if (layerL c.figs p n).sum > c.room then some ⟨1,n,0⟩ else none
def gapL (c : CL) (p : List Int) : Option Flt := (List.range (layersL p).toNat).findSome? fun (n : Nat) => if (layerL c.figs p n).length = 0 then some ⟨2,n,0⟩ else none
def fault (c : CL) (p : List Int) : Option Flt := (fullL c p).or ((gapL c p).or (disorder c p))
end Go.Den.Ch
end
section
namespace Go.Den.Ch
abbrev iv (n : Int) : PV := .int .i64 n
abbrev encI (n : Int) : List PV := [.int .i64 n]
abbrev encF (f : Fig) : List PV := [.int .i64 f.size,.int .i64 f.rank,.int .i64 f.eve]
abbrev figPV (f : Fig) : PV := .agg (encF f)
abbrev clPV (c : CL) (F : PV) : PV := .agg [.int .i64 c.room,.int .i64 c.depth,F]
abbrev paPV (c : CL) (F P : PV) : PV := .agg [.int .i64 c.room,.int .i64 c.depth,F,P]
abbrev fltPV (f : Flt) : PV := .agg [.int .i64 f.rule,.int .i64 f.one,.int .i64 f.other]
attribute [go_sem] iv encI encF figPV clPV paPV fltPV
def inI (n : Int) : Prop := -9223372036854775808 ≤ n ∧ n < 9223372036854775808
theorem wrap_in {n : Int} (h : inI n) : IntKind.wrap .i64 n = n := by
 unfold inI at h
 simp [IntKind.wrap,IntKind.bits,IntKind.signed]
 omega
theorem c122 (x lo hi : Int) (st : St) : Cl EE (.func 122 [] []) [iv x,iv lo,iv hi] st (.ret (.bool (inB x lo hi))) st := by
 refine cl_fn (pr122 · _ _) fn122 3 rfl (by decide) (fun tm hl hg => ?_);have h0 : tg tm 0 = iv x := (hg 0 (by decide));have h1 : tg tm 1 = iv lo := (hg 1 (by decide));have h2 : tg tm 2 = iv hi := (hg 2 (by decide));clear hg
 have e : inB x lo hi = (decide (x ≥ lo) && decide (x ≤ hi)) := rfl
 rw [e]
 cases hd : decide (x ≥ lo)
 ·refine go (bw5 hl h0 h1 h2 hd) fnil ?_
  refine fnq_flat (results_one (by rw [rdRes_tmp];simp only [go_sem,hl];first | done | rfl)) (by first | exact Nat.le_refl _ | omega | (simp only [lo_push,lo_setVar];omega)) (by rfl)
 ·refine go (bw5 hl h0 h1 h2 hd) fnil ?_
  refine fnq_flat (results_one (by rw [rdRes_tmp];simp only [go_sem,hl];first | done | rfl)) (by first | exact Nat.le_refl _ | omega | (simp only [lo_push,lo_setVar];omega)) (by rfl)
theorem c146 (f : Fig) (hf : figB f = true) (st : St) : Cl EE (.func 146 [] []) [figPV f] st (.ret (iv (key 0 f))) st := by
 simp only [figB,inB,Bool.and_eq_true,decide_eq_true_eq] at hf
 have e : key 0 f = IntKind.wrap .i64 (0 - f.rank) := by
  rw [wrap_in (by unfold inI;omega)];simp [key]
 rw [e]
 refine cl_fn (pr146 · _ _) fn146 1 rfl (by decide) (fun tm hl hg => ?_);have h0 : tg tm 0 = figPV f := (hg 0 (by decide));clear hg
 refine go (bw hl h0) fnil ?_
 refine fnq_flat (results_one (by rw [rdRes_tmp];simp only [go_sem,hl];first | done | rfl)) (by first | exact Nat.le_refl _ | omega | (simp only [lo_push,lo_setVar];omega)) (by rfl)
theorem c147 (f : Fig) (st : St) : Cl EE (.func 147 [] []) [figPV f] st (.ret (iv (key 1 f))) st := by
 refine cl_fn (pr147 · _ _) fn147 1 rfl (by decide) (fun tm hl hg => ?_);have h0 : tg tm 0 = figPV f := (hg 0 (by decide));clear hg
 refine go (bw hl h0) fnil ?_
 refine fnq_flat (results_one (by rw [rdRes_tmp];simp only [go_sem,hl];first | done | rfl)) (by first | exact Nat.le_refl _ | omega | (simp only [lo_push,lo_setVar];omega)) (by rfl)
theorem c95 (f : Fig) (st : St) : Cl EE (.func 95 [] []) [figPV f] st (.ret (.bool (figB f))) st := by
 refine cl_fn (pr95 · _ _) fn95 1 rfl (by decide) (fun tm hl hg => ?_);have h0 : tg tm 0 = figPV f := (hg 0 (by decide));clear hg
 cases hA : inB f.size 1 9
 ·have e : figB f = false := by simp [figB,hA]
  rw [e]
  refine go (bw3 hl h0 hA) (bw c122 fnil) ?_
  refine fnq_flat (results_one (by rw [rdRes_tmp];simp only [go_sem,hl];first | done | rfl)) (by first | exact Nat.le_refl _ | omega | (simp only [lo_push,lo_setVar];omega)) (by rfl)
 ·cases hB : inB f.rank 1 5
  ·have e : figB f = false := by simp [figB,hB]
   rw [e]
   refine go (bw4 hl h0 hA hB) (bw c122 fnil) ?_
   refine fnq_flat (results_one (by rw [rdRes_tmp];simp only [go_sem,hl];first | done | rfl)) (by first | exact Nat.le_refl _ | omega | (simp only [lo_push,lo_setVar];omega)) (by rfl)
  ·have e : figB f = inB f.eve 0 5 := by simp [figB,hA,hB]
   rw [e]
   refine go (bw4 hl h0 hA hB) (bw c122 fnil) ?_
   refine fnq_flat (results_one (by rw [rdRes_tmp];simp only [go_sem,hl];first | done | rfl)) (by first | exact Nat.le_refl _ | omega | (simp only [lo_push,lo_setVar];omega)) (by rfl)
theorem c124 (f : Fig) (st : St) : Cl EE (.func 124 [] []) [figPV f] st (.ret (.bool (!figB f))) st := by
 refine cl_fn (pr124 · _ _) fn124 1 rfl (by decide) (fun tm hl hg => ?_);have h0 : tg tm 0 = figPV f := (hg 0 (by decide));clear hg
 refine go (bw hl h0) (bw c95 fnil) ?_
 refine fnq_flat (results_one (by rw [rdRes_tmp];simp only [go_sem,hl];first | done | rfl)) (by first | exact Nat.le_refl _ | omega | (simp only [lo_push,lo_setVar];omega)) (by rfl)
theorem c126 (c : CL) (F : PV) (hF : F.cells = [F]) (n : Int) (st : St) (b : Nat) (hb : hp st b = some (.var [iv c.room,iv c.depth,F])) (hd : inB c.depth 1 5 = true) : Cl EE (.func 126 [] [.ptr b 0]) [iv n] st (.ret (.bool (!inB n 0 (c.depth - 1)))) st := by
 refine cl_fn (pr126 · _ _) fn126 2 rfl (by decide) (fun tm hl hg => ?_);have h0 : tg tm 0 = iv n := (hg 0 (by decide));have h1 : tg tm 1 = .ptr b 0 := (hg 1 (by decide));clear hg
 simp only [inB,Bool.and_eq_true,decide_eq_true_eq] at hd
 have hw : IntKind.wrap .i64 (c.depth - 1) = c.depth - 1 := wrap_in (by unfold inI;omega)
 have hb' : hp { heap := st.heap,lo := st.heap.length } b = some (.var [iv c.room,iv c.depth,F]) := hb
 refine go (bw5 hl h0 h1 hb' hw) (bw c122 fnil) ?_
 refine fnq_flat (results_one (by rw [rdRes_tmp];simp only [go_sem,hl];first | done | rfl)) (by first | exact Nat.le_refl _ | omega | (simp only [lo_push,lo_setVar];omega)) (by rfl)
theorem c110 (F : PV) (l : List Int) (hF : SlOf 1 encI F l) (hN : l.length < 1000) (hb : ∀ k,inI (l.take k).sum) (st : St) : Cl EE (.func 110 [] []) [F] st (.ret (iv l.sum)) st := by
 refine cl_fn (pr110 · _ _) fn110 1 rfl (by decide) (fun tm hl hg => ?_);have h0 : tg tm 0 = F := (hg 0 (by decide));clear hg
 have hs := hF.slen
 refine go (bw3 hl h0 hs) fnil ?_
 refine wp_range l.length [3] (fun i vs st' => vs = [iv (l.take i).sum] ∧ st' = { heap := st.heap,lo := st.heap.length }) (by omega) (by simp only [go_sem,hl]) (by simp only [go_sem,hl]) (by simp only [go_sem,hl]) (by decide) ⟨by simp only [go_sem,hl];rfl,rfl⟩ ?_ ?_
 ·rintro i hi tm1 st1 ⟨hv,rfl⟩ hS hia
  simp only [List.map_cons,List.map_nil,List.cons.injEq,and_true] at hv
  have hl1 : tm1.length = 17 := by rw [hS.1];simp only [go_sem,hl]
  have h6 : tg tm1 6 = F := by rw [hS.2 6 (by decide)];simp only [go_sem,hl]
  refine go (bw4 hl1 h6 hia hv) fnil ?_
  refine ⟨?_,rfl⟩
  have h3 := hb (i + 1)
  rw [List.take_succ_eq_append_getElem hi,List.sum_append_int,List.sum_singleton] at h3 ⊢
  simp only [go_sem,hl1,wrap_in h3]
 ·rintro tm1 st1 ⟨hv,rfl⟩ hS
  simp only [List.map_cons,List.map_nil,List.cons.injEq,and_true] at hv
  have hl1 : tm1.length = 17 := by rw [hS.1];simp only [go_sem,hl]
  refine go (bw hl1 hv) fnil ?_
  refine fnq_flat ?_ (Nat.le_refl _) (by rfl)
  exact results_one (by rw [rdRes_tmp];simp only [go_sem,hl1,List.take_length])
def idxI {α : Type} (p : α → Bool) (l : List α) : Int := if l.any p then (l.findIdx p : Int) else -1
theorem idxI_ge {α : Type} (p : α → Bool) (l : List α) : decide (idxI p l ≥ 0) = l.any p := by
 unfold idxI
 cases l.any p <;> simp
theorem idxI_at {α : Type} {p : α → Bool} {l : List α} {i : Nat} (hi : i < l.length) (h0 : ∀ k (hk : k < i),p (l[k]'(by omega)) = false) (h : p l[i] = true) : idxI p l = i := by
 unfold idxI
 have h1 : l.any p = true := List.any_eq_true.2 ⟨l[i],List.getElem_mem hi,h⟩
 rw [if_pos h1]
 congr 1
 rw [List.findIdx_eq hi]
 exact ⟨h,fun j hj => by simpa using h0 j hj⟩
theorem idxI_no {α : Type} {p : α → Bool} {l : List α} (h0 : ∀ k (hk : k < l.length),p l[k] = false) : idxI p l = -1 := by
 unfold idxI
 rw [if_neg]
 intro h
 obtain ⟨x,hx,h1⟩ := List.any_eq_true.1 h
 obtain ⟨k,hk,rfl⟩ := List.getElem_of_mem hx
 rw [h0 k hk] at h1
 cases h1
theorem c144 (F : PV) (l : List Fig) (hF : SlOf 3 encF F l) (hN : l.length < 1000) (g : Nat) (ga gc : List PV) (p : Fig → Bool) (st : St) (hg0 : ∀ st',st'.heap = st.heap → ∀ a ∈ l,Cl EE (.func g ga gc) [figPV a] st' (.ret (.bool (p a))) st') : Cl EE (.func 144 [] []) [F,.func g ga gc] st (.ret (iv (idxI p l))) st := by
 refine cl_fn (pr144 · _ _) fn144 2 rfl (by decide) (fun tm hl hg => ?_);have h0 : tg tm 0 = F := (hg 0 (by decide));have h1 : tg tm 1 = .func g ga gc := (hg 1 (by decide));clear hg
 have hs := hF.slen
 refine go (bw4 hl h0 h1 hs) fnil ?_
 refine wp_range l.length [] (fun i vs st' => st' = { heap := st.heap,lo := st.heap.length } ∧ ∀ k (hk : k < i) (hl : k < l.length),p l[k] = false) (by omega) (by simp only [go_sem,hl]) (by simp only [go_sem,hl]) (by simp only [go_sem,hl]) (by decide) ⟨rfl,fun k hk => absurd hk (by omega)⟩ ?_ ?_
 ·rintro i hi tm1 st1 ⟨rfl,hk⟩ hS hia
  have hl1 : tm1.length = 19 := by rw [hS.1];simp only [go_sem,hl]
  have i0 : tg tm1 0 = F := by rw [hS.2 0 (by decide)];simp only [go_sem,hl,h0]
  have i1 : tg tm1 1 = .func g ga gc := by rw [hS.2 1 (by decide)];simp only [go_sem,hl,h1]
  have hb := hg0 { heap := st.heap,lo := st.heap.length } rfl l[i] (List.getElem_mem hi)
  cases hp : p l[i]
  ·rw [hp] at hb
   refine go (bw4 hl1 i0 i1 hia) (bw hb fnil) ?_
   refine ⟨rfl,fun k hk1 hk2 => ?_⟩
   by_cases hki : k = i
   ·subst hki;exact hp
   ·exact hk k (by omega) hk2
  ·rw [hp] at hb
   rw [idxI_at hi (fun k hk1 => hk k hk1 (by omega)) hp]
   refine go (bw4 hl1 i0 i1 hia) (bw hb fnil) ?_
   refine fnq_flat (results_one (by rw [rdRes_tmp];simp only [go_sem,hl1];first | done | rfl)) (by first | exact Nat.le_refl _ | omega | (simp only [lo_push,lo_setVar];omega)) (by rfl)
 ·rintro tm1 st1 ⟨rfl,hk⟩ hS
  have hl1 : tm1.length = 19 := by rw [hS.1];simp only [go_sem,hl]
  rw [idxI_no (fun k hk1 => hk k hk1 hk1)]
  refine go hl1 fnil ?_
  refine fnq_flat (results_one (by rw [rdRes_tmp];simp only [go_sem,hl1];first | done | rfl)) (by first | exact Nat.le_refl _ | omega | (simp only [lo_push,lo_setVar];omega)) (by rfl)
theorem c123 (F : PV) (l : List Fig) (hF : SlOf 3 encF F l) (hN : l.length < 1000) (g : Nat) (ga gc : List PV) (p : Fig → Bool) (st : St) (hg0 : ∀ st',st'.heap = st.heap → ∀ a ∈ l,Cl EE (.func g ga gc) [figPV a] st' (.ret (.bool (p a))) st') : Cl EE (.func 123 [] []) [F,.func g ga gc] st (.ret (.bool (l.any p))) st := by
 refine cl_fn (pr123 · _ _) fn123 2 rfl (by decide) (fun tm hl hg => ?_);have h0 : tg tm 0 = F := (hg 0 (by decide));have h1 : tg tm 1 = .func g ga gc := (hg 1 (by decide));clear hg
 rw [← idxI_ge]
 refine go (bw3 hl h0 h1) (bw (c144 F l hF hN g ga gc p ⟨st.heap,st.heap.length⟩ hg0) fnil) ?_
 refine fnq_flat (results_one (by rw [rdRes_tmp];simp only [go_sem,hl];first | done | rfl)) (by first | exact Nat.le_refl _ | omega | (simp only [lo_push,lo_setVar];omega)) (by rfl)
theorem c145 (F : PV) (l : List Int) (hF : SlOf 1 encI F l) (hN : l.length < 1000) (g : Nat) (ga gc : List PV) (p : Int → Bool) (st : St) (hg0 : ∀ st',st'.heap = st.heap → ∀ a ∈ l,Cl EE (.func g ga gc) [iv a] st' (.ret (.bool (p a))) st') : Cl EE (.func 145 [] []) [F,.func g ga gc] st (.ret (iv (idxI p l))) st := by
 refine cl_fn (pr145 · _ _) fn145 2 rfl (by decide) (fun tm hl hg => ?_);have h0 : tg tm 0 = F := (hg 0 (by decide));have h1 : tg tm 1 = .func g ga gc := (hg 1 (by decide));clear hg
 have hs := hF.slen
 refine go (bw4 hl h0 h1 hs) fnil ?_
 refine wp_range l.length [] (fun i vs st' => st' = { heap := st.heap,lo := st.heap.length } ∧ ∀ k (hk : k < i) (hl : k < l.length),p l[k] = false) (by omega) (by simp only [go_sem,hl]) (by simp only [go_sem,hl]) (by simp only [go_sem,hl]) (by decide) ⟨rfl,fun k hk => absurd hk (by omega)⟩ ?_ ?_
 ·rintro i hi tm1 st1 ⟨rfl,hk⟩ hS hia
  have hl1 : tm1.length = 19 := by rw [hS.1];simp only [go_sem,hl]
  have i0 : tg tm1 0 = F := by rw [hS.2 0 (by decide)];simp only [go_sem,hl,h0]
  have i1 : tg tm1 1 = .func g ga gc := by rw [hS.2 1 (by decide)];simp only [go_sem,hl,h1]
  have hb := hg0 { heap := st.heap,lo := st.heap.length } rfl l[i] (List.getElem_mem hi)
  cases hp : p l[i]
  ·rw [hp] at hb
   refine go (bw4 hl1 i0 i1 hia) (bw hb fnil) ?_
   refine ⟨rfl,fun k hk1 hk2 => ?_⟩
   by_cases hki : k = i
   ·subst hki;exact hp
   ·exact hk k (by omega) hk2
  ·rw [hp] at hb
   rw [idxI_at hi (fun k hk1 => hk k hk1 (by omega)) hp]
   refine go (bw4 hl1 i0 i1 hia) (bw hb fnil) ?_
   refine fnq_flat (results_one (by rw [rdRes_tmp];simp only [go_sem,hl1];first | done | rfl)) (by first | exact Nat.le_refl _ | omega | (simp only [lo_push,lo_setVar];omega)) (by rfl)
 ·rintro tm1 st1 ⟨rfl,hk⟩ hS
  have hl1 : tm1.length = 19 := by rw [hS.1];simp only [go_sem,hl]
  rw [idxI_no (fun k hk1 => hk k hk1 hk1)]
  refine go hl1 fnil ?_
  refine fnq_flat (results_one (by rw [rdRes_tmp];simp only [go_sem,hl1];first | done | rfl)) (by first | exact Nat.le_refl _ | omega | (simp only [lo_push,lo_setVar];omega)) (by rfl)
theorem c125 (F : PV) (l : List Int) (hF : SlOf 1 encI F l) (hN : l.length < 1000) (g : Nat) (ga gc : List PV) (p : Int → Bool) (st : St) (hg0 : ∀ st',st'.heap = st.heap → ∀ a ∈ l,Cl EE (.func g ga gc) [iv a] st' (.ret (.bool (p a))) st') : Cl EE (.func 125 [] []) [F,.func g ga gc] st (.ret (.bool (l.any p))) st := by
 refine cl_fn (pr125 · _ _) fn125 2 rfl (by decide) (fun tm hl hg => ?_);have h0 : tg tm 0 = F := (hg 0 (by decide));have h1 : tg tm 1 = .func g ga gc := (hg 1 (by decide));clear hg
 rw [← idxI_ge]
 refine go (bw3 hl h0 h1) (bw (c145 F l hF hN g ga gc p ⟨st.heap,st.heap.length⟩ hg0) fnil) ?_
 refine fnq_flat (results_one (by rw [rdRes_tmp];simp only [go_sem,hl];first | done | rfl)) (by first | exact Nat.le_refl _ | omega | (simp only [lo_push,lo_setVar];omega)) (by rfl)
theorem c77 (c : CL) (F : PV) (hF : SlOf 3 encF F c.figs) (st : St) : Cl EE (.func 77 [] []) [clPV c F] st (.ret (.bool (listB c))) st := by
 have hs := hF.slen
 have hc := hF.cells
 refine cl_fn (pr77 · _ _) fn77 1 rfl (by decide) (fun tm hl hg => ?_);have h0 : tg tm 0 = clPV c F := (hg 0 (by decide));clear hg
 cases hA : inB c.room 1 20
 ·have e : listB c = false := by simp [listB,hA]
  rw [e]
  refine go (bw3 hl h0 hA) (bw c122 fnil) ?_
  refine fnq_flat (results_one (by rw [rdRes_tmp];simp only [go_sem,hl];first | done | rfl)) (by first | exact Nat.le_refl _ | omega | (simp only [lo_push,lo_setVar];omega)) (by rfl)
 ·cases hB : inB c.depth 1 5
  ·have e : listB c = false := by simp [listB,hB]
   rw [e]
   refine go (bw4 hl h0 hA hB) (bw c122 fnil) ?_
   refine fnq_flat (results_one (by rw [rdRes_tmp];simp only [go_sem,hl];first | done | rfl)) (by first | exact Nat.le_refl _ | omega | (simp only [lo_push,lo_setVar];omega)) (by rfl)
  ·by_cases hC : c.figs.length ≤ 6
   ·have e : listB c = !(c.figs.any fun f => !figB f) := by
     simp [listB,hA,hB,hC,List.all_eq_not_any_not]
    have hC' : decide ((c.figs.length : Int) ≤ 6) = true := by simp;omega
    rw [e]
    refine go (bw6 hl h0 hA hB hC' hs) (bw3 c122 (fun st => c123 F c.figs hF (by omega) 124 [] [] (fun f => !figB f) st (fun st' _ a _ => c124 a st')) fnil) ?_
    refine fnq_flat (results_one (by rw [rdRes_tmp];simp only [go_sem,hl];first | done | rfl)) (by first | exact Nat.le_refl _ | omega | (simp only [lo_push,lo_setVar];omega)) (by rfl)
   ·have e : listB c = false := by simp [listB,hC]
    have hC' : decide ((c.figs.length : Int) ≤ 6) = false := by simp;omega
    rw [e]
    refine go (bw6 hl h0 hA hB hC' hs) (bw c122 fnil) ?_
    refine fnq_flat (results_one (by rw [rdRes_tmp];simp only [go_sem,hl];first | done | rfl)) (by first | exact Nat.le_refl _ | omega | (simp only [lo_push,lo_setVar];omega)) (by rfl)
theorem c78 (c : CL) (F P : PV) (p : List Int) (hF : SlOf 3 encF F c.figs) (hP : SlOf 1 encI P p) (hc : listB c = true) (st : St) : Cl EE (.func 78 [] []) [clPV c F,P] st (.ret (.bool (packB c p))) st := by
 have hs := hF.slen
 have hs2 := hP.slen
 have hcl := hF.cells
 simp only [listB,Bool.and_eq_true,decide_eq_true_eq] at hc
 refine cl_fn (pr78 · _ _) fn78 2 rfl (by decide) (fun tm hl hg => ?_);have h0 : tg tm 0 = clPV c F := (hg 0 (by decide));have h1 : tg tm 1 = P := (hg 1 (by decide));clear hg
 by_cases hA : p.length = c.figs.length
 ·have e : packB c p = !(p.any fun n => !inB n 0 (c.depth - 1)) := by simp [packB,hA,List.all_eq_not_any_not]
  have hA' : ((p.length : Int) == (c.figs.length : Int)) = true := by simp;omega
  rw [e]
  repeat (first | apply wp_seq | apply wp_region_ops | apply wp_dregion_ops | apply wp_block_seq | apply wp_block_region | apply wp_block_cond | apply wp_block_dregion | apply wp_scope | apply wp_ret | apply wp_skip | apply wp_exit | apply andThen_normal | apply andThen_ret | apply andThen_exit | apply andThen_panic | apply inBlock_panic | apply inBlock_normal | apply inBlock_ret | apply inBlock_same | (apply inBlock_other (by decide)) | apply wops_nil | (refine wops_one' (by simp only [go_sem,hl,h0,h1,hA',hs,hs2];first | done | rfl) (by with_reducible rfl) (fun rec => by simp only [go_sem,hl,h0,h1,hA',hs,hs2];with_reducible rfl) (by with_reducible rfl) ?_) | (refine wops_index (by simp only [go_sem,hl,h0,h1,hA',hs,hs2];first | done | rfl) (by with_reducible rfl) (by simp only [go_sem,hl,h0,h1,hA',hs,hs2];first | done | rfl) (by assumption) (by simp only [go_sem,hl,h0,h1,hA',hs,hs2];first | done | rfl) (by first | assumption | omega) ?_) | (refine wops_indexI (by simp only [go_sem,hl,h0,h1,hA',hs,hs2];first | done | rfl) (by with_reducible rfl) (by simp only [go_sem,hl,h0,h1,hA',hs,hs2];first | done | rfl) (by assumption) (by simp only [go_sem,hl,h0,h1,hA',hs,hs2];first | done | rfl) (by first | assumption | omega) (by first | assumption | omega) ?_) | (refine wopsD_pure' (by first | omega | (simp only [lo_push,lo_setVar,len_push,len_setVar];omega)) (by simp only [go_sem,hl,h0,h1,hA',hs,hs2];first | done | rfl) (by with_reducible rfl) (fun rec st1 he hh => by simp only [go_sem,hl,h0,h1,hA',hs,hs2,he,hh];with_reducible rfl) ?_) | (refine wopsD_push (by first | omega | (simp only [lo_push,lo_setVar,len_push,len_setVar];omega)) (by simp only [go_sem,hl,h0,h1,hA',hs,hs2];first | done | rfl) (by with_reducible rfl) (fun rec st1 he => by simp only [go_sem,hl,h0,h1,hA',hs,hs2,he];with_reducible rfl) ?_) | (refine wopsD_index (by first | omega | (simp only [lo_push,lo_setVar,len_push,len_setVar];omega)) (by simp only [go_sem,hl,h0,h1,hA',hs,hs2];first | done | rfl) (by with_reducible rfl) (by simp only [go_sem,hl,h0,h1,hA',hs,hs2];first | done | rfl) (by assumption) (by simp only [go_sem,hl,h0,h1,hA',hs,hs2];first | done | rfl) (by first | assumption | omega) ?_) | (refine wopsD_indexI (by first | omega | (simp only [lo_push,lo_setVar,len_push,len_setVar];omega)) (by simp only [go_sem,hl,h0,h1,hA',hs,hs2];first | done | rfl) (by with_reducible rfl) (by simp only [go_sem,hl,h0,h1,hA',hs,hs2];first | done | rfl) (by assumption) (by simp only [go_sem,hl,h0,h1,hA',hs,hs2];first | done | rfl) (by first | assumption | omega) (by first | assumption | omega) ?_) | (refine wopsD_skip' (by simp only [go_sem,hl,h0,h1,hA',hs,hs2];first | done | rfl) (by with_reducible rfl) ?_) | (apply wopsD_nil;refine ⟨footOk_quiet (by rfl),?_⟩) | (refine wops_panic (by simp only [go_sem,hl,h0,h1,hA',hs,hs2];first | done | rfl) (by with_reducible rfl) (by simp only [go_sem,hl,h0,h1,hA',hs,hs2];first | done | rfl) ?_) | (refine wops_skip' (by simp only [go_sem,hl,h0,h1,hA',hs,hs2];first | done | rfl) (by with_reducible rfl) ?_) | (refine wp_condT (by simp only [go_sem,hl,h0,h1,hA',hs,hs2];first | done | rfl) ?_) | (refine wp_condF (by simp only [go_sem,hl,h0,h1,hA',hs,hs2];first | done | rfl) ?_) | (refine wopsD_call (by first | omega | (simp only [lo_push,lo_setVar,len_push,len_setVar];omega)) (by simp only [go_sem,hl,h0,h1,hA',hs,hs2];first | done | rfl) (by with_reducible rfl) (by simp only [go_sem,hl,h0,h1,hA',hs,hs2];first | done | rfl) (fun st1 he => by simp only [go_sem,hl,h0,h1,hA',hs,hs2];first | exact c125 P p hP (by omega) 126 [] _ (fun n => !inB n 0 (c.depth - 1)) _ (fun st' he a _ => c126 c F hcl a st' _ (by simp [hp,he,St.push]) hc.2.1)) ?_) | (refine wops_call' (by simp only [go_sem,hl,h0,h1,hA',hs,hs2];first | done | rfl) (by with_reducible rfl) (by simp only [go_sem,hl,h0,h1,hA',hs,hs2];first | done | rfl) (by simp only [go_sem,hl,h0,h1,hA',hs,hs2];first | exact c125 P p hP (by omega) 126 [] _ (fun n => !inB n 0 (c.depth - 1)) _ (fun st' he a _ => c126 c F hcl a st' _ (by simp [hp,he,St.push]) hc.2.1)) ?_))
  refine fnq_flat (results_one (by rw [rdRes_tmp];simp only [go_sem,hl];first | done | rfl)) (by first | exact Nat.le_refl _ | omega | (simp only [lo_push,lo_setVar];omega)) (by rfl)
 ·have e : packB c p = false := by simp [packB,hA]
  have hA' : ((p.length : Int) == (c.figs.length : Int)) = false := by simp;omega
  rw [e]
  refine go (bw6 hl h0 h1 hA' hs hs2) fnil ?_
  refine fnq_flat (results_one (by rw [rdRes_tmp];simp only [go_sem,hl];first | done | rfl)) (by first | exact Nat.le_refl _ | omega | (simp only [lo_push,lo_setVar];omega)) (by rfl)
end Go.Den.Ch
end
section
namespace Go.Den.Ch
theorem layersL_take {p : List Int} {i : Nat} (h : i < p.length) : layersL (p.take (i + 1)) = max (layersL (p.take i)) (p[i] + 1) := by
 rw [List.take_succ_eq_append_getElem h,layersL,List.foldl_append];rfl
theorem layersL_bound {p : List Int} {d : Int} (hd : 0 ≤ d) (h : ∀ x ∈ p,x < d) : layersL p ≤ d := by
 unfold layersL
 have : ∀ (p : List Int) (a : Int),(∀ x ∈ p,x < d) → a ≤ d → p.foldl (fun n x => max n (x + 1)) a ≤ d := by
  intro p
  induction p with
  | nil => intro a _ h;exact h
  | cons x p ih =>
   intro a h ha
   refine ih _ (fun y hy => h y (by simp [hy])) ?_
   have := h x (by simp)
   show max a (x + 1) ≤ d
   omega
 exact this p 0 h hd
theorem layersL_nonneg (p : List Int) : 0 ≤ layersL p := by
 unfold layersL
 have : ∀ (p : List Int) (a : Int),0 ≤ a → 0 ≤ p.foldl (fun n x => max n (x + 1)) a := by
  intro p
  induction p with
  | nil => intro a h;exact h
  | cons x p ih => intro a ha;exact ih _ (by show 0 ≤ max a (x + 1);omega)
 exact this p 0 (Int.le_refl _)
theorem mm2 (a b : Int) : mm true (.int .i64 a) [.int .i64 b] = some (.int .i64 (max a b)) := by
 simp only [mm,if_true]
 rw [Int.max_def]
 congr 2
 by_cases h : b > a
 ·rw [if_pos h,if_pos (by omega)]
 ·rw [if_neg h];split <;> omega
theorem mm2' (a b : Int) : mm false (.int .i64 a) [.int .i64 b] = some (.int .i64 (min a b)) := by
 simp only [mm,Bool.false_eq_true,if_false]
 rw [Int.min_def]
 congr 2
 by_cases h : b < a
 ·rw [if_pos h,if_neg (by omega)]
 ·rw [if_neg h];split <;> omega
theorem c84 (c : CL) (F P : PV) (p : List Int) (hF : F.cells = [F]) (hP : SlOf 1 encI P p) (hN : p.length < 1000) (hb : ∀ x ∈ p,inI (x + 1)) (st : St) : Cl EE (.func 84 [] []) [paPV c F P] st (.ret (iv (layersL p))) st := by
 have hs := hP.slen
 refine cl_fn (pr84 · _ _) fn84 1 rfl (by decide) (fun tm hl hg => ?_);have h0 : tg tm 0 = paPV c F P := (hg 0 (by decide));clear hg
 refine go (bw3 hl h0 hs) fnil ?_
 refine wp_range p.length [3] (fun i vs st' => vs = [iv (layersL (p.take i))] ∧ st.heap.length ≤ st'.lo) (by omega) (by simp only [go_sem,hl]) (by simp only [go_sem,hl]) (by simp only [go_sem,hl]) (by decide) ⟨by simp only [go_sem,hl];rfl,by simp [lo_push]⟩ ?_ ?_
 ·rintro i hi tm1 st1 ⟨hv,hlo⟩ hS hia
  simp only [List.map_cons,List.map_nil,List.cons.injEq,and_true] at hv
  have hl1 : tm1.length = 19 := by rw [hS.1];simp only [go_sem,hl]
  have i7 : tg tm1 7 = P := by rw [hS.2 7 (by decide)];simp only [go_sem,hl]
  have hw : IntKind.wrap .i64 (p[i] + 1) = p[i] + 1 := wrap_in (hb _ (List.getElem_mem hi))
  refine go (bw6 hl1 i7 hia hv hw @mm2) fnil ?_
  rw [layersL_take hi]
  refine ⟨?_,hlo⟩
  simp only [go_sem,hl1]
 ·rintro tm1 st1 ⟨hv,hlo⟩ hS
  simp only [List.map_cons,List.map_nil,List.cons.injEq,and_true,List.take_length] at hv
  have hl1 : tm1.length = 19 := by rw [hS.1];simp only [go_sem,hl]
  refine go (bw hl1 hv) fnil ?_
  refine fnq_flat (results_one (by rw [rdRes_tmp];simp only [go_sem,hl1])) hlo (by rfl)
theorem encI_map (l : List Int) : l.flatMap encI = l.map (PV.int .i64) := by
 induction l with
 | nil => rfl
 | cons a l ih => simp [ih]
theorem layerL_take {fs : List Fig} {p : List Int} {n : Int} {i : Nat} (h : i < fs.length) (h' : i < p.length) : layerL (fs.take (i + 1)) (p.take (i + 1)) n = layerL (fs.take i) (p.take i) n ++ (if p[i] = n then [fs[i].size] else []) := by
 induction i generalizing fs p with
 | zero =>
  match fs,p,h,h' with
  | f :: fs,x :: p,_,_ => simp [layerL]
 | succ i ih =>
  match fs,p,h,h' with
  | f :: fs,x :: p,h,h' =>
   have := ih (fs := fs) (p := p) (by simpa using h) (by simpa using h')
   simp only [List.take_succ_cons,layerL,List.getElem_cons_succ,this]
   split <;> simp
theorem layerL_len : ∀ (fs : List Fig) (p : List Int) (n : Int) (i : Nat),fs.length ≤ i → (layerL fs p n).length ≤ i
 | [],p,n,i,h => by simp [layerL]
 | f :: fs,[],n,i,h => by simp [layerL]
 | f :: fs,x :: p,n,i,h => by
  have := layerL_len fs p n (i - 1) (by simp at h;omega)
  simp only [layerL]
  simp at h
  split <;> (try simp only [List.length_cons]) <;> omega
theorem c111 (c : CL) (F P : PV) (p : List Int) (n : Int) (hF : SlOf 3 encF F c.figs) (hP : SlOf 1 encI P p) (hN : c.figs.length < 1000) (hpl : p.length = c.figs.length) (st : St) : ClR EE (.func 111 [] []) [paPV c F P,iv n] st (RetS st 1 (layerL c.figs p n).length ((layerL c.figs p n).flatMap encI)) := by
 have hs := hF.slen
 have hFc := hF.cells
 have hPc := hP.cells
 refine clr_fn (pr111 · _ _) fn111 2 rfl (by decide) (fun tm hl hg => ?_);have h0 : tg tm 0 = paPV c F P := (hg 0 (by decide));have h1 : tg tm 1 = iv n := (hg 1 (by decide));clear hg
 refine go (bw4 hl h0 h1 hs) fnil ?_
 refine wp_range c.figs.length [5] (fun i vs st' => ∃ v,vs = [v] ∧ OwnS st.heap.length st' 1 v (layerL (c.figs.take i) (p.take i) n).length ((layerL (c.figs.take i) (p.take i) n).flatMap encI) ∧ st.heap.length ≤ st'.lo ∧ hp st' st.heap.length = some (.var [iv c.room,iv c.depth,F,P])) (by omega) (by simp only [go_sem,hl]) (by simp only [go_sem,hl]) (by simp only [go_sem,hl]) (by decide) ⟨_,by simp only [go_sem,hl],.nil,by simp [lo_push],by simp only [go_sem,hl]⟩ ?_ ?_
 ·rintro i hi tm1 st1 ⟨v,hv,hO,hlo,hb⟩ hS hia
  simp only [List.map_cons,List.map_nil,List.cons.injEq,and_true] at hv
  have hl1 : tm1.length = 31 := by rw [hS.1];simp only [go_sem,hl]
  have i1 : tg tm1 1 = iv n := by rw [hS.2 1 (by decide)];simp only [go_sem,hl,h1]
  have i2 : tg tm1 2 = .ptr st.heap.length 0 := by rw [hS.2 2 (by decide)];simp only [go_sem,hl]
  have i10 : tg tm1 10 = F := by rw [hS.2 10 (by decide)];simp only [go_sem,hl]
  have hlt := hp_lt hb
  refine go (bw9 hl1 i1 i2 i10 hia hv hb (neL hlt) (neA hlt)) fnil ?_
  rw [layerL_take hi (by omega)]
  have hll : (layerL (List.take i c.figs) (List.take i p) n).length ≤ i := layerL_len _ _ _ i (by simp;omega)
  by_cases hx : p[i] = n
  ·have hd : (p[i] == n) = true := by simp [hx]
   refine go (bw3 hl1 hv hd) fnil ?_
   refine wops_append rfl rfl (by simp only [go_sem,hl1,hv];first | done | rfl) (by simp only [go_sem,hl1,hv];first | done | rfl) ((hO.push.setVar (by simp [hp_push])).push) rfl (by first | omega | (simp only [len_push,len_setVar];omega)) (by rfl) (by rfl) (by simp only [maxList];omega) ?_
   intro v' st2 hO' hFr hk
   refine go hl1 fnil ?_
   refine ⟨v',by simp only [go_sem,hl1],by simpa [hx,share_int] using hO',?_,hk _ _ (by simp only [go_sem,hb,neL hlt,neA hlt]) (by simp)⟩
   have := hFr.lo
   simp only [lo_push,lo_setVar] at this
   omega
  ·have hd : (p[i] == n) = false := by simp [hx]
   refine go (bw3 hl1 hv hd) fnil ?_
   refine ⟨v,by simp only [go_sem,hl1,hv],?_,?_,by simp only [go_sem,hb,neL hlt,neA hlt]⟩
   ·simpa [hx] using hO.push.setVar (by simp [hp_push])
   ·simp only [lo_push,lo_setVar];omega
 ·rintro tm1 st1 ⟨v,hv,hO,hlo,hb⟩ hS
  simp only [List.map_cons,List.map_nil,List.cons.injEq,and_true,List.take_length] at hv
  rw [List.take_length,← hpl,List.take_length] at hO
  have hl1 : tm1.length = 31 := by rw [hS.1];simp only [go_sem,hl]
  refine go (bw hl1 hv) fnil ?_
  exact fnr_ret (results_one (by rw [rdRes_tmp];simp only [go_sem,hl1])) (hO.finish hlo (fun m c hc => by simp only [List.mem_flatMap,List.mem_singleton] at hc;obtain ⟨a,_,rfl⟩ := hc;rfl))
theorem encI_low (l : List Int) (m : Nat) (c : PV) (hc : c ∈ l.flatMap encI) : PV.low m c = true := by
 simp only [List.mem_flatMap,List.mem_singleton] at hc
 obtain ⟨a,_,rfl⟩ := hc
 rfl
theorem slI {st st' : St} {l : List Int} {v : PV} (h : RetS st 1 l.length (l.flatMap encI) v st') : SlOf 1 encI v l := SlOf.of_sl h.sl rfl rfl (fun _ => rfl)
end Go.Den.Ch
end
section
namespace Go.Den.Ch
theorem range_some {β : Type} {f : Nat → Option β} {n i : Nat} {b : β} (hi : i < n) (h0 : ∀ k,k < i → f k = none) (h : f i = some b) : (List.range n).findSome? f = some b := by
 induction n with
 | zero => omega
 | succ n ih =>
  rw [List.range_succ,List.findSome?_append]
  by_cases hn : i < n
  ·rw [ih hn];rfl
  ·have : i = n := by omega
   subst this
   have : (List.range i).findSome? f = none := by
    rw [List.findSome?_eq_none_iff]
    intro x hx
    exact h0 x (by simpa using hx)
   rw [this]
   simp [h]
theorem range_none {β : Type} {f : Nat → Option β} {n : Nat} (h0 : ∀ k,k < n → f k = none) : (List.range n).findSome? f = none := by
 rw [List.findSome?_eq_none_iff]
 intro x hx
 exact h0 x (by simpa using hx)
def fltO : Option Flt → PV
 | some f => fltPV f
 | none => zeroF
theorem fltO_some (f : Flt) : fltO (some f) = fltPV f := rfl
theorem fltO_none : fltO none = zeroF := rfl
theorem zeroF_e : zeroF = .agg [.int .i64 0,.int .i64 0,.int .i64 0] := rfl
theorem brk_at {c : CL} {p : List Int} {i a b : Nat} (ha : a < c.figs.length) (hb : b < c.figs.length) (hpl : p.length = c.figs.length) : brk c p i a b = (decide (p[a] < p[b]) && decide (key i c.figs[a] > key i c.figs[b])) := by
 unfold brk
 rw [List.getElem?_eq_getElem (by omega),List.getElem?_eq_getElem (by omega),List.getElem?_eq_getElem ha,List.getElem?_eq_getElem hb]
theorem ck (i : Nat) (hi : i < 2) (f : Fig) (hf : figB f = true) (st : St) : Cl EE (.func (146 + i) [] []) [figPV f] st (.ret (iv (key i f))) st := by
 match i,hi with
 | 0,_ => exact c146 f hf st
 | 1,_ => exact c147 f st
set_option maxHeartbeats 4000000 in
theorem c131 (c : CL) (F P : PV) (p : List Int) (hF : SlOf 3 encF F c.figs) (hP : SlOf 1 encI P p) (hN : c.figs.length < 1000) (hpl : p.length = c.figs.length) (hfb : ∀ f ∈ c.figs,figB f = true) (st : St) : Cl EE (.func 131 [] []) [paPV c F P] st (.ret (.tuple [fltO (disorder c p),.bool (disorder c p).isSome])) st := by
 have hs := hF.slen
 have hFc := hF.cells
 have hPc := hP.cells
 refine cl_fn (pr131 · _ _) fn131 1 rfl (by decide) (fun tm hl hg => ?_);have h0 : tg tm 0 = paPV c F P := (hg 0 (by decide));clear hg
 refine go (bw hl h0) fnil ?_
 refine wp_range 2 [] (fun i vs st' => (∀ k,k < i → disA c p k = none) ∧ st.heap.length ≤ st'.lo ∧ st'.lo ≤ st'.heap.length ∧ hp st' st.heap.length = some (.var [iv c.room,iv c.depth,F,P]) ∧ hp st' (st.heap.length + 1) = some (.var [iv 0,iv 0,iv 0])) (by omega) (by simp only [go_sem,hl]) (by rfl) (by simp only [go_sem,hl]) (by decide) ⟨fun k hk => absurd hk (by omega),by simp [lo_push],by simp [lo_push,len_push];omega,by simp only [go_sem,hl],by simp only [go_sem,hl]⟩ ?_ ?_
 ·rintro i hi tm1 st1 ⟨hno,hlo,hwf,hb,hr⟩ hS hia
  have hl1 : tm1.length = 64 := by rw [hS.1];simp only [go_sem,hl]
  have i1 : tg tm1 1 = .ptr st.heap.length 0 := by rw [hS.2 1 (by decide)];simp only [go_sem,hl]
  have i2 : tg tm1 2 = .ptr (st.heap.length + 1) 0 := by rw [hS.2 2 (by decide)];simp only [go_sem,hl]
  have i10 : tg tm1 10 = .agg [.func 146 [] [],.func 147 [] []] := by rw [hS.2 10 (by decide)];simp only [go_sem,hl]
  clear hS
  have hx : ∀ (rec : Rec) tm st,tg tm 10 = .agg [.func 146 [] [],.func 147 [] []] → tg tm 11 = iv i → stepOp EE rec tm st (.indexArr false 2 1 (.t 10) (.t 11)) = some (.val (.func (146 + i) [] []) st) := by
   intro rec tm st h10 h11
   match i,hi with
   | 0,_ => simp only [go_sem,op_indexArr,ev_t,h10,h11];rfl
   | 1,_ => simp only [go_sem,op_indexArr,ev_t,h10,h11];rfl
  refine go (bw4 hl1 i1 i2 hia) fnil ?_
  refine wops_one (v := .func (146 + i) [] []) rfl (fun rec => hx rec _ _ (by simp only [go_sem,hl1,i10]) (by simp only [go_sem,hl1,hia])) ?_
  refine go (bw7 hl1 i1 i2 hia hb hr hs) fnil ?_
  refine wp_range c.figs.length [] (fun a vs st' => (∀ k,k < a → disB c p i k = none) ∧ st.heap.length ≤ st'.lo ∧ st'.lo ≤ st'.heap.length ∧ hp st' st.heap.length = some (.var [iv c.room,iv c.depth,F,P]) ∧ hp st' (st.heap.length + 1) = some (.var [iv 0,iv 0,iv 0])) (by omega) (by simp only [go_sem,hl1]) (by simp only [go_sem,hl1]) (by simp only [go_sem,hl1]) (by decide) ⟨fun k hk => absurd hk (by omega),hlo,hwf,hb,hr⟩ ?_ ?_
  ·clear hb hr hlo hwf
   rintro a ha tm2 st2 ⟨hno2,hlo,hwf,hb,hr⟩ hS ha2
   have hl2 : tm2.length = 64 := (by rw [hS.1];simp only [put_len,hl1]);have j1 : tg tm2 1 = .ptr st.heap.length 0 := (by rw [hS.2 1 (by decide)];simp only [go_sem,hl1,i1,i2]);have j2 : tg tm2 2 = .ptr (st.heap.length + 1) 0 := (by rw [hS.2 2 (by decide)];simp only [go_sem,hl1,i1,i2]);have j4 : tg tm2 4 = iv i := (by rw [hS.2 4 (by decide)];simp only [go_sem,hl1,i1,i2]);have j5 : tg tm2 5 = .func (146 + i) [] [] := (by rw [hS.2 5 (by decide)];simp only [go_sem,hl1,i1,i2]);have j17 : tg tm2 17 = F := (by rw [hS.2 17 (by decide)];simp only [go_sem,hl1,i1,i2]);clear hS
   have lb := hp_lt hb
   have lr := hp_lt hr
   refine go (bw18 hl2 j1 j2 j4 j5 j17 ha2 hb hr hs (neL lb) (neA lb) (ltL lb) (ltA lb) (neL lr) (neA lr) (ltL lr) (ltA lr)) fnil ?_
   refine wp_range c.figs.length [] (fun b vs st' => (∀ k,k < b → brk c p i a k = false) ∧ st.heap.length ≤ st'.lo ∧ st'.lo ≤ st'.heap.length ∧ hp st' st.heap.length = some (.var [iv c.room,iv c.depth,F,P]) ∧ hp st' (st.heap.length + 1) = some (.var [iv 0,iv 0,iv 0]) ∧ hp st' st2.heap.length = some (.var (encF c.figs[a]))) (by omega) (by simp only [go_sem,hl2]) (by simp only [go_sem,hl2]) (by simp only [go_sem,hl2]) (by decide) ⟨fun k hk => absurd hk (by omega),by simp only [lo_push,lo_setVar];omega,by simp only [lo_push,lo_setVar,len_push,len_setVar];omega,by simp only [go_sem,hb,neL lb,neA lb,ltL lb,ltA lb],by simp only [go_sem,hr,neL lr,neA lr,ltL lr,ltA lr],by simp only [go_sem]⟩ ?_ ?_
   ·clear hb hr hlo hwf
    rintro b hb3 tm3 st3 ⟨hno3,hlo,hwf,hb,hr,hq⟩ hS hb2
    have hl3 : tm3.length = 64 := (by rw [hS.1];simp only [put_len,hl2]);have k1 : tg tm3 1 = .ptr st.heap.length 0 := (by rw [hS.2 1 (by decide)];simp only [go_sem,hl2,j1,j2,j4,j5]);have k2 : tg tm3 2 = .ptr (st.heap.length + 1) 0 := (by rw [hS.2 2 (by decide)];simp only [go_sem,hl2,j1,j2,j4,j5]);have k4 : tg tm3 4 = iv i := (by rw [hS.2 4 (by decide)];simp only [go_sem,hl2,j1,j2,j4,j5]);have k5 : tg tm3 5 = .func (146 + i) [] [] := (by rw [hS.2 5 (by decide)];simp only [go_sem,hl2,j1,j2,j4,j5]);have k6 : tg tm3 6 = iv a := (by rw [hS.2 6 (by decide)];simp only [go_sem,hl2,j1,j2,j4,j5]);have k7 : tg tm3 7 = .ptr st2.heap.length 0 := (by rw [hS.2 7 (by decide)];simp only [go_sem,hl2,j1,j2,j4,j5]);have k26 : tg tm3 26 = F := (by rw [hS.2 26 (by decide)];simp only [go_sem,hl2,j1,j2,j4,j5]);clear hS
    have lb3 := hp_lt hb
    have lr3 := hp_lt hr
    have lq3 := hp_lt hq
    have hbrk := brk_at (i := i) ha hb3 hpl
    have hcx := hfb _ (List.getElem_mem ha)
    have hcy := hfb _ (List.getElem_mem hb3)
    cases hd : decide (p[a] < p[b])
    ·rw [hd,Bool.false_and] at hbrk
     refine go (bw25 hl3 k1 k2 k4 k5 k6 k7 k26 hb2 hb hr hs (neL lb3) (neA lb3) (ltL lb3) (ltA lb3) (neL lr3) (neA lr3) (ltL lr3) (ltA lr3) (neL lq3) (neA lq3) (ltL lq3) (ltA lq3) hd) fnil ?_
     refine ⟨fun k hk => ?_,by simp only [lo_push,lo_setVar];omega,by simp only [lo_push,lo_setVar,len_push,len_setVar];omega,by simp only [go_sem,hb,neL lb3,neA lb3,ltL lb3,ltA lb3],by simp only [go_sem,hr,neL lr3,neA lr3,ltL lr3,ltA lr3],by simp only [go_sem,hq,neL lq3,neA lq3,ltL lq3,ltA lq3]⟩
     by_cases hkb : k = b
     ·subst hkb;exact hbrk
     ·exact hno3 k (by omega)
    ·rw [hd,Bool.true_and] at hbrk
     cases hk : decide (key i c.figs[a] > key i c.figs[b])
     ·rw [hk] at hbrk
      refine go (bw27 hl3 k1 k2 k4 k5 k6 k7 k26 hb2 hb hr hq hs (neL lb3) (neA lb3) (ltL lb3) (ltA lb3) (neL lr3) (neA lr3) (ltL lr3) (ltA lr3) (neL lq3) (neA lq3) (ltL lq3) (ltA lq3) hd hk) (bw3 (ck i hi _ hcx) (ck i hi _ hcy) fnil) ?_
      refine ⟨fun k hk => ?_,by simp only [lo_push,lo_setVar];omega,by simp only [lo_push,lo_setVar,len_push,len_setVar];omega,by simp only [go_sem,hb,neL lb3,neA lb3,ltL lb3,ltA lb3],by simp only [go_sem,hr,neL lr3,neA lr3,ltL lr3,ltA lr3],by simp only [go_sem,hq,neL lq3,neA lq3,ltL lq3,ltA lq3]⟩
      by_cases hkb : k = b
      ·subst hkb;exact hbrk
      ·exact hno3 k (by omega)
     ·rw [hk] at hbrk
      have hdis : disorder c p = some ⟨3 + i,a,b⟩ := by
       refine range_some hi hno (range_some ha hno2 (range_some hb3 (fun k hk => ?_) ?_))
       ·rw [if_neg (by rw [hno3 k hk];simp)]
       ·rw [if_pos hbrk]
      rw [hdis]
      have hw : IntKind.wrap .i64 (3 + (i : Int)) = 3 + i := wrap_in (by unfold inI;omega)
      refine go (bw28 hl3 k1 k2 k4 k5 k6 k7 k26 hb2 hb hr hq hs (neL lb3) (neA lb3) (ltL lb3) (ltA lb3) (neL lr3) (neA lr3) (ltL lr3) (ltA lr3) (neL lq3) (neA lq3) (ltL lq3) (ltA lq3) hd hk hw) (bw3 (ck i hi _ hcx) (ck i hi _ hcy) fnil) ?_
      refine fnq_tuple (results_two (v := fltPV ⟨3 + i,a,b⟩) (u := .bool true) ?_ ?_) (by simp only [lo_push,lo_setVar];omega) (by rfl)
      ·rw [rdRes_hp (l := st.heap.length + 1) (off := 0) (by simp only [go_sem,hl3,k2])]
       simp only [go_sem,hl3,k1,k2,k4,k5,k6,k7,k26,hb2,hb,hr,hq,hs,neL lb3,neA lb3,ltL lb3,ltA lb3,neL lr3,neA lr3,ltL lr3,ltA lr3,neL lq3,neA lq3,ltL lq3,ltA lq3,hd]
      ·rw [rdRes_tmp];simp only [go_sem,hl3]
   ·clear hb hr hlo hwf
    rintro tm3 st3 ⟨hno3,hlo,hwf,hb,hr,hq⟩ hS
    have hl3 : tm3.length = 64 := (by rw [hS.1];simp only [put_len,hl2]);clear hS
    refine go hl3 fnil ?_
    refine ⟨fun k hk => ?_,hlo,hwf,hb,hr⟩
    by_cases hka : k = a
    ·subst hka
     exact range_none (fun b hb => by rw [if_neg (by rw [hno3 b hb];simp)])
    ·exact hno2 k (by omega)
  ·clear hb hr hlo hwf
   rintro tm2 st2 ⟨hno2,hlo,hwf,hb,hr⟩ hS
   have hl2 : tm2.length = 64 := (by rw [hS.1];simp only [put_len,hl1]);clear hS
   refine go hl2 fnil ?_
   refine ⟨fun k hk => ?_,hlo,hwf,hb,hr⟩
   by_cases hki : k = i
   ·subst hki
    exact range_none hno2
   ·exact hno k (by omega)
 ·rintro tm1 st1 ⟨hno,hlo,hwf,hb,hr⟩ hS
  have hl1 : tm1.length = 64 := (by rw [hS.1];simp only [put_len,hl]);have i2 : tg tm1 2 = .ptr (st.heap.length + 1) 0 := (by rw [hS.2 2 (by decide)];simp only [go_sem,hl,h0]);clear hS
  have hdis : disorder c p = none := range_none hno
  rw [hdis]
  have lr := hp_lt hr
  refine go (bw7 hl1 i2 hr (neL lr) (neA lr) (ltL lr) (ltA lr)) fnil ?_
  refine fnq_tuple (results_two (v := zeroF) (u := .bool false) ?_ ?_) (by simp only [lo_push,lo_setVar];omega) (by rfl)
  ·rw [rdRes_hp (l := st.heap.length + 1) (off := 0) (by simp only [go_sem,hl1,i2])]
   simp only [go_sem,hl1,i2,hr,neL lr,neA lr,ltL lr,ltA lr]
   rfl
  ·rw [rdRes_tmp];simp only [go_sem,hl1]
end Go.Den.Ch
end

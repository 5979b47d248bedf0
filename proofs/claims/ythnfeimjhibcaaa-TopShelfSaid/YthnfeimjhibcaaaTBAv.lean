/- Part of the proofs of laws of the package version. Texts: TqM. -/
import Derived.Test.YthnfeimjhibcaaaTBAq
import Derived.Test.YthnfeimjhibcaaaTBAo
set_option linter.unusedSimpArgs false
set_option linter.unusedVariables false
section
namespace Go.Den.Tz
open Go.Den.Tp
def fnK (n:Nat):Option DFunc:=match n with
 | 24=>some den24
 | 25=>some den25
 | 28=>some den28
 | 29=>some den29
 | 57=>some den57
 | 58=>some den58
 | 59=>some den59
 | 60=>some den60
 | 61=>some den61
 | 62=>some den62
 | 63=>some den63
 | 64=>some den64
 | 67=>some den67
 | 68=>some den68
 | 69=>some den69
 | 70=>some den70
 | 73=>some den73
 | 89=>some den89
 | 104=>some den104
 | 109=>some den109
 | 111=>some den111
 | 112=>some den112
 | 113=>some den113
 | 114=>some den114
 | 115=>some den115
 | 117=>some den117
 | 118=>some den118
 | 124=>some den124
 | 137=>some den137
 | 138=>some den138
 | 139=>some den139
 | _=>none
def EK:Env:={ fn:=fnK,meth:=fun _ _=>none,prim:=fun _ _ _ _=>none }
set_option maxRecDepth 100000 in
theorem envK:EnvSh EK EE:=by
 have key:∀ f df,fnK f=some df→(EE.fn f=some df∧∀ k,df.body.sh k=df.body)∧∀ rec' args' st',EE.prim f rec' args' st'=none:=fun f df h=>by
  unfold fnK at h
  split at h
  ·cases h;exact ⟨⟨rfl,fun k=>rfl⟩,fun _ _ _=>rfl⟩
  ·cases h;exact ⟨⟨rfl,fun k=>rfl⟩,fun _ _ _=>rfl⟩
  ·cases h;exact ⟨⟨rfl,fun k=>rfl⟩,fun _ _ _=>rfl⟩
  ·cases h;exact ⟨⟨rfl,fun k=>rfl⟩,fun _ _ _=>rfl⟩
  ·cases h;exact ⟨⟨rfl,fun k=>rfl⟩,fun _ _ _=>rfl⟩
  ·cases h;exact ⟨⟨rfl,fun k=>rfl⟩,fun _ _ _=>rfl⟩
  ·cases h;exact ⟨⟨rfl,fun k=>rfl⟩,fun _ _ _=>rfl⟩
  ·cases h;exact ⟨⟨rfl,fun k=>rfl⟩,fun _ _ _=>rfl⟩
  ·cases h;exact ⟨⟨rfl,fun k=>rfl⟩,fun _ _ _=>rfl⟩
  ·cases h;exact ⟨⟨rfl,fun k=>rfl⟩,fun _ _ _=>rfl⟩
  ·cases h;exact ⟨⟨rfl,fun k=>rfl⟩,fun _ _ _=>rfl⟩
  ·cases h;exact ⟨⟨rfl,fun k=>rfl⟩,fun _ _ _=>rfl⟩
  ·cases h;exact ⟨⟨rfl,fun k=>rfl⟩,fun _ _ _=>rfl⟩
  ·cases h;exact ⟨⟨rfl,fun k=>rfl⟩,fun _ _ _=>rfl⟩
  ·cases h;exact ⟨⟨rfl,fun k=>rfl⟩,fun _ _ _=>rfl⟩
  ·cases h;exact ⟨⟨rfl,fun k=>rfl⟩,fun _ _ _=>rfl⟩
  ·cases h;exact ⟨⟨rfl,fun k=>rfl⟩,fun _ _ _=>rfl⟩
  ·cases h;exact ⟨⟨rfl,fun k=>rfl⟩,fun _ _ _=>rfl⟩
  ·cases h;exact ⟨⟨rfl,fun k=>rfl⟩,fun _ _ _=>rfl⟩
  ·cases h;exact ⟨⟨rfl,fun k=>rfl⟩,fun _ _ _=>rfl⟩
  ·cases h;exact ⟨⟨rfl,fun k=>rfl⟩,fun _ _ _=>rfl⟩
  ·cases h;exact ⟨⟨rfl,fun k=>rfl⟩,fun _ _ _=>rfl⟩
  ·cases h;exact ⟨⟨rfl,fun k=>rfl⟩,fun _ _ _=>rfl⟩
  ·cases h;exact ⟨⟨rfl,fun k=>rfl⟩,fun _ _ _=>rfl⟩
  ·cases h;exact ⟨⟨rfl,fun k=>rfl⟩,fun _ _ _=>rfl⟩
  ·cases h;exact ⟨⟨rfl,fun k=>rfl⟩,fun _ _ _=>rfl⟩
  ·cases h;exact ⟨⟨rfl,fun k=>rfl⟩,fun _ _ _=>rfl⟩
  ·cases h;exact ⟨⟨rfl,fun k=>rfl⟩,fun _ _ _=>rfl⟩
  ·cases h;exact ⟨⟨rfl,fun k=>rfl⟩,fun _ _ _=>rfl⟩
  ·cases h;exact ⟨⟨rfl,fun k=>rfl⟩,fun _ _ _=>rfl⟩
  ·cases h;exact ⟨⟨rfl,fun k=>rfl⟩,fun _ _ _=>rfl⟩
  ·cases h
 exact ⟨fun t m f h=>(by cases h),fun f df h=>(key f df h).1,fun f df h=>(key f df h).2,fun f rec args st x st' h=>(by cases h)⟩
def codeT:DCode:=match den8.body with
 | .seq _ (.seq c _)=>c
 | _ => .skip
def tmT:List PV:=put (List.replicate 37 undef) (some 0) (.bool false)
def isT:PV→Bool
 | .slice _ 3 [.int .i64 0,.int .i64 1,.int .i64 0]=>true
 | _=>false
def is0:PV→Bool
 | .int .i64 0=>true
 | _=>false
def runT:Option (Ex×List PV×St):=(run EK 3000).code codeT tmT ⟨[],0⟩
def chkT:Bool:=match runT with
 | some (.normal,tm,s)=>decide (tm.length=37)&&(isT (tg tm 1)&&(is0 (tg tm 2)&&decide (s.lo≤s.heap.length)))
 | _=>false
set_option maxRecDepth 1000000 in
theorem chkT_true:chkT=true:=by decide +kernel
end Go.Den.Tz
end

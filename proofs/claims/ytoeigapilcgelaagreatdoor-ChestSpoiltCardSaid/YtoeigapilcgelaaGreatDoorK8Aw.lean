/- Part of the proofs of laws of the package chest. Texts: ChLa, ChMa, ChMb, ChShelf, ChPrimA, ChPrimB. -/
import Derived.Test.YtoeigapilcgelaaGreatDoorK8Av
import Derived.Shelf.Strconv.Itoa3
import Derived.Shelf.Strings.OnBuilder
import Derived.Shelf.Strings.Split
import Derived.Test.YtoeigapilcgelaaGreatDoorProg
import Derived.Test.YtoeigapilcgelaaGreatDoorK8Al
import Derived.Test.YtoeigapilcgelaaGreatDoorK8Aj
import Derived.Test.YtoeigapilcgelaaGreatDoorChecked
import Derived.WalkKit
import Derived.Defers
import Derived.Recover
set_option linter.unusedSimpArgs false
set_option linter.unusedVariables false
section
namespace Go.Den
end Go.Den
namespace Go.Den.Ch
def sumL (c : CL) (p : List Int) (n : Int) : Int := (layerL c.figs p n).sum
def NoFull (c : CL) (p : List Int) : Prop := ∀ n : Int,0 ≤ n → n < c.depth → ¬ sumL c p n > c.room
def NoGap (c : CL) (p : List Int) : Prop := ∀ n : Int,0 ≤ n → n < layersL p → sumL c p n ≠ 0
def NoDis (c : CL) (p : List Int) (i : Nat) : Prop := ∀ (a b : Nat) (x y : Int) (f g : Fig),p[a]? = some x → p[b]? = some y → c.figs[a]? = some f → c.figs[b]? = some g → x < y → ¬ key i f > key i g
theorem disA_none {c : CL} {p : List Int} {i : Nat} (h : disA c p i = none) : NoDis c p i := by
 intro a b x y f g ha hb hfa hfb hxy hk
 have hla : a < c.figs.length := (List.getElem?_eq_some_iff.1 hfa).1
 have hlb : b < c.figs.length := (List.getElem?_eq_some_iff.1 hfb).1
 have h1 := List.findSome?_eq_none_iff.1 h a (List.mem_range.2 hla)
 have h2 := List.findSome?_eq_none_iff.1 h1 b (List.mem_range.2 hlb)
 have h3 : brk c p i a b = true := by
  unfold brk
  rw [ha,hb,hfa,hfb]
  simp [hxy,hk]
 rw [h3,if_pos rfl] at h2
 cases h2
theorem dis_none {c : CL} {p : List Int} (h : disorder c p = none) : NoDis c p 0 ∧ NoDis c p 1 :=
 ⟨disA_none (List.findSome?_eq_none_iff.1 h 0 (by simp)),disA_none (List.findSome?_eq_none_iff.1 h 1 (by simp))⟩
inductive FaultSays (c : CL) (p : List Int) : Flt → Prop
 | full (n : Nat) (h1 : (n : Int) < c.depth) (h2 : sumL c p n > c.room) : FaultSays c p ⟨1,n,0⟩
 | gap (n : Nat) (h1 : (n : Int) < c.depth) (h2 : (n : Int) < layersL p) (h3 : sumL c p n = 0) (nf : NoFull c p) : FaultSays c p ⟨2,n,0⟩
 | rank (a b : Nat) (x y : Int) (f g : Fig) (ha : p[a]? = some x) (hb : p[b]? = some y) (hfa : c.figs[a]? = some f) (hfb : c.figs[b]? = some g) (h1 : x < y) (h2 : f.rank < g.rank) (nf : NoFull c p) (ng : NoGap c p) : FaultSays c p ⟨3,a,b⟩
 | eve (a b : Nat) (x y : Int) (f g : Fig) (ha : p[a]? = some x) (hb : p[b]? = some y) (hfa : c.figs[a]? = some f) (hfb : c.figs[b]? = some g) (h1 : x < y) (h2 : f.eve > g.eve) (nf : NoFull c p) (ng : NoGap c p) (nr : NoDis c p 0) : FaultSays c p ⟨4,a,b⟩
end Go.Den.Ch
end
section
namespace Go.Den.Ch
def bef : List Int → List Int → Bool
 | [],[] => false
 | [],_ :: _ => true
 | _ :: _,[] => false
 | a :: l,b :: m => if a = b then bef l m else decide (a < b)
theorem bef_irr : ∀ l,bef l l = false
 | [] => rfl
 | a :: l => by simp only [bef,if_true];exact bef_irr l
theorem bef_asym : ∀ l m,bef l m = true → bef m l = false
 | [],[],h => by cases h
 | [],_ :: _,_ => rfl
 | _ :: _,[],h => by cases h
 | a :: l,b :: m,h => by
  simp only [bef] at h ⊢
  by_cases e : a = b
  ·subst e;simp only [if_true] at h ⊢;exact bef_asym l m h
  ·rw [if_neg e] at h;rw [if_neg (Ne.symm e)]
   simp only [decide_eq_true_eq,decide_eq_false_iff_not] at *;omega
theorem bef_app (l m n : List Int) : bef (l ++ m) (l ++ n) = bef m n := by
 induction l with
 | nil => rfl
 | cons a l ih => simp only [List.cons_append,bef,if_true,ih]
theorem bef_lt {l m n : List Int} {a b : Int} (h : a < b) : bef (l ++ a :: m) (l ++ b :: n) = true := by
 rw [bef_app,bef,if_neg (by omega)];simp [h]
theorem dis_of {c : CL} {p : List Int} (h0 : NoDis c p 0) (h1 : NoDis c p 1) : disorder c p = none := by
 refine List.findSome?_eq_none_iff.2 fun i hi => List.findSome?_eq_none_iff.2 fun a _ => List.findSome?_eq_none_iff.2 fun b _ => ?_
 rw [List.mem_range] at hi
 have hn : NoDis c p i := by
  have : i = 0 ∨ i = 1 := by omega
  rcases this with rfl | rfl
  ·exact h0
  ·exact h1
 rw [if_neg]
 intro h
 unfold brk at h
 split at h
 ·rename_i x y f g e1 e2 e3 e4
  simp only [Bool.and_eq_true,decide_eq_true_eq] at h
  exact hn a b x y f g e1 e2 e3 e4 h.1 h.2
 ·cases h
theorem NoDis.take {c : CL} {now t : List Int} {i : Nat} (h : NoDis c (now ++ t) i) : NoDis { c with figs := c.figs.take now.length } now i := by
 intro a b x y f g ha hb hf hg
 have la : a < now.length := (List.getElem?_eq_some_iff.1 ha).1
 have lb : b < now.length := (List.getElem?_eq_some_iff.1 hb).1
 simp only [List.getElem?_take,la,lb,if_true] at hf hg
 exact h a b x y f g (by rw [List.getElem?_append_left la];exact ha) (by rw [List.getElem?_append_left lb];exact hb) hf hg
theorem fault_dis {c : CL} {p : List Int} (h : fault c p = none) : disorder c p = none := by
 unfold fault at h
 rw [Option.or_eq_none_iff,Option.or_eq_none_iff] at h
 exact h.2.2
theorem searchL_all {c : CL} : ∀ (k : Nat) (now t : List Int),t.length = k → now.length + k = c.figs.length → (∀ x ∈ t,0 ≤ x ∧ x < c.depth) → fault c (now ++ t) = none → now ++ t ∈ searchL c k now
 | 0,now,t,ht,_,_,h => by
  obtain rfl := List.eq_nil_of_length_eq_zero ht
  simp only [List.append_nil] at h ⊢
  simp [searchL,h]
 | k + 1,now,x :: t,ht,hk,hx,h => by
  have h1 : now ++ x :: t = (now ++ [x]) ++ t := by simp
  have hx0 := hx x (by simp)
  rw [h1] at h ⊢
  refine List.mem_flatMap.2 ⟨x.toNat,by rw [List.mem_range];omega,?_⟩
  rw [Int.toNat_of_nonneg hx0.1]
  have hd := dis_none (fault_dis h)
  have e : (now ++ [x]).length = now.length + 1 := by simp
  have hn := dis_of (NoDis.take hd.1) (NoDis.take hd.2)
  rw [e] at hn
  rw [hn]
  exact searchL_all k (now ++ [x]) t (by simpa using ht) (by simp at e ⊢;omega) (fun y hy => hx y (by simp [hy])) h
theorem searchL_pre {c : CL} : ∀ {k : Nat} {now p : List Int},p ∈ searchL c k now → ∃ t,p = now ++ t
 | 0,now,p,h => by
  unfold searchL at h
  split at h
  ·exact ⟨[],by simpa using h⟩
  ·cases h
 | k + 1,now,p,h => by
  obtain ⟨n,_,h1⟩ := List.mem_flatMap.1 h
  split at h1
  ·cases h1
  ·obtain ⟨t,rfl⟩ := searchL_pre h1
   exact ⟨(n : Int) :: t,by simp⟩
theorem searchL_sorted {c : CL} : ∀ (k : Nat) (now : List Int),(searchL c k now).Pairwise (fun a b => bef a b = true)
 | 0,now => by
  unfold searchL
  split
  ·exact List.pairwise_singleton _ _
  ·exact List.Pairwise.nil
 | k + 1,now => by
  refine List.pairwise_flatMap.2 ⟨fun n _ => ?_,List.Pairwise.imp ?_ (List.pairwise_lt_range (n := c.depth.toNat))⟩
  ·split
   ·exact List.Pairwise.nil
   ·exact searchL_sorted k _
  ·intro a b hab x hx y hy
   split at hx
   ·cases hx
   split at hy
   ·cases hy
   obtain ⟨t,rfl⟩ := searchL_pre hx
   obtain ⟨u,rfl⟩ := searchL_pre hy
   simp only [List.append_assoc,List.singleton_append]
   exact bef_lt (by omega)
theorem best_aux {α : Type} {m : α → Int} : ∀ (X : List α) (o p : α),X.foldl (fun acc x => match acc with | none => some x | some o => if decide (m x < m o) then some x else some o) (some o) = some p →
  (p = o ∧ ∀ q ∈ X,m o ≤ m q) ∨ ∃ A B,X = A ++ p :: B ∧ m p < m o ∧ (∀ q ∈ A,m p < m q) ∧ ∀ q ∈ B,m p ≤ m q
 | [],o,p,h => by cases h;exact .inl ⟨rfl,fun _ h => by cases h⟩
 | x :: X,o,p,h => by
  simp only [List.foldl_cons] at h
  by_cases hx : m x < m o
  ·simp only [hx,decide_true,if_true] at h
   rcases best_aux X x p h with ⟨rfl,h1⟩ | ⟨A,B,rfl,h1,h2,h3⟩
   ·exact .inr ⟨[],X,rfl,hx,(fun _ h => by cases h),h1⟩
   ·refine .inr ⟨x :: A,B,rfl,by omega,fun q hq => ?_,h3⟩
    rcases List.mem_cons.1 hq with rfl | hq
    ·exact h1
    ·exact h2 q hq
  ·simp only [hx,decide_false,Bool.false_eq_true,if_false] at h
   rcases best_aux X o p h with ⟨rfl,h1⟩ | ⟨A,B,rfl,h1,h2,h3⟩
   ·refine .inl ⟨rfl,fun q hq => ?_⟩
    rcases List.mem_cons.1 hq with rfl | hq
    ·omega
    ·exact h1 q hq
   ·refine .inr ⟨x :: A,B,rfl,h1,fun q hq => ?_,h3⟩
    rcases List.mem_cons.1 hq with rfl | hq
    ·omega
    ·exact h2 q hq
theorem getD_in {p : List Int} {i : Nat} (hi : i < p.length) : p.getD i 0 = p[i] := by rw [List.getD_eq_getElem?_getD,List.getElem?_eq_getElem hi];rfl
end Go.Den.Ch
end
section
namespace Go.Den.Ch
def fitsB (c : CL) (p : List Int) : Bool := packB c p && (fault c p).isNone
def movedT (p q : List Int) (n : Nat) : Int := (((List.range n).filter (movP p q)).length : Int)
def movedM (p q : List Int) : Int := movedT p q (min p.length q.length)
theorem zs : (∀ h : Decidable False,decide (h := h) False = false) ∧ (∀ h : Decidable True,decide (h := h) True = true) ∧ (((0 : Int) != 0) = false) ∧ (((5 : Int) != 0) = true) ∧ (((7 : Int) != 0) = true) ∧ (((5 : Int) == 5) = true) ∧ (((0 : Int) == 0) = true) ∧ (((5 : Int) == 0) = false) ∧ (((7 : Int) == 7) = true) ∧ (((7 : Int) == 0) = false) ∧ (((7 : Int) != 7) = false) ∧ (((5 : Int) != 5) = false) ∧ (decide ((0 : Int) < 0) = false) ∧ (decide ((0 : Int) > 0) = false) ∧ ((true != true) = false) ∧ ((false != false) = false) ∧ ((true != false) = true) ∧ ((false != true) = true) := ⟨fun h => by cases h <;> first | rfl | contradiction,fun h => by cases h <;> first | rfl | contradiction,by decide⟩
theorem nne (n : Int) : (n != n) = false := by simp
end Go.Den.Ch
end
section
namespace Go.Proofs
open Go.Shelf
def Tryz.lays156_ren : Go.Shelf.Ren := ⟨fun | 156 => 138 | 165 => 151 | 166 => 152 | 169 => 153 | 240 => 156 | 241 => 157 | 276 => 165 | 277 => 166 | n => n,fun | 31 => 125 | 9 => 9 | 3 => 3 | 4 => 4 | 0 => 0 | 20 => 20 | 72 => 164 | 76 => 168 | 70 => 162 | 37 => 89 | 75 => 167 | 127 => 173 | 164 => 182 | 5 => 5 | 80 => 170 | n => n,fun | n => n⟩
theorem Tryz.lays156 : Go.Proofs.Lays.n156 Tryz.prog Tryz.lays156_ren := {
 mixed := by kernel_rfl
 f156 := Tryz.func138.trans (congrArg some (by kernel_rfl))
 f165 := Tryz.func151.trans (congrArg some (by kernel_rfl))
 f166 := Tryz.func152.trans (congrArg some (by kernel_rfl))
 f169 := Tryz.func153.trans (congrArg some (by kernel_rfl))
 f240 := Tryz.func156.trans (congrArg some (by kernel_rfl))
 f241 := Tryz.func157.trans (congrArg some (by kernel_rfl))
 f276 := Tryz.func165.trans (congrArg some (by kernel_rfl))
 f277 := Tryz.func166.trans (congrArg some (by kernel_rfl))
 t0 := Tryz.underlying0
 a0 := Tryz.isAgg0
 z0 := Tryz.sizeOf0
 v0 := Tryz.zeroValue0
 t3 := Tryz.underlying3
 a3 := Tryz.isAgg3
 z3 := Tryz.sizeOf3
 v3 := Tryz.zeroValue3
 t4 := Tryz.underlying4
 a4 := Tryz.isAgg4
 z4 := Tryz.sizeOf4
 v4 := Tryz.zeroValue4
 t9 := Tryz.underlying9
 a9 := Tryz.isAgg9
 z9 := Tryz.sizeOf9
 v9 := Tryz.zeroValue9
 t20 := Tryz.underlying20
 a20 := Tryz.isAgg20
 z20 := Tryz.sizeOf20
 v20 := Tryz.zeroValue20
 t31 := Tryz.underlying125
 a31 := Tryz.isAgg125
 z31 := Tryz.sizeOf125
 v31 := Tryz.zeroValue125
 t37 := Tryz.underlying89
 a37 := Tryz.isAgg89
 z37 := Tryz.sizeOf89
 v37 := Tryz.zeroValue89
 t70 := Tryz.underlying162
 a70 := Tryz.isAgg162
 z70 := Tryz.sizeOf162
 v70 := Tryz.zeroValue162
 t72 := Tryz.underlying164
 a72 := Tryz.isAgg164
 z72 := Tryz.sizeOf164
 v72 := Tryz.zeroValue164
 t75 := Tryz.underlying167
 a75 := Tryz.isAgg167
 z75 := Tryz.sizeOf167
 v75 := Tryz.zeroValue167
 t76 := Tryz.underlying168
 a76 := Tryz.isAgg168
 z76 := Tryz.sizeOf168
 v76 := Tryz.zeroValue168
 t127 := Tryz.underlying173
 a127 := Tryz.isAgg173
 z127 := Tryz.sizeOf173
 v127 := Tryz.zeroValue173
 t164 := Tryz.underlying182
 a164 := Tryz.isAgg182
 z164 := Tryz.sizeOf182
 v164 := Tryz.zeroValue182 }
theorem Tryz.Builder_Extra_156 : Builder.Extra Tryz.prog Tryz.lays156_ren := {
 sizeBuilder := by kernel_rfl
 liesBuilder := by kernel_rfl
 t5 := Tryz.underlying5
 a5 := Tryz.isAgg5
 z5 := Tryz.sizeOf5
 v5 := Tryz.zeroValue5
 infoByte := by kernel_rfl
 cellsByte := by kernel_rfl
 sizeByte := by kernel_rfl
 neB5 := by decide }
open Go.RowKit in
theorem Tryz.strings_Join_none (a : Option Addr) (c : Nat) (sep : ByteArray) (w : World) :
  Calls Tryz.prog 138 #[.slice a 0 c,.string sep] w fun e w' => e = .returned (.string ⟨#[]⟩) ∧ w' = w := Any.strings_Join_none Tryz.lays156 Tryz.Builder_Extra_156 a c sep w
open Go.RowKit in
theorem Tryz.strings_Join (bk o c : Nat) (xs : List ByteArray) (sep : ByteArray) (w : World) (hcells : ∀ (j : Nat) x,xs[j]? = some x → w.cell? ⟨bk,o + j,none⟩ = some (.string x)) (hbk : bk < w.heap.size) (hN : xs.length ≤ 140737488355328) (hcap : xs.length ≤ c) (hlen : (Lib.join (xs.map (·.data.toList)) sep.data.toList).length ≤ 140737488355328) :
  Calls Tryz.prog 138 #[.slice (some ⟨bk,o,none⟩) xs.length c,.string sep] w fun e w' => e = .returned (.string ⟨(Lib.join (xs.map (·.data.toList)) sep.data.toList).toArray⟩) ∧ Below w.heap.size w w' := Any.strings_Join Tryz.lays156 Tryz.Builder_Extra_156 bk o c xs sep w hcells hbk hN hcap hlen
def Tryz.lays171_ren : Go.Shelf.Ren := ⟨fun | 171 => 137 | 243 => 150 | 246 => 155 | 283 => 161 | 284 => 162 | 285 => 163 | 286 => 164 | 129 => 172 | 317 => 171 | 318 => 173 | 319 => 174 | 320 => 175 | 337 => 181 | 338 => 182 | n => n,fun | 3 => 3 | 9 => 9 | 2 => 2 | 4 => 4 | 171 => 176 | 0 => 0 | 53 => 177 | 37 => 89 | 5 => 5 | 173 => 180 | 212 => 191 | 51 => 192 | 20 => 20 | 213 => 193 | 46 => 194 | 232 => 203 | 233 => 204 | n => n,fun | 17 => 0 | 18 => 4 | 19 => 5 | n => n⟩
theorem Tryz.lays171 : Go.Proofs.Lays.n171 Tryz.prog Tryz.lays171_ren := {
 mixed := by kernel_rfl
 f129 := Tryz.func172.trans (congrArg some (by kernel_rfl))
 f171 := Tryz.func137.trans (congrArg some (by kernel_rfl))
 f243 := Tryz.func150.trans (congrArg some (by kernel_rfl))
 f246 := Tryz.func155.trans (congrArg some (by kernel_rfl))
 f283 := Tryz.func161.trans (congrArg some (by kernel_rfl))
 f284 := Tryz.func162.trans (congrArg some (by kernel_rfl))
 f285 := Tryz.func163.trans (congrArg some (by kernel_rfl))
 f286 := Tryz.func164.trans (congrArg some (by kernel_rfl))
 f317 := Tryz.func171.trans (congrArg some (by kernel_rfl))
 f318 := Tryz.func173.trans (congrArg some (by kernel_rfl))
 f319 := Tryz.func174.trans (congrArg some (by kernel_rfl))
 f320 := Tryz.func175.trans (congrArg some (by kernel_rfl))
 f337 := Tryz.func181.trans (congrArg some (by kernel_rfl))
 f338 := Tryz.func182.trans (congrArg some (by kernel_rfl))
 t0 := Tryz.underlying0
 a0 := Tryz.isAgg0
 z0 := Tryz.sizeOf0
 v0 := Tryz.zeroValue0
 t2 := Tryz.underlying2
 a2 := Tryz.isAgg2
 z2 := Tryz.sizeOf2
 v2 := Tryz.zeroValue2
 t3 := Tryz.underlying3
 a3 := Tryz.isAgg3
 z3 := Tryz.sizeOf3
 v3 := Tryz.zeroValue3
 t4 := Tryz.underlying4
 a4 := Tryz.isAgg4
 z4 := Tryz.sizeOf4
 v4 := Tryz.zeroValue4
 t5 := Tryz.underlying5
 a5 := Tryz.isAgg5
 z5 := Tryz.sizeOf5
 v5 := Tryz.zeroValue5
 t9 := Tryz.underlying9
 a9 := Tryz.isAgg9
 z9 := Tryz.sizeOf9
 v9 := Tryz.zeroValue9
 t20 := Tryz.underlying20
 a20 := Tryz.isAgg20
 z20 := Tryz.sizeOf20
 v20 := Tryz.zeroValue20
 t37 := Tryz.underlying89
 a37 := Tryz.isAgg89
 z37 := Tryz.sizeOf89
 v37 := Tryz.zeroValue89
 t46 := Tryz.underlying194
 a46 := Tryz.isAgg194
 z46 := Tryz.sizeOf194
 v46 := Tryz.zeroValue194
 t51 := Tryz.underlying192
 a51 := Tryz.isAgg192
 z51 := Tryz.sizeOf192
 v51 := Tryz.zeroValue192
 t53 := Tryz.underlying177
 a53 := Tryz.isAgg177
 z53 := Tryz.sizeOf177
 v53 := Tryz.zeroValue177
 t171 := Tryz.underlying176
 a171 := Tryz.isAgg176
 z171 := Tryz.sizeOf176
 v171 := Tryz.zeroValue176
 t173 := Tryz.underlying180
 a173 := Tryz.isAgg180
 z173 := Tryz.sizeOf180
 v173 := Tryz.zeroValue180
 t212 := Tryz.underlying191
 a212 := Tryz.isAgg191
 z212 := Tryz.sizeOf191
 v212 := Tryz.zeroValue191
 t213 := Tryz.underlying193
 a213 := Tryz.isAgg193
 z213 := Tryz.sizeOf193
 t232 := Tryz.underlying203
 a232 := Tryz.isAgg203
 z232 := Tryz.sizeOf203
 v232 := Tryz.zeroValue203
 t233 := Tryz.underlying204
 a233 := Tryz.isAgg204
 z233 := Tryz.sizeOf204
 v233 := Tryz.zeroValue204
 g17 := by kernel_rfl
 g18 := by kernel_rfl
 g19 := by kernel_rfl }
open Go.RowKit Go.Sort Go.Lib in
theorem Tryz.strconv_Itoa_small (i : Nat) (hi : i < 100) (w : World) :
  Calls Tryz.prog 137 #[.int .i64 i] w fun e w' => e = .returned (.string ⟨(Lib.decDigits i).toArray⟩) ∧ w' = w := Any.strconv_Itoa_small Tryz.lays171 i hi w
def Tryz.lays146_ren : Go.Shelf.Ren := ⟨fun | 146 => 139 | 221 => 154 | 268 => 158 | 138 => 159 | 143 => 160 | 195 => 167 | 197 => 168 | 218 => 169 | 219 => 170 | 260 => 176 | 217 => 177 | 225 => 178 | 224 => 179 | 267 => 180 | 266 => 183 | 314 => 184 | n => n,fun | 9 => 9 | 31 => 125 | 3 => 3 | 4 => 4 | 0 => 0 | 105 => 186 | 21 => 21 | 5 => 5 | 46 => 194 | 119 => 197 | 139 => 200 | 138 => 199 | 146 => 201 | 51 => 192 | n => n,fun | 1 => 1 | 3 => 2 | 4 => 3 | n => n⟩
theorem Tryz.lays146 : Go.Proofs.Lays.n146 Tryz.prog Tryz.lays146_ren := {
 mixed := by kernel_rfl
 f138 := Tryz.func159.trans (congrArg some (by kernel_rfl))
 f143 := Tryz.func160.trans (congrArg some (by kernel_rfl))
 f146 := Tryz.func139.trans (congrArg some (by kernel_rfl))
 f195 := Tryz.func167.trans (congrArg some (by kernel_rfl))
 f197 := Tryz.func168.trans (congrArg some (by kernel_rfl))
 f217 := Tryz.func177.trans (congrArg some (by kernel_rfl))
 f218 := Tryz.func169.trans (congrArg some (by kernel_rfl))
 f219 := Tryz.func170.trans (congrArg some (by kernel_rfl))
 f221 := Tryz.func154.trans (congrArg some (by kernel_rfl))
 f224 := Tryz.func179.trans (congrArg some (by kernel_rfl))
 f225 := Tryz.func178.trans (congrArg some (by kernel_rfl))
 f260 := Tryz.func176.trans (congrArg some (by kernel_rfl))
 f266 := Tryz.func183.trans (congrArg some (by kernel_rfl))
 f267 := Tryz.func180.trans (congrArg some (by kernel_rfl))
 f268 := Tryz.func158.trans (congrArg some (by kernel_rfl))
 f314 := Tryz.func184.trans (congrArg some (by kernel_rfl))
 t0 := Tryz.underlying0
 a0 := Tryz.isAgg0
 z0 := Tryz.sizeOf0
 v0 := Tryz.zeroValue0
 t3 := Tryz.underlying3
 a3 := Tryz.isAgg3
 z3 := Tryz.sizeOf3
 v3 := Tryz.zeroValue3
 t4 := Tryz.underlying4
 a4 := Tryz.isAgg4
 z4 := Tryz.sizeOf4
 v4 := Tryz.zeroValue4
 t5 := Tryz.underlying5
 a5 := Tryz.isAgg5
 z5 := Tryz.sizeOf5
 v5 := Tryz.zeroValue5
 t9 := Tryz.underlying9
 a9 := Tryz.isAgg9
 z9 := Tryz.sizeOf9
 v9 := Tryz.zeroValue9
 t21 := Tryz.underlying21
 a21 := Tryz.isAgg21
 z21 := Tryz.sizeOf21
 v21 := Tryz.zeroValue21
 t31 := Tryz.underlying125
 a31 := Tryz.isAgg125
 z31 := Tryz.sizeOf125
 v31 := Tryz.zeroValue125
 t46 := Tryz.underlying194
 a46 := Tryz.isAgg194
 z46 := Tryz.sizeOf194
 v46 := Tryz.zeroValue194
 t51 := Tryz.underlying192
 a51 := Tryz.isAgg192
 z51 := Tryz.sizeOf192
 v51 := Tryz.zeroValue192
 t105 := Tryz.underlying186
 a105 := Tryz.isAgg186
 z105 := Tryz.sizeOf186
 v105 := Tryz.zeroValue186
 t119 := Tryz.underlying197
 a119 := Tryz.isAgg197
 z119 := Tryz.sizeOf197
 t138 := Tryz.underlying199
 a138 := Tryz.isAgg199
 z138 := Tryz.sizeOf199
 v138 := Tryz.zeroValue199
 t139 := Tryz.underlying200
 a139 := Tryz.isAgg200
 z139 := Tryz.sizeOf200
 v139 := Tryz.zeroValue200
 t146 := Tryz.underlying201
 a146 := Tryz.isAgg201
 z146 := Tryz.sizeOf201
 v146 := Tryz.zeroValue201
 g1 := by kernel_rfl
 g3 := by kernel_rfl
 g4 := by kernel_rfl }
open Go.RowKit Go.Lib in
theorem Tryz.strings_Split (s sep : ByteArray) (m : Int) (w : World) (hs : s.size < 4294967281) (hm : w.cell? ⟨1,0,none⟩ = some (.int .i64 m)) (h1 : 1 ≤ sep.size) :
  Calls Tryz.prog 139 #[.string s,.string sep] w fun e w' =>
   e = .returned (.slice (some ⟨w.heap.size,0,none⟩) (Lib.countB s sep + 1) (Lib.countB s sep + 1)) ∧ w' = w.alloc (.cells ((Lib.splitB sep 0 (Lib.countB s sep) s).map Value.string).toArray 9) := Any.strings_Split Tryz.lays146 (by kernel_rfl) s sep m w hs hm h1
end Go.Proofs
end
section
namespace Go.Den.Ch
open Go.Proofs
def cutS (b : UInt8) : List UInt8 → List (List UInt8)
 | [] => [[]]
 | x :: xs => if x = b then [] :: cutS b xs else match cutS b xs with
  | h :: t => (x :: h) :: t
  | [] => [[x]]
theorem cutS_cons (b : UInt8) (s : List UInt8) : ∃ h t,cutS b s = h :: t := by
 cases s with
 | nil => exact ⟨_,_,rfl⟩
 | cons x xs =>
  simp only [cutS]
  split
  ·exact ⟨_,_,rfl⟩
  ·split <;> exact ⟨_,_,rfl⟩
theorem splitL_cut (b : UInt8) : ∀ (s acc h : List UInt8) (t : List (List UInt8)),cutS b s = h :: t → splitL b acc s = (acc ++ h) :: t
 | [],acc,h,t,e => by simp only [cutS,List.cons.injEq] at e;obtain ⟨rfl,rfl⟩ := e;simp [splitL]
 | x :: xs,acc,h,t,e => by
  obtain ⟨h',t',e'⟩ := cutS_cons b xs
  simp only [cutS,e'] at e
  simp only [splitL]
  split at e
  ·rename_i hx
   rw [if_pos hx]
   simp only [List.cons.injEq] at e
   obtain ⟨rfl,rfl⟩ := e
   rw [splitL_cut b xs [] h' t' e']
   simp
  ·rename_i hx
   rw [if_neg hx]
   simp only [List.cons.injEq] at e
   obtain ⟨rfl,rfl⟩ := e
   rw [splitL_cut b xs (acc ++ [x]) h' t' e']
   simp
theorem splitL_cutS (b : UInt8) (s : List UInt8) : splitL b [] s = cutS b s := by
 obtain ⟨h,t,e⟩ := cutS_cons b s
 rw [splitL_cut b s [] h t e,e];rfl
theorem index_cons (b x : UInt8) (l : List UInt8) : Lib.index (x :: l) [b] = if x = b then 0 else if Lib.index l [b] == -1 then -1 else Lib.index l [b] + 1 := by
 rw [Lib.index]
 by_cases h : x = b
 ·subst h;simp
 ·have : (b == x) = false := by rw [beq_eq_false_iff_ne];exact fun e => h e.symm
  have h2 : ¬ b = x := fun e => h e.symm
  simp [h2,h]
theorem cutS_miss (b : UInt8) : ∀ s : List UInt8,Lib.index s [b] = -1 → cutS b s = [s]
 | [],_ => rfl
 | x :: l,h => by
  rw [index_cons] at h
  split at h
  ·omega
  ·rename_i hx
   have := Lib.index_ge l [b]
   split at h
   ·rename_i h1
    simp only [cutS,if_neg hx,cutS_miss b l (eq_of_beq h1)]
   ·omega
theorem cutS_hit (b : UInt8) : ∀ (s : List UInt8) (i : Nat),Lib.index s [b] = i → cutS b s = s.take i :: cutS b (s.drop (i + 1))
 | [],i,h => by simp [Lib.index] at h
 | x :: l,i,h => by
  rw [index_cons] at h
  split at h
  ·rename_i hx
   have : i = 0 := by omega
   subst this
   simp only [cutS,if_pos hx];rfl
  ·rename_i hx
   split at h
   ·omega
   ·have hg := Lib.index_ge l [b]
    rename_i hn
    have hn' : Lib.index l [b] ≠ -1 := fun e => hn (by rw [e];rfl)
    obtain ⟨j,rfl⟩ : ∃ j,i = j + 1 := ⟨i - 1,by omega⟩
    have ih := cutS_hit b l j (by omega)
    simp only [cutS,if_neg hx,ih]
    rfl
theorem splitK_cut (b : UInt8) : ∀ (n : Nat) (s : List UInt8),s.length < n → Lib.splitK [b] 0 (Lib.countFrom [b] n s) s = cutS b s ∧ (cutS b s).length = Lib.countFrom [b] n s + 1
 | 0,s,h => by omega
 | n + 1,s,h => by
  have hg := Lib.index_ge s [b]
  by_cases hi : Lib.index s [b] = -1
  ·have h1 : (Lib.index s [b] == -1) = true := by rw [hi];rfl
   simp only [Lib.countFrom,h1,if_true,Lib.splitK]
   rw [cutS_miss b s hi]
   exact ⟨rfl,rfl⟩
  ·have h1 : (Lib.index s [b] == -1) = false := by rw [beq_eq_false_iff_ne];exact hi
   obtain ⟨i,e⟩ : ∃ i : Nat,Lib.index s [b] = i := ⟨(Lib.index s [b]).toNat,by omega⟩
   have hc := cutS_hit b s i e
   have hi2 : i < s.length := by
    have := Lib.index_room s [b] (by omega)
    simp at this;omega
   obtain ⟨k1,k2⟩ := splitK_cut b n (s.drop (i + 1)) (by simp;omega)
   have e2 : (Lib.index s [b]).toNat = i := by omega
   simp only [Lib.countFrom,h1,Bool.false_eq_true,if_false,e2,List.length_cons,List.length_nil,Nat.zero_add]
   rw [Nat.add_comm 1]
   simp only [Lib.splitK,h1,Bool.false_eq_true,if_false,e2,List.length_cons,List.length_nil,Nat.zero_add,Nat.add_zero]
   rw [k1,hc]
   exact ⟨rfl,by simp only [List.length_cons];omega⟩
theorem split_data (s sep : ByteArray) (b : UInt8) (hb : unB sep = [b]) : (Lib.splitB sep 0 (Lib.countB s sep) s).map unB = splitL b [] (unB s) ∧ (splitL b [] (unB s)).length = Lib.countB s sep + 1 := by
 have h1 := Lib.splitB_data sep 0 (Lib.countB s sep) s
 have hb' : sep.data.toList = [b] := hb
 have hc : Lib.countB s sep = Lib.countFrom [b] ((unB s).length + 1) (unB s) := by
  show Lib.count s.data.toList sep.data.toList = _
  rw [hb'];rfl
 rw [hc] at h1 ⊢
 rw [hb'] at h1
 obtain ⟨k1,k2⟩ := splitK_cut b ((unB s).length + 1) (unB s) (by omega)
 rw [splitL_cutS]
 exact ⟨h1.trans k1,k2⟩
theorem strs_row {G : Gh} {w : World} {b : Nat} {T : TypeId} : ∀ (l pre : List ByteArray),w.heap[b]? = some (Obj.cells ((pre ++ l).map Value.string).toArray T (0,0)) → VRC G w (l.map PV.str) b pre.length
 | [],pre,h => by simp only [List.map_nil,VRC]
 | s :: l,pre,h => by
  simp only [List.map_cons,VRC]
  refine ⟨⟨.string s,?_,by simp only [VR]⟩,?_⟩
  ·rw [cell_row h];simp
  ·have := strs_row (G := G) l (pre ++ [s]) (by simpa using h)
   simpa using this
theorem encS_map (l : List ByteArray) : (l.map unB).flatMap encS = l.map PV.str := by
 induction l with
 | nil => rfl
 | cons s l ih => rw [List.map_cons,List.flatMap_cons,ih];rfl
theorem strs_low (m : Nat) : ∀ l : List ByteArray,lowL m (l.map PV.str) = true
 | [] => rfl
 | s :: l => by simp only [List.map_cons,lowL,PV.low,strs_low m l,Bool.and_self]
theorem enter137 : Enterable Tryz.prog 137 := ⟨_,Tryz.func137,by kernel_rfl,by kernel_rfl⟩
theorem enter138 : Enterable Tryz.prog 138 := ⟨_,Tryz.func138,by kernel_rfl,by kernel_rfl⟩
theorem enter139 : Enterable Tryz.prog 139 := ⟨_,Tryz.func139,by kernel_rfl,by kernel_rfl⟩
theorem digits_itoa : ∀ i,i < 100 → Lib.decDigits i = itoaL i := by decide +kernel
section
variable {B0 : Nat} {w0 w : World} {G : Gh} {st st' : St} {args : List PV} {avs : List Value} {r : CR}
theorem callR_same (hw : WR Tryz.prog B0 w0 G st.heap w) {v : PV} {u : Value} (hv : VR G w v u) : CallR Tryz.prog B0 w0 G st w (.ret v) st (.returned u) w :=
 ⟨G,hw,Ext.refl _ _ _ _,u,rfl,hv⟩
theorem itoa_ok (h : itoaR st args = some (some (r,st'))) (hw : WR Tryz.prog B0 w0 G st.heap w) (ha : VRL G w args avs) : ∀ n,CallsIn Fence.wide n Tryz.prog 137 avs.toArray w (CallR Tryz.prog B0 w0 G st w r st') := by
 intro n
 unfold itoaR at h
 split at h
 ·rename_i k
  split at h
  ·rename_i hk
   simp only [Option.some.injEq,Prod.mk.injEq] at h
   obtain ⟨rfl,rfl⟩ := h
   obtain ⟨v,vs',rfl,h1,h2⟩ := VRL.cons_iff.1 ha
   rw [VRL.nil_iff.1 h2]
   simp only [VR] at h1
   subst h1
   obtain ⟨i,rfl⟩ : ∃ i : Nat,k = i := ⟨k.toNat,by omega⟩
   refine callsIn_wide.2 ((Tryz.strconv_Itoa_small i (by omega) w).mono ?_)
   rintro e w' ⟨rfl,rfl⟩
   refine callR_same hw ?_
   rw [digits_itoa i (by omega),Int.toNat_natCast]
   simp only [VR]
   rfl
  ·cases h
 ·cases h
theorem strs_eq : ∀ {cs : List PV} {l : List ByteArray},strs cs = some l → cs = l.map PV.str
 | [],l,h => by simp only [strs,Option.some.injEq] at h;subst h;rfl
 | c :: cs,l,h => by
  cases c with
  | str s =>
   simp only [strs,Option.map_eq_some_iff] at h
   obtain ⟨l',h1,rfl⟩ := h
   rw [strs_eq h1];rfl
  | _ => simp [strs] at h
theorem VRC_get {G : Gh} {w : World} : ∀ {cs : List PV} {b off j : Nat} {p : PV},VRC G w cs b off → cs[j]? = some p → ∃ v,w.cell? ⟨b,off + j,none⟩ = some v ∧ VR G w p v
 | [],b,off,j,p,h,hj => by simp at hj
 | c :: cs,b,off,0,p,h,hj => by
  simp only [VRC] at h
  simp only [List.getElem?_cons_zero,Option.some.injEq] at hj
  subst hj
  exact h.1
 | c :: cs,b,off,j + 1,p,h,hj => by
  simp only [VRC] at h
  simp only [List.getElem?_cons_succ] at hj
  obtain ⟨v,h1,h2⟩ := VRC_get h.2 hj
  exact ⟨v,by rw [← h1];congr 2;omega,h2⟩
theorem join_ok (h : joinR st args = some (some (r,st'))) (hw : WR Tryz.prog B0 w0 G st.heap w) (ha : VRL G w args avs) : ∀ n,CallsIn Fence.wide n Tryz.prog 138 avs.toArray w (CallR Tryz.prog B0 w0 G st w r st') := by
 intro n
 unfold joinR at h
 split at h
 ·rename_i o k cs sep
  split at h
  ·rename_i l hl
   split at h
   ·rename_i hk
    simp only [Option.some.injEq,Prod.mk.injEq] at h
    obtain ⟨rfl,rfl⟩ := h
    obtain ⟨v,vs',rfl,h1,h2⟩ := VRL.cons_iff.1 ha
    obtain ⟨v2,vs2,rfl,h3,h4⟩ := VRL.cons_iff.1 h2
    rw [VRL.nil_iff.1 h4]
    simp only [VR] at h1 h3
    subst h3
    obtain ⟨b,off,cap,rfl,hcap,hcm,_,hrow⟩ := h1
    have hcs := strs_eq hl
    have hlen : l.length = k := by rw [hk.1,hcs,List.length_map]
    by_cases h0 : l = []
    ·subst h0
     have hk0 : k = 0 := by rw [← hlen];rfl
     subst hk0
     refine callsIn_wide.2 ((Tryz.strings_Join_none _ cap sep w).mono ?_)
     rintro e w' ⟨rfl,rfl⟩
     refine callR_same hw ?_
     simp only [VR]
     simp [List.intercalate,toB]
    ·have hne : cs ≠ [] := by rw [hcs];simpa using h0
     obtain ⟨m,hm1,hm2⟩ := hcm hne
     have hb := hw.cmLt hm1
     have hj : (Lib.join (l.map (·.data.toList)) sep.data.toList).length ≤ 140737488355328 := by
      have hl2 : ∀ (xs : List ByteArray),(∀ s ∈ xs,s.size ≤ 1000) → (Lib.join (xs.map (·.data.toList)) sep.data.toList).length ≤ xs.length * 2000 := by
       intro xs hxs
       cases xs with
       | nil => simp [Lib.join,List.intercalate]
       | cons x xs =>
        rw [List.map_cons,Lib.join_cons]
        have hx : x.data.toList.length ≤ 1000 := hxs x (by simp)
        have ht : ∀ ys : List ByteArray,(∀ s ∈ ys,s.size ≤ 1000) → (Lib.joinTail sep.data.toList (ys.map (·.data.toList))).length ≤ ys.length * 2000 := by
         intro ys hys
         induction ys with
         | nil => simp [Lib.joinTail]
         | cons y ys ih =>
          have h5 := ih (fun s hs => hys s (by simp [hs]))
          have h6 : y.data.toList.length ≤ 1000 := hys y (by simp)
          have h7 : sep.data.toList.length ≤ 1000 := hk.2.2.1
          simp only [Lib.joinTail,List.map_cons,List.flatten_cons,List.length_append,List.length_cons] at h5 ⊢
          omega
        have h8 := ht xs (fun s hs => hxs s (by simp [hs]))
        simp only [List.length_append,List.length_cons]
        omega
      have h9 := hl2 l (fun s hs => by
       have := List.all_eq_true.1 hk.2.2.2 s hs
       exact of_decide_eq_true this)
      have h10 : l.length * 2000 ≤ 1000 * 2000 := Nat.mul_le_mul_right _ (by omega)
      omega
     have hv := Tryz.strings_Join b off cap l sep w (fun j x hx => by
      obtain ⟨v,h5,h6⟩ := VRC_get (j := j) (p := .str x) hrow (by rw [hcs,List.getElem?_map,hx];rfl)
      simp only [VR] at h6
      rw [h5,h6]) hb (by omega) (by omega) hj
     rw [hlen] at hv
     refine callsIn_wide.2 (hv.mono ?_)
     rintro e w' ⟨rfl,hbl⟩
     have hf : Foreign B0 G w w' (fun _ => False) := .grow hbl.size (fun b hb => hbl.block b hb) ⟨hbl.os,hbl.output⟩
     refine ⟨G,hf.wr hw,Ext.grow hw hf,_,rfl,?_⟩
     simp only [VR]
     rfl
   ·cases h
  ·cases h
 ·cases h
theorem split_ok {m : Int} (hB : 1 < B0) (hm : w0.cell? ⟨1,0,none⟩ = some (.int .i64 m)) (h : splitR st args = some (some (r,st'))) (hw : WR Tryz.prog B0 w0 G st.heap w) (ha : VRL G w args avs) : ∀ n,CallsIn Fence.wide n Tryz.prog 139 avs.toArray w (CallR Tryz.prog B0 w0 G st w r st') := by
 intro n
 unfold splitR at h
 split at h
 ·rename_i s sep
  split at h
  ·rename_i b hb
   split at h
   ·rename_i hk
    simp only [Option.some.injEq,Prod.mk.injEq] at h
    obtain ⟨rfl,rfl⟩ := h
    obtain ⟨v,vs',rfl,h1,h2⟩ := VRL.cons_iff.1 ha
    obtain ⟨v2,vs2,rfl,h3,h4⟩ := VRL.cons_iff.1 h2
    rw [VRL.nil_iff.1 h4]
    simp only [VR] at h1 h3
    subst h1 h3
    have hm' : w.cell? ⟨1,0,none⟩ = some (.int .i64 m) := by
     rw [cell_of_heap (hw.low.2 1 hB)];exact hm
    have hsep : 1 ≤ sep.size := by
     have : (unB sep).length = 1 := by rw [hb];rfl
     have h5 : sep.size = (unB sep).length := rfl
     omega
    refine callsIn_wide.2 ((Tryz.strings_Split s sep m w (by omega) hm' hsep).mono ?_)
    rintro e w' ⟨rfl,rfl⟩
    obtain ⟨d1,d2⟩ := split_data s sep b hb
    rw [d2,← d1,encS_map]
    have hlen : (Lib.splitB sep 0 (Lib.countB s sep) s).length = Lib.countB s sep + 1 := by rw [← d2,← d1,List.length_map]
    obtain ⟨G',k1,k2,k3⟩ := shared_row hw ((Lib.splitB sep 0 (Lib.countB s sep) s).map PV.str) ((Lib.splitB sep 0 (Lib.countB s sep) s).map Value.string).toArray 9 (by simp) (fun m => strs_low m _) (fun G' w' hh => strs_row _ [] (by simpa using hh)) (Lib.countB s sep + 1) (Lib.countB s sep + 1) (Nat.le_refl _)
    exact ⟨G',k1,k2 _,_,rfl,k3⟩
   ·cases h
  ·cases h
 ·cases h
end
end Go.Den.Ch
end
section
namespace Go.Proofs.ChTry
open Go.RowKit Go.Extern.Stop Go.Stop Go.Extern
section
variable {P : Program} {ops : Array Oper} {Q : Exit → Act → World → Prop} {i : Nat} {rest : List Nat} {a : Act} {w w' : World} {o : Oper}
theorem ops_value {v : Value} (ho : ops[i]? = some o) (hg : o.guard = none) (hr : (execOp a.eval o).run P w = .ok (.value v) w') (h : wpOps P ops Q rest (a.put o.dst v) w') : wpOps P ops Q (i :: rest) a w := by
 simp only [wpOps,ho,Region.wanted,hg,if_true]
 left
 simp only [Oper.wp,Oper.upon,hr]
 exact h
theorem ops_skip (ho : ops[i]? = some o) (hg : o.guard = none) (hr : (execOp a.eval o).run P w = .ok .skip w') (h : wpOps P ops Q rest (a.put o.dst Go.undef) w') : wpOps P ops Q (i :: rest) a w := by
 simp only [wpOps,ho,Region.wanted,hg,if_true]
 left
 simp only [Oper.wp,Oper.upon,hr]
 exact h
theorem ops_defer {d : Deferred} (ho : ops[i]? = some o) (hg : o.guard = none) (hr : (execOp a.eval o).run P w = .ok (.defer d) w') (h : wpOps P ops Q rest ({ a with defers := d :: a.defers }.put o.dst Go.undef) w') : wpOps P ops Q (i :: rest) a w := by
 simp only [wpOps,ho,Region.wanted,hg,if_true]
 left
 simp only [Oper.wp,Oper.upon,hr]
 exact h
theorem ops_call {g : FuncId} {args : Array Value} {R : Ending → World → Prop} (ho : ops[i]? = some o) (hg : o.guard = none) (hr : (execOp a.eval o).run P w = .ok (.enter g args) w) (hc : Calls P g args w R) (h : ∀ e w'',R e w'' → match e with
  | .returned v => wpOps P ops Q rest (a.put o.dst v) w''
  | .panicked chain => Q (.panic chain) a w''
  | .outgrown => False) : wpOps P ops Q (i :: rest) a w := by
 simp only [wpOps,ho,Region.wanted,hg,if_true]
 left
 simp only [Oper.wp,Oper.upon,hr]
 refine hc.mono fun e w'' he => ?_
 have := h e w'' he
 cases e with
 | returned v => exact this
 | panicked chain => exact this
 | outgrown => exact this.elim
theorem ops_nil (h : Q .normal a w) : wpOps P ops Q [] a w := h
theorem store_row {t T : TypeId} {x y : Operand} {g s : Nat} {arr : Array Value} (ho : o.op = .store t x y) (hx : a.eval x = .pointer (some ⟨g,0,none⟩)) (hsz : Go.Den.sizeT P t = some s) (hg : w.heap[g]? = some (Obj.cells arr T (0,0))) (hs : (a.eval y).cells.size = s) (hs2 : arr.size = s) (h1 : ∀ u ∈ (a.eval y).cells.toList,u.oneCell' = true) :
  (execOp a.eval o).run P w = .ok .skip (w.putObj g (Obj.cells (a.eval y).cells T (0,0))) := by
 refine Go.Den.OpRun.unit (by unfold execOp;rw [ho]) ?_
 unfold Instr.storeAt storeVar
 have := Go.Den.run_storeCells_th (P := P) g 0 T (0,0) (a.eval y).cells.toList 0 arr w hg (Go.Den.Thawed.zero _) (by simp;omega) h1
 have e1 : (arr.toList.take 0 ++ (a.eval y).cells.toList ++ arr.toList.drop (0 + (a.eval y).cells.toList.length)).toArray = (a.eval y).cells := by
  rw [List.drop_of_length_le (by simp;omega)];simp
 simp only [Nat.add_zero] at this
 rw [e1] at this
 simp only [hx,Sem.run_bind,Go.Den.sureAddr_run,Result.andThen_ok,Go.Den.sizeOf_run hsz,hs,ne_eq,not_true_eq_false,if_false,this,Sem.run_ite]
end
theorem catch_idle (p q : Addr) (w : World) :
  CallsD Tryz.prog 127 #[.pointer (some p),.pointer (some q)] .returning w fun e u' w' => e = .returned (.tuple #[]) ∧ u' = .returning ∧ w' = w := by
 have hnil : ∀ w : World,(binOp BinOp.eql 20 .nilIface .nilIface).run Tryz.prog w = .ok (.bool true) w := fun _ => by kernel_rfl
 refine callsD_of_wpS Tryz.func127 rfl fun c₀ cs hu => ?_
 apply wpS_seq
 apply wpS_region
 simp [wpOpsS,go_sem,recoverD,hu,Tryz.ntmps127,Exit.thenS]
 have ht : #[Value.pointer (some p),Value.pointer (some q)] ++ (Array.replicate 15 Go.undef).setIfInBounds 4 Value.nilIface = #[.pointer (some p),.pointer (some q),Go.undef,Go.undef,Go.undef,Go.undef,.nilIface,Go.undef,Go.undef,Go.undef,Go.undef,Go.undef,Go.undef,Go.undef,Go.undef,Go.undef,Go.undef] := rfl
 rw [ht]
 refine wpS_of_wp ?_
 apply wp_block
 apply wp_seq
 apply wp_region
 simp [wpOps,go_sem,hnil,Exit.then]
 (repeat apply Or.inl)
 refine wp_cond_true (by simp [Act.eval]) ?_
 apply wp_region
 simp [wpOps,go_sem,Exit.inBlock]
 (repeat apply Or.inl)
 cases c₀
 simp_all [bodyPostS,results,Tryz.results127]
theorem catch_found (n : Nat) (a b c : Int) (x y z e0 : Value) (older : List PanicEntry) (w : World) (hp : w.heap[n]? = some (.cells #[x,y,z] 31 (0,0))) (hq : w.heap[n + 1]? = some (.cells #[e0] 32 (0,0))) :
  CallsD Tryz.prog 127 #[.pointer (some ⟨n,0,none⟩),.pointer (some ⟨n + 1,0,none⟩)] (.panicking ({ v := .iface 133 (.agg #[.int .i64 a,.int .i64 b,.int .i64 c]),recovered := false } :: older)) w fun e u' w' => e = .returned (.tuple #[]) ∧ u' = .panicking ({ v := .iface 133 (.agg #[.int .i64 a,.int .i64 b,.int .i64 c]),recovered := true } :: older) ∧
   w.heap.size ≤ w'.heap.size ∧ (∀ k,k < w.heap.size → k ≠ n → k ≠ n + 1 → w'.heap[k]? = w.heap[k]?) ∧ w'.heap[n]? = some (.cells #[.int .i64 a,.int .i64 b,.int .i64 c] 31 (0,0)) ∧ w'.heap[n + 1]? = some (.cells #[.int .i64 7] 32 (0,0)) ∧ w'.os = w.os ∧ w'.output = w.output := by
 have hnil : ∀ w : World,(binOp BinOp.eql 20 (.iface 133 (.agg #[.int .i64 a,.int .i64 b,.int .i64 c])) .nilIface).run Tryz.prog w = .ok (.bool false) w := fun _ => by kernel_rfl
 have hta : ∀ w : World,(Instr.typeAssert (.iface 133 (.agg #[.int .i64 a,.int .i64 b,.int .i64 c])) 20 133 true).run Tryz.prog w = .ok (.tuple #[.agg #[.int .i64 a,.int .i64 b,.int .i64 c],.bool true]) w := fun _ => by kernel_rfl
 have ln : n < w.heap.size := Go.Den.lt_of_heap hp
 have ln1 : n + 1 < w.heap.size := Go.Den.lt_of_heap hq
 refine callsD_of_wpS Tryz.func127 rfl fun c₀ cs hu => ?_
 apply wpS_seq
 apply wpS_region
 simp [wpOpsS,go_sem,recoverD,hu,Tryz.ntmps127,Exit.thenS]
 have ht : #[Value.pointer (some ⟨n,0,none⟩),Value.pointer (some ⟨n + 1,0,none⟩)] ++ (Array.replicate 15 Go.undef).setIfInBounds 4 (.iface 133 (.agg #[.int .i64 a,.int .i64 b,.int .i64 c])) = #[.pointer (some ⟨n,0,none⟩),.pointer (some ⟨n + 1,0,none⟩),Go.undef,Go.undef,Go.undef,Go.undef,.iface 133 (.agg #[.int .i64 a,.int .i64 b,.int .i64 c]),Go.undef,Go.undef,Go.undef,Go.undef,Go.undef,Go.undef,Go.undef,Go.undef,Go.undef,Go.undef] := rfl
 rw [ht]
 refine wpS_of_wp ?_
 apply wp_block
 apply wp_seq
 apply wp_region
 simp [wpOps,go_sem,hnil,Exit.then]
 (repeat apply Or.inl)
 refine wp_cond_false (by simp [Act.eval]) ?_
 apply wp_seq
 apply wp_region
 simp [wpOps,go_sem,Exit.then,hta]
 (repeat apply Or.inl)
 refine wp_cond_true (by simp [Act.eval]) ?_
 apply wp_seq
 apply wp_region
 refine ops_value (v := .pointer (some ⟨w.heap.size,0,none⟩)) (w' := w.alloc (.cells #[.int .i64 0,.int .i64 0,.int .i64 0] 133 (0,0))) rfl rfl (by simp [go_sem]) ?_
 refine ops_skip (w' := (w.alloc (.cells #[.int .i64 0,.int .i64 0,.int .i64 0] 133 (0,0))).putObj w.heap.size (.cells #[.int .i64 a,.int .i64 b,.int .i64 c] 133 (0,0))) rfl rfl (store_row (t := 133) (x := .tmp 3) (y := .tmp 11) (arr := #[.int .i64 0,.int .i64 0,.int .i64 0]) (s := 3) rfl rfl (by kernel_rfl) (Go.Den.heap_alloc_new _ _) rfl rfl (by simp [Act.eval,Act.put,Value.cells,Value.oneCell'])) ?_
 apply ops_nil
 generalize hW : (w.alloc (.cells #[.int .i64 0,.int .i64 0,.int .i64 0] 133 (0,0))).putObj w.heap.size (.cells #[.int .i64 a,.int .i64 b,.int .i64 c] 133 (0,0)) = W
 have hWos : W.os = w.os ∧ W.output = w.output := by rw [← hW];exact ⟨rfl,rfl⟩
 have hWs : w.heap.size ≤ W.heap.size := by rw [← hW,Go.Den.size_put,Go.Den.size_alloc];omega
 have hWo : ∀ k,k < w.heap.size → W.heap[k]? = w.heap[k]? := fun k hk => by rw [← hW,Go.Den.heap_put_other (by omega),Go.Den.heap_alloc_lt _ _ hk]
 have hWn : W.heap[w.heap.size]? = some (.cells #[.int .i64 a,.int .i64 b,.int .i64 c] 133 (0,0)) := by rw [← hW,Go.Den.heap_put_same (by rw [Go.Den.size_alloc];omega)]
 have c0 : W.cell? ⟨w.heap.size,0,none⟩ = some (.int .i64 a) := by rw [Go.Den.cell_row hWn];rfl
 have c1 : W.cell? ⟨w.heap.size,1,none⟩ = some (.int .i64 b) := by rw [Go.Den.cell_row hWn];rfl
 have c2 : W.cell? ⟨w.heap.size,2,none⟩ = some (.int .i64 c) := by rw [Go.Den.cell_row hWn];rfl
 show Code.wp _ _ _ _ _
 apply wp_region
 refine ops_value (v := .pointer (some ⟨w.heap.size,0,none⟩)) (w' := W) rfl rfl (by simp [go_sem,Act.put]) ?_
 refine ops_value (v := .agg #[.int .i64 a,.int .i64 b,.int .i64 c]) (w' := W) rfl rfl (by simp [go_sem,Act.put,c0,c1,c2]) ?_
 refine ops_skip (w' := W.putObj n (.cells #[.int .i64 a,.int .i64 b,.int .i64 c] 31 (0,0))) rfl rfl (store_row (t := 31) (x := .tmp 0) (y := .tmp 13) (arr := #[x,y,z]) (s := 3) rfl rfl (by kernel_rfl) ((hWo n ln).trans hp) rfl rfl (by simp [Act.eval,Act.put,Value.cells,Value.oneCell'])) ?_
 refine ops_skip (w' := (W.putObj n (.cells #[.int .i64 a,.int .i64 b,.int .i64 c] 31 (0,0))).putObj (n + 1) (.cells #[.int .i64 7] 32 (0,0))) rfl rfl (store_row (t := 32) (x := .tmp 1) (y := .const (.int .i64 7)) (arr := #[e0]) (s := 1) rfl rfl (by kernel_rfl) (by rw [Go.Den.heap_put_other (by omega)];exact (hWo (n + 1) ln1).trans hq) rfl rfl (by simp [Act.eval,Act.put,Value.cells,Value.oneCell'])) ?_
 apply ops_nil
 refine ⟨rfl,_,rfl,.tuple #[],by simp [results,Tryz.results127],rfl,rfl,?_,fun k hk h1 h2 => ?_,?_,?_,hWos⟩
 ·rw [Go.Den.size_put,Go.Den.size_put];exact hWs
 ·rw [Go.Den.heap_put_other h2,Go.Den.heap_put_other h1,hWo k hk]
 ·rw [Go.Den.heap_put_other (by omega),Go.Den.heap_put_same (by omega)]
 ·rw [Go.Den.heap_put_same (by rw [Go.Den.size_put];omega)]
theorem catch_none (n : Nat) (t : ByteArray) (x y z e0 : Value) (older : List PanicEntry) (w : World) (hp : w.heap[n]? = some (.cells #[x,y,z] 31 (0,0))) (hq : w.heap[n + 1]? = some (.cells #[e0] 32 (0,0))) :
  CallsD Tryz.prog 127 #[.pointer (some ⟨n,0,none⟩),.pointer (some ⟨n + 1,0,none⟩)] (.panicking ({ v := (.iface 135 (.agg #[.string t])),recovered := false } :: older)) w fun e u' w' => e = .returned (.tuple #[]) ∧ u' = .panicking ({ v := (.iface 135 (.agg #[.string t])),recovered := true } :: older) ∧
   w.heap.size ≤ w'.heap.size ∧ (∀ k,k < w.heap.size → k ≠ n → k ≠ n + 1 → w'.heap[k]? = w.heap[k]?) ∧ w'.heap[n]? = some (.cells #[x,y,z] 31 (0,0)) ∧ w'.heap[n + 1]? = some (.cells #[.int .i64 4] 32 (0,0)) ∧ w'.os = w.os ∧ w'.output = w.output := by
 have hnil : ∀ w : World,(binOp BinOp.eql 20 (.iface 135 (.agg #[.string t])) .nilIface).run Tryz.prog w = .ok (.bool false) w := fun _ => by kernel_rfl
 have hta : ∀ w : World,(Instr.typeAssert (.iface 135 (.agg #[.string t])) 20 133 true).run Tryz.prog w = .ok (.tuple #[.agg #[.int .i64 0,.int .i64 0,.int .i64 0],.bool false]) w := fun _ => by kernel_rfl
 have htb : ∀ w : World,(Instr.typeAssert (.iface 135 (.agg #[.string t])) 20 135 true).run Tryz.prog w = .ok (.tuple #[.agg #[.string t],.bool true]) w := fun _ => by kernel_rfl
 have ln : n < w.heap.size := Go.Den.lt_of_heap hp
 have ln1 : n + 1 < w.heap.size := Go.Den.lt_of_heap hq
 refine callsD_of_wpS Tryz.func127 rfl fun c₀ cs hu => ?_
 apply wpS_seq
 apply wpS_region
 simp [wpOpsS,go_sem,recoverD,hu,Tryz.ntmps127,Exit.thenS]
 have ht : #[Value.pointer (some ⟨n,0,none⟩),Value.pointer (some ⟨n + 1,0,none⟩)] ++ (Array.replicate 15 Go.undef).setIfInBounds 4 (.iface 135 (.agg #[.string t])) = #[.pointer (some ⟨n,0,none⟩),.pointer (some ⟨n + 1,0,none⟩),Go.undef,Go.undef,Go.undef,Go.undef,(.iface 135 (.agg #[.string t])),Go.undef,Go.undef,Go.undef,Go.undef,Go.undef,Go.undef,Go.undef,Go.undef,Go.undef,Go.undef] := rfl
 rw [ht]
 refine wpS_of_wp ?_
 apply wp_block
 apply wp_seq
 apply wp_region
 simp [wpOps,go_sem,hnil,Exit.then]
 (repeat apply Or.inl)
 refine wp_cond_false (by simp [Act.eval]) ?_
 apply wp_seq
 apply wp_region
 simp [wpOps,go_sem,Exit.then,hta]
 (repeat apply Or.inl)
 refine wp_cond_false (by simp [Act.eval]) ?_
 apply wp_seq
 apply wp_region
 simp [wpOps,go_sem,Exit.then,htb]
 (repeat apply Or.inl)
 refine wp_cond_true (by simp [Act.eval]) ?_
 apply wp_seq
 apply wp_region
 refine ops_value (v := .pointer (some ⟨w.heap.size,0,none⟩)) (w' := w.alloc (.cells #[.string ⟨#[]⟩] 135 (0,0))) rfl rfl (by simp [go_sem]) ?_
 refine ops_skip (w' := (w.alloc (.cells #[.string ⟨#[]⟩] 135 (0,0))).putObj w.heap.size (.cells #[.string t] 135 (0,0))) rfl rfl (store_row (t := 135) (x := .tmp 4) (y := .tmp 16) (arr := #[.string ⟨#[]⟩]) (s := 1) rfl rfl (by kernel_rfl) (Go.Den.heap_alloc_new _ _) rfl rfl (by simp [Act.eval,Act.put,Value.cells,Value.oneCell'])) ?_
 apply ops_nil
 generalize hW : (w.alloc (.cells #[.string ⟨#[]⟩] 135 (0,0))).putObj w.heap.size (.cells #[.string t] 135 (0,0)) = W
 have hWos : W.os = w.os ∧ W.output = w.output := by rw [← hW];exact ⟨rfl,rfl⟩
 have hWs : w.heap.size ≤ W.heap.size := by rw [← hW,Go.Den.size_put,Go.Den.size_alloc];omega
 have hWo : ∀ k,k < w.heap.size → W.heap[k]? = w.heap[k]? := fun k hk => by rw [← hW,Go.Den.heap_put_other (by omega),Go.Den.heap_alloc_lt _ _ hk]
 show Code.wp _ _ _ _ _
 apply wp_region
 refine ops_skip (w' := W.putObj (n + 1) (.cells #[.int .i64 4] 32 (0,0))) rfl rfl (store_row (t := 32) (x := .tmp 1) (y := .const (.int .i64 4)) (arr := #[e0]) (s := 1) rfl rfl (by kernel_rfl) ((hWo (n + 1) ln1).trans hq) rfl rfl (by simp [Act.eval,Act.put,Value.cells,Value.oneCell'])) ?_
 apply ops_nil
 refine ⟨rfl,_,rfl,.tuple #[],by simp [results,Tryz.results127],rfl,rfl,?_,fun k hk h1 h2 => ?_,?_,?_,hWos⟩
 ·rw [Go.Den.size_put];exact hWs
 ·rw [Go.Den.heap_put_other h2,hWo k hk]
 ·rw [Go.Den.heap_put_other (by omega),hWo n ln];exact hp
 ·rw [Go.Den.heap_put_same (by omega)]
theorem try_leaves (n : Nat) (a b c d : Int) (R : Ending → World → Prop) (tm : Array Value) (h2 : tm[2]?.getD Go.undef = .pointer (some ⟨n,0,none⟩)) (h3 : tm[3]?.getD Go.undef = .pointer (some ⟨n + 1,0,none⟩)) (u : FrameMode) (hu : settle u = .returning) (w : World) (hp : w.heap[n]? = some (.cells #[.int .i64 a,.int .i64 b,.int .i64 c] 31 (0,0))) (hq : w.heap[n + 1]? = some (.cells #[.int .i64 d] 32 (0,0)))
  (hR : R (.returned (.tuple #[.agg #[.int .i64 a,.int .i64 b,.int .i64 c],.int .i64 d])) w) : Leaves Tryz.prog Tryz.f79 tm R [] (settle u) w := by
 have c0 : w.cell? ⟨n,0,none⟩ = some (.int .i64 a) := by rw [Go.Den.cell_row hp];rfl
 have c1 : w.cell? ⟨n,1,none⟩ = some (.int .i64 b) := by rw [Go.Den.cell_row hp];rfl
 have c2 : w.cell? ⟨n,2,none⟩ = some (.int .i64 c) := by rw [Go.Den.cell_row hp];rfl
 have c3 : w.cell? ⟨n + 1,0,none⟩ = some (.int .i64 d) := by rw [Go.Den.cell_row hq];rfl
 rw [hu]
 refine ⟨_,?_,hR⟩
 simp [results,Tryz.results79,go_sem,h2,h3,c0,c1,c2,c3]
def tryW (w : World) : World := (w.alloc (.cells #[.int .i64 0,.int .i64 0,.int .i64 0] 31 (0,0))).alloc (.cells #[.int .i64 0] 32 (0,0))
def TryR (n : Nat) (w2 w' : World) (a b c d : Int) : Prop := w2.heap.size ≤ w'.heap.size ∧ (∀ k,k < w2.heap.size → k ≠ n → k ≠ n + 1 → w'.heap[k]? = w2.heap[k]?) ∧ w'.heap[n]? = some (.cells #[.int .i64 a,.int .i64 b,.int .i64 c] 31 (0,0)) ∧ w'.heap[n + 1]? = some (.cells #[.int .i64 d] 32 (0,0)) ∧ w'.os = w2.os ∧ w'.output = w2.output
set_option maxHeartbeats 4000000 in
theorem try_walk {g : FuncId} {fi ca : Array Value} {w : World} (hE : Go.Den.Enterable Tryz.prog g) {Rd : World → Prop} (a b c d : Int)
  (hdo : Calls Tryz.prog g (fi ++ #[] ++ ca) (tryW w) fun e w2 => ((∃ v,e = .returned v ∧ a = 0 ∧ b = 0 ∧ c = 0 ∧ d = 0) ∨ (e = .panicked [{ v := .iface 133 (.agg #[.int .i64 a,.int .i64 b,.int .i64 c]),recovered := false }] ∧ d = 7) ∨ (∃ t,e = .panicked [{ v := .iface 135 (.agg #[.string t]),recovered := false }] ∧ a = 0 ∧ b = 0 ∧ c = 0 ∧ d = 4)) ∧ Rd w2 ∧ w2.heap[w.heap.size]? = some (.cells #[.int .i64 0,.int .i64 0,.int .i64 0] 31 (0,0)) ∧ w2.heap[w.heap.size + 1]? = some (.cells #[.int .i64 0] 32 (0,0))) :
  Calls Tryz.prog 79 #[.func (.func g) fi ca] w fun e w' => e = .returned (.tuple #[.agg #[.int .i64 a,.int .i64 b,.int .i64 c],.int .i64 d]) ∧ ∃ w2,Rd w2 ∧ TryR w.heap.size w2 w' a b c d := by
 have hmf : ∀ (fn : Fn) (first cap : Array Value) (w : World),(Instr.makeFunc fn first cap).run Tryz.prog w = .ok (.func fn first cap) w := fun _ _ _ _ => rfl
 have e00 : fi ++ #[] ++ ca = fi ++ ca := by simp
 rw [e00] at hdo
 refine calls_of_wp_defers Tryz.func79 rfl ?_
 have ht : (#[Value.func (.func g) fi ca] : Array Value) ++ Array.replicate (Tryz.f79.ntmps - 1) Go.undef = #[.func (.func g) fi ca,Go.undef,Go.undef,Go.undef,Go.undef,Go.undef,Go.undef,Go.undef] := rfl
 show Code.wp _ _ _ { tmps := #[Value.func (.func g) fi ca] ++ Array.replicate (Tryz.f79.ntmps - 1) Go.undef,defers := [] } _
 rw [ht]
 apply wp_seq
 apply wp_region
 refine ops_value (v := .pointer (some ⟨w.heap.size,0,none⟩)) (w' := w.alloc (.cells #[.int .i64 0,.int .i64 0,.int .i64 0] 31 (0,0))) rfl rfl (by simp [go_sem]) ?_
 refine ops_value (v := .pointer (some ⟨w.heap.size + 1,0,none⟩)) (w' := tryW w) rfl rfl (by simp [go_sem,tryW,Go.Den.size_alloc]) ?_
 apply ops_nil
 show Code.wp _ _ _ _ _
 apply wp_seq
 apply wp_region
 refine ops_value (v := .func (.func 127) #[] #[.pointer (some ⟨w.heap.size,0,none⟩),.pointer (some ⟨w.heap.size + 1,0,none⟩)]) (w' := tryW w) rfl rfl (by simp [go_sem,Act.put,hmf]) ?_
 refine ops_defer (d := { target := .fn (.func 127) #[.pointer (some ⟨w.heap.size,0,none⟩),.pointer (some ⟨w.heap.size + 1,0,none⟩)],args := #[] }) (w' := tryW w) rfl rfl (by simp [go_sem,Act.put]) ?_
 apply ops_nil
 show Code.wp _ _ _ _ _
 apply wp_seq
 apply wp_region
 refine ops_value (v := .func (.func g) fi ca) (w' := tryW w) rfl rfl (by simp [go_sem,Act.put]) ?_
 refine ops_call (g := g) (args := fi ++ ca) rfl rfl (by
  have h := Go.Den.callFunc_run hE (fi ++ ca) (tryW w)
  simp [go_sem,Act.put,invoke,h]) hdo ?_
 rintro e w2 ⟨he,hRd,hn,hn1⟩
 have hi : (invoke (.fn (.func 127) #[.pointer (some ⟨w.heap.size,0,none⟩),.pointer (some ⟨w.heap.size + 1,0,none⟩)]) #[]).run Tryz.prog w2 = .ok (.enter 127 #[.pointer (some ⟨w.heap.size,0,none⟩),.pointer (some ⟨w.heap.size + 1,0,none⟩)]) w2 := by simp [go_sem,invoke]
 rcases he with ⟨v,rfl,rfl,rfl,rfl,rfl⟩ | ⟨rfl,rfl⟩ | ⟨t,rfl,rfl,rfl,rfl,rfl⟩
 ·apply ops_nil
  show Code.wp _ _ _ _ _
  apply wp_seq
  apply wp_region
  have ln : w.heap.size < w2.heap.size := Go.Den.lt_of_heap hn
  have ln1 : w.heap.size + 1 < w2.heap.size := Go.Den.lt_of_heap hn1
  refine ops_value (v := .agg #[.int .i64 0,.int .i64 0,.int .i64 0]) (w' := w2) rfl rfl (by simp [go_sem]) ?_
  refine ops_skip (w' := w2.putObj w.heap.size (.cells #[.int .i64 0,.int .i64 0,.int .i64 0] 31 (0,0))) rfl rfl (store_row (t := 31) (x := .tmp 2) (y := .tmp 7) (arr := #[.int .i64 0,.int .i64 0,.int .i64 0]) (s := 3) rfl rfl (by kernel_rfl) hn rfl rfl (by simp [Act.eval,Act.put,Value.cells,Value.oneCell'])) ?_
  refine ops_skip (w' := (w2.putObj w.heap.size (.cells #[.int .i64 0,.int .i64 0,.int .i64 0] 31 (0,0))).putObj (w.heap.size + 1) (.cells #[.int .i64 0] 32 (0,0))) rfl rfl (store_row (t := 32) (x := .tmp 3) (y := .const (.int .i64 0)) (arr := #[.int .i64 0]) (s := 1) rfl rfl (by kernel_rfl) (by rw [Go.Den.heap_put_other (by omega)];exact hn1) rfl rfl (by simp [Act.eval,Act.put,Value.cells,Value.oneCell'])) ?_
  apply ops_nil
  show Code.wp _ _ _ _ _
  apply wp_ret
  have hi2 : ∀ W : World,(invoke (.fn (.func 127) #[.pointer (some ⟨w.heap.size,0,none⟩),.pointer (some ⟨w.heap.size + 1,0,none⟩)]) #[]).run Tryz.prog W = .ok (.enter 127 #[.pointer (some ⟨w.heap.size,0,none⟩),.pointer (some ⟨w.heap.size + 1,0,none⟩)]) W := fun W => by simp [go_sem,invoke]
  refine leaves_cons (by simp) (hi2 _) ?_
  refine (catch_idle ⟨w.heap.size,0,none⟩ ⟨w.heap.size + 1,0,none⟩ _).mono ?_
  rintro e u' w'' ⟨rfl,rfl,rfl⟩
  have g1 : ((w2.putObj w.heap.size (.cells #[.int .i64 0,.int .i64 0,.int .i64 0] 31 (0,0))).putObj (w.heap.size + 1) (.cells #[.int .i64 0] 32 (0,0))).heap[w.heap.size]? = some (.cells #[.int .i64 0,.int .i64 0,.int .i64 0] 31 (0,0)) := by
   rw [Go.Den.heap_put_other (by omega),Go.Den.heap_put_same ln]
  have g2 : ((w2.putObj w.heap.size (.cells #[.int .i64 0,.int .i64 0,.int .i64 0] 31 (0,0))).putObj (w.heap.size + 1) (.cells #[.int .i64 0] 32 (0,0))).heap[w.heap.size + 1]? = some (.cells #[.int .i64 0] 32 (0,0)) := by
   rw [Go.Den.heap_put_same (by rw [Go.Den.size_put];exact ln1)]
  refine try_leaves w.heap.size 0 0 0 0 _ _ rfl rfl .returning rfl _ g1 g2 ⟨rfl,w2,hRd,?_,fun k hk h1 h2 => ?_,g1,g2,rfl,rfl⟩
  ·rw [Go.Den.size_put,Go.Den.size_put];exact Nat.le_refl _
  ·rw [Go.Den.heap_put_other h2,Go.Den.heap_put_other h1]
 ·refine leaves_cons (by simp) hi ?_
  refine (catch_found w.heap.size a b c _ _ _ _ [] w2 hn hn1).mono ?_
  rintro e u' w'' ⟨rfl,rfl,h1,h2,h3,h4,h5⟩
  exact try_leaves w.heap.size a b c 7 _ _ rfl rfl _ rfl _ h3 h4 ⟨rfl,w2,hRd,h1,h2,h3,h4,h5⟩
 ·refine leaves_cons (by simp) hi ?_
  refine (catch_none w.heap.size t _ _ _ _ [] w2 hn hn1).mono ?_
  rintro e u' w'' ⟨rfl,rfl,h1,h2,h3,h4,h5⟩
  exact try_leaves w.heap.size 0 0 0 4 _ _ rfl rfl _ rfl _ h3 h4 ⟨rfl,w2,hRd,h1,h2,h3,h4,h5⟩
end Go.Proofs.ChTry
end

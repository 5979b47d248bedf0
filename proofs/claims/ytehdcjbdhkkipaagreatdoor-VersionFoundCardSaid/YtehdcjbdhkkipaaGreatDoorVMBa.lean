/- Part of the proofs of laws of the package version. Texts: VnPrimA, VnPrimB, VnPrimG, VnPrimC, VnEntry. -/
import Derived.Test.YtehdcjbdhkkipaaGreatDoorVMAz
import Derived.Test.YtehdcjbdhkkipaaGreatDoorVMAq
import Derived.Test.YtehdcjbdhkkipaaGreatDoorVMAk
import Derived.Test.YtehdcjbdhkkipaaGreatDoorChecked
import Derived.WalkKit
import Derived.Defers
import Derived.Recover
import Derived.Lib.AppendZeros
import Derived.ProofKit
import Derived.HandedShaped
import Derived.Shelf.Vars
import Derived.LaidLaws
import Derived.Lay
import Derived.LaidHandle
set_option linter.unusedSimpArgs false
set_option linter.unusedVariables false
section
namespace Go.Den.Ve
open Go.Proofs
def cutS (b:UInt8):List UInt8→List (List UInt8)
 | []=>[[]]
 | x::xs=>if x=b then []::cutS b xs else match cutS b xs with
  | h::t=>(x::h)::t
  | []=>[[x]]
theorem cutS_cons(b:UInt8)(s:List UInt8):∃ h t,cutS b s=h::t:=by
 cases s with
 | nil=>exact⟨_,_,rfl⟩
 | cons x xs =>
  simp only[cutS]
  split
  ·exact⟨_,_,rfl⟩
  ·split <;> exact⟨_,_,rfl⟩
theorem splitL_cut(b:UInt8):∀ (s acc h:List UInt8) (t:List (List UInt8)),cutS b s=h::t→splitL b acc s=(acc++h)::t
 | [],acc,h,t,e=>by simp only[cutS,List.cons.injEq] at e;obtain⟨rfl,rfl⟩:=e;simp[splitL]
 | x::xs,acc,h,t,e=>by
  obtain⟨h',t',e'⟩:=cutS_cons b xs
  simp only[cutS,e'] at e
  simp only[splitL]
  split at e
  ·rename_i hx
   rw[if_pos hx]
   simp only[List.cons.injEq] at e
   obtain⟨rfl,rfl⟩:=e
   rw[splitL_cut b xs [] h' t' e']
   simp
  ·rename_i hx
   rw[if_neg hx]
   simp only[List.cons.injEq] at e
   obtain⟨rfl,rfl⟩:=e
   rw[splitL_cut b xs (acc++[x]) h' t' e']
   simp
theorem splitL_cutS(b:UInt8)(s:List UInt8):splitL b [] s=cutS b s:=by
 obtain⟨h,t,e⟩:=cutS_cons b s
 rw[splitL_cut b s [] h t e,e];rfl
theorem index_cons(b x:UInt8)(l:List UInt8):Lib.index (x::l) [b]=if x=b then 0 else if Lib.index l [b] == -1 then -1 else Lib.index l [b]+1:=by
 rw[Lib.index]
 by_cases h:x=b
 ·subst h;simp
 ·have:(b==x)=false:=by rw[beq_eq_false_iff_ne];exact fun e=>h e.symm
  have h2:¬ b=x:=fun e=>h e.symm
  simp[h2,h]
theorem cutS_miss(b:UInt8):∀ s:List UInt8,Lib.index s [b] = -1→cutS b s=[s]
 | [],_=>rfl
 | x::l,h=>by
  rw[index_cons] at h
  split at h
  ·omega
  ·rename_i hx
   have:=Lib.index_ge l [b]
   split at h
   ·rename_i h1
    simp only[cutS,if_neg hx,cutS_miss b l (eq_of_beq h1)]
   ·omega
theorem cutS_hit(b:UInt8):∀ (s:List UInt8) (i:Nat),Lib.index s [b]=i→cutS b s=s.take i::cutS b (s.drop (i+1))
 | [],i,h=>by simp[Lib.index] at h
 | x::l,i,h=>by
  rw[index_cons] at h
  split at h
  ·rename_i hx
   have:i=0:=by omega
   subst this
   simp only[cutS,if_pos hx];rfl
  ·rename_i hx
   split at h
   ·omega
   ·have hg:=Lib.index_ge l [b]
    rename_i hn
    have hn':Lib.index l [b] ≠ -1:=fun e=>hn (by rw[e];rfl)
    obtain⟨j,rfl⟩:∃ j,i=j+1:=⟨i - 1,by omega⟩
    have ih:=cutS_hit b l j (by omega)
    simp only[cutS,if_neg hx,ih]
    rfl
theorem splitK_cut(b:UInt8):∀ (n:Nat) (s:List UInt8),s.length<n→Lib.splitK [b] 0 (Lib.countFrom [b] n s) s=cutS b s∧(cutS b s).length=Lib.countFrom [b] n s+1
 | 0,s,h=>by omega
 | n+1,s,h=>by
  have hg:=Lib.index_ge s [b]
  by_cases hi:Lib.index s [b] = -1
  ·have h1:(Lib.index s [b] == -1)=true:=by rw[hi];rfl
   simp only[Lib.countFrom,h1,if_true,Lib.splitK]
   rw[cutS_miss b s hi]
   exact⟨rfl,rfl⟩
  ·have h1:(Lib.index s [b] == -1)=false:=by rw[beq_eq_false_iff_ne];exact hi
   obtain⟨i,e⟩:∃ i:Nat,Lib.index s [b]=i:=⟨(Lib.index s [b]).toNat,by omega⟩
   have hc:=cutS_hit b s i e
   have hi2:i<s.length:=by
    have:=Lib.index_room s [b] (by omega)
    simp at this;omega
   obtain⟨k1,k2⟩:=splitK_cut b n (s.drop (i+1)) (by simp;omega)
   have e2:(Lib.index s [b]).toNat=i:=by omega
   simp only[Lib.countFrom,h1,Bool.false_eq_true,if_false,e2,List.length_cons,List.length_nil,Nat.zero_add]
   rw[Nat.add_comm 1]
   simp only[Lib.splitK,h1,Bool.false_eq_true,if_false,e2,List.length_cons,List.length_nil,Nat.zero_add,Nat.add_zero]
   rw[k1,hc]
   exact⟨rfl,by simp only[List.length_cons];omega⟩
theorem split_data(s sep:ByteArray)(b:UInt8)(hb:unB sep=[b]):(Lib.splitB sep 0 (Lib.countB s sep) s).map unB=splitL b [] (unB s)∧(splitL b [] (unB s)).length=Lib.countB s sep+1:=by
 have h1:=Lib.splitB_data sep 0 (Lib.countB s sep) s
 have hb':sep.data.toList=[b]:=hb
 have hc:Lib.countB s sep=Lib.countFrom [b] ((unB s).length+1) (unB s):=by
  show Lib.count s.data.toList sep.data.toList=_
  rw[hb'];rfl
 rw[hc] at h1 ⊢
 rw[hb'] at h1
 obtain⟨k1,k2⟩:=splitK_cut b ((unB s).length+1) (unB s) (by omega)
 rw[splitL_cutS]
 exact⟨h1.trans k1,k2⟩
theorem strs_row{G:Gh}{w:World}{b:Nat}{T:TypeId}:∀ (l pre:List ByteArray),w.heap[b]? = some (Obj.cells ((pre++l).map Value.string).toArray T (0,0))→VRC G w (l.map PV.str) b pre.length
 | [],pre,h=>by simp only[List.map_nil,VRC]
 | s::l,pre,h=>by
  simp only[List.map_cons,VRC]
  refine⟨⟨.string s,?_,by simp only[VR]⟩,?_⟩
  ·rw[cell_row h];simp
  ·have:=strs_row (G:=G) l (pre++[s]) (by simpa using h)
   simpa using this
theorem encS_map(l:List ByteArray):(l.map unB).flatMap encS=l.map PV.str:=by
 induction l with
 | nil=>rfl
 | cons s l ih=>rw[List.map_cons,List.flatMap_cons,ih];rfl
theorem strs_low(m:Nat):∀ l:List ByteArray,lowL m (l.map PV.str)=true
 | []=>rfl
 | s::l=>by simp only[List.map_cons,lowL,PV.low,strs_low m l,Bool.and_self]
theorem enter152:Enterable Tryz.prog 152:=⟨_,Tryz.func152,by kernel_rfl,by kernel_rfl⟩
theorem enter153:Enterable Tryz.prog 153:=⟨_,Tryz.func153,by kernel_rfl,by kernel_rfl⟩
theorem enter155:Enterable Tryz.prog 155:=⟨_,Tryz.func155,by kernel_rfl,by kernel_rfl⟩
theorem digits_itoa:∀ i,i<100→Lib.decDigits i=itoaL i:=by decide +kernel
section
variable{B0:Nat}{w0 w:World}{G:Gh}{st st':St}{args:List PV}{avs:List Value}{r:CR}
theorem callR_same(hw:WR Tryz.prog B0 w0 G st.heap w){v:PV}{u:Value}(hv:VR G w v u):CallR Tryz.prog B0 w0 G st w (.ret v) st (.returned u) w :=
 ⟨G,hw,Ext.refl _ _ _ _,u,rfl,hv⟩
theorem itoa_ok(h:itoaR st args=some (some (r,st')))(hw:WR Tryz.prog B0 w0 G st.heap w)(ha:VRL G w args avs):∀ n,CallsIn Fence.wide n Tryz.prog 152 avs.toArray w (CallR Tryz.prog B0 w0 G st w r st'):=by
 intro n
 unfold itoaR at h
 split at h
 ·rename_i k
  split at h
  ·rename_i hk
   simp only[Option.some.injEq,Prod.mk.injEq] at h
   obtain⟨rfl,rfl⟩:=h
   obtain⟨v,vs',rfl,h1,h2⟩:=VRL.cons_iff.1 ha
   rw[VRL.nil_iff.1 h2]
   simp only[VR] at h1
   subst h1
   obtain⟨i,rfl⟩:∃ i:Nat,k=i:=⟨k.toNat,by omega⟩
   refine callsIn_wide.2 ((Tryz.strconv_Itoa_small i (by omega) w).mono ?_)
   rintro e w' ⟨rfl,rfl⟩
   refine callR_same hw ?_
   rw[digits_itoa i (by omega),Int.toNat_natCast]
   simp only[VR]
   rfl
  ·cases h
 ·cases h
theorem strs_eq:∀ {cs:List PV} {l:List ByteArray},strs cs=some l→cs=l.map PV.str
 | [],l,h=>by simp only[strs,Option.some.injEq] at h;subst h;rfl
 | c::cs,l,h=>by
  cases c with
  | str s =>
   simp only[strs,Option.map_eq_some_iff] at h
   obtain⟨l',h1,rfl⟩:=h
   rw[strs_eq h1];rfl
  | _=>simp[strs] at h
theorem VRC_get{G:Gh}{w:World}:∀ {cs:List PV} {b off j:Nat} {p:PV},VRC G w cs b off→cs[j]? = some p→∃ v,w.cell? ⟨b,off+j,none⟩=some v∧VR G w p v
 | [],b,off,j,p,h,hj=>by simp at hj
 | c::cs,b,off,0,p,h,hj=>by
  simp only[VRC] at h
  simp only[List.getElem?_cons_zero,Option.some.injEq] at hj
  subst hj
  exact h.1
 | c::cs,b,off,j+1,p,h,hj=>by
  simp only[VRC] at h
  simp only[List.getElem?_cons_succ] at hj
  obtain⟨v,h1,h2⟩:=VRC_get h.2 hj
  exact⟨v,by rw[← h1];congr 2;omega,h2⟩
theorem join_ok(h:joinR st args=some (some (r,st')))(hw:WR Tryz.prog B0 w0 G st.heap w)(ha:VRL G w args avs):∀ n,CallsIn Fence.wide n Tryz.prog 153 avs.toArray w (CallR Tryz.prog B0 w0 G st w r st'):=by
 intro n
 unfold joinR at h
 split at h
 ·rename_i o k cs sep
  split at h
  ·rename_i l hl
   split at h
   ·rename_i hk
    simp only[Option.some.injEq,Prod.mk.injEq] at h
    obtain⟨rfl,rfl⟩:=h
    obtain⟨v,vs',rfl,h1,h2⟩:=VRL.cons_iff.1 ha
    obtain⟨v2,vs2,rfl,h3,h4⟩:=VRL.cons_iff.1 h2
    rw[VRL.nil_iff.1 h4]
    simp only[VR] at h1 h3
    subst h3
    rcases h1 with ⟨b,off,cap,rfl,hcap,hcm,_,hrow⟩|⟨_,rfl,rfl,x0,rfl⟩
    rotate_left
    ·have h0:l=[]:=by simpa[strs] using hl
     subst h0
     refine callsIn_wide.2 ((Tryz.strings_Join_none _ 0 sep w).mono ?_)
     rintro e w' ⟨rfl,rfl⟩
     refine callR_same hw ?_
     simp only[VR]
     simp[List.intercalate,toB]
    have hcs:=strs_eq hl
    have hlen:l.length=k:=by rw[hk.1,hcs,List.length_map]
    by_cases h0:l=[]
    ·subst h0
     have hk0:k=0:=by rw[← hlen];rfl
     subst hk0
     refine callsIn_wide.2 ((Tryz.strings_Join_none _ cap sep w).mono ?_)
     rintro e w' ⟨rfl,rfl⟩
     refine callR_same hw ?_
     simp only[VR]
     simp[List.intercalate,toB]
    ·have hne:cs≠[]:=by rw[hcs];simpa using h0
     obtain⟨m,hm1,hm2⟩:=hcm hne
     have hb:=hw.cmLt hm1
     have hj:(Lib.join (l.map (·.data.toList)) sep.data.toList).length≤140737488355328:=by
      have hl2:∀ (xs:List ByteArray),(∀ s∈xs,s.size≤1000)→(Lib.join (xs.map (·.data.toList)) sep.data.toList).length≤xs.length*2000:=by
       intro xs hxs
       cases xs with
       | nil=>simp[Lib.join,List.intercalate]
       | cons x xs =>
        rw[List.map_cons,Lib.join_cons]
        have hx:x.data.toList.length≤1000:=hxs x (by simp)
        have ht:∀ ys:List ByteArray,(∀ s∈ys,s.size≤1000)→(Lib.joinTail sep.data.toList (ys.map (·.data.toList))).length≤ys.length*2000:=by
         intro ys hys
         induction ys with
         | nil=>simp[Lib.joinTail]
         | cons y ys ih =>
          have h5:=ih (fun s hs=>hys s (by simp[hs]))
          have h6:y.data.toList.length≤1000:=hys y (by simp)
          have h7:sep.data.toList.length≤1000:=hk.2.2.1
          simp only[Lib.joinTail,List.map_cons,List.flatten_cons,List.length_append,List.length_cons] at h5 ⊢
          omega
        have h8:=ht xs (fun s hs=>hxs s (by simp[hs]))
        simp only[List.length_append,List.length_cons]
        omega
      have h9:=hl2 l (fun s hs=>by
       have:=List.all_eq_true.1 hk.2.2.2 s hs
       exact of_decide_eq_true this)
      have h10:l.length*2000≤1000*2000:=Nat.mul_le_mul_right _ (by omega)
      omega
     have hv:=Tryz.strings_Join b off cap l sep w (fun j x hx=>by
      obtain⟨v,h5,h6⟩:=VRC_get (j:=j) (p := .str x) hrow (by rw[hcs,List.getElem?_map,hx];rfl)
      simp only[VR] at h6
      rw[h5,h6]) hb (by omega) (by omega) hj
     rw[hlen] at hv
     refine callsIn_wide.2 (hv.mono ?_)
     rintro e w' ⟨rfl,hbl⟩
     have hf:Foreign B0 G w w' (fun _=>False) := .grow hbl.size (fun b hb=>hbl.block b hb) ⟨hbl.os,hbl.output⟩
     refine⟨G,hf.wr hw,Ext.grow hw hf,_,rfl,?_⟩
     simp only[VR]
     rfl
   ·cases h
  ·cases h
 ·cases h
theorem split_ok{m:Int}(hB:1<B0)(hm:w0.cell? ⟨1,0,none⟩=some (.int .i64 m))(h:splitR st args=some (some (r,st')))(hw:WR Tryz.prog B0 w0 G st.heap w)(ha:VRL G w args avs):∀ n,CallsIn Fence.wide n Tryz.prog 155 avs.toArray w (CallR Tryz.prog B0 w0 G st w r st'):=by
 intro n
 unfold splitR at h
 split at h
 ·rename_i s sep
  split at h
  ·rename_i b hb
   split at h
   ·rename_i hk
    simp only[Option.some.injEq,Prod.mk.injEq] at h
    obtain⟨rfl,rfl⟩:=h
    obtain⟨v,vs',rfl,h1,h2⟩:=VRL.cons_iff.1 ha
    obtain⟨v2,vs2,rfl,h3,h4⟩:=VRL.cons_iff.1 h2
    rw[VRL.nil_iff.1 h4]
    simp only[VR] at h1 h3
    subst h1 h3
    have hm':w.cell? ⟨1,0,none⟩=some (.int .i64 m):=by
     rw[cell_of_heap (hw.low.2 1 hB)];exact hm
    have hsep:1≤sep.size:=by
     have:(unB sep).length=1:=by rw[hb];rfl
     have h5:sep.size=(unB sep).length:=rfl
     omega
    refine callsIn_wide.2 ((Tryz.strings_Split s sep m w (by omega) hm' hsep).mono ?_)
    rintro e w' ⟨rfl,rfl⟩
    obtain⟨d1,d2⟩:=split_data s sep b hb
    rw[d2,← d1,encS_map]
    have hlen:(Lib.splitB sep 0 (Lib.countB s sep) s).length=Lib.countB s sep+1:=by rw[← d2,← d1,List.length_map]
    obtain⟨G',k1,k2,k3⟩:=shared_row hw ((Lib.splitB sep 0 (Lib.countB s sep) s).map PV.str) ((Lib.splitB sep 0 (Lib.countB s sep) s).map Value.string).toArray 9 (by simp) (fun m=>strs_low m _) (fun G' w' hh=>strs_row _ [] (by simpa using hh)) (Lib.countB s sep+1) (Lib.countB s sep+1) (Nat.le_refl _)
    exact⟨G',k1,k2 _,_,rfl,k3⟩
   ·cases h
  ·cases h
 ·cases h
end
end Go.Den.Ve
end
section
namespace Go.Proofs.VnTry
open Go.RowKit Go.Extern.Stop Go.Stop Go.Extern
section
variable{P:Program}{ops:Array Oper}{Q:Exit→Act→World→Prop}{i:Nat}{rest:List Nat}{a:Act}{w w':World}{o:Oper}
theorem ops_value{v:Value}(ho:ops[i]? = some o)(hg:o.guard=none)(hr:(execOp a.eval o).run P w = .ok (.value v) w')(h:wpOps P ops Q rest (a.put o.dst v) w'):wpOps P ops Q (i::rest) a w:=by
 simp only[wpOps,ho,Region.wanted,hg,if_true]
 left
 simp only[Oper.wp,Oper.upon,hr]
 exact h
theorem ops_skip(ho:ops[i]? = some o)(hg:o.guard=none)(hr:(execOp a.eval o).run P w = .ok .skip w')(h:wpOps P ops Q rest (a.put o.dst Go.undef) w'):wpOps P ops Q (i::rest) a w:=by
 simp only[wpOps,ho,Region.wanted,hg,if_true]
 left
 simp only[Oper.wp,Oper.upon,hr]
 exact h
theorem ops_defer{d:Deferred}(ho:ops[i]? = some o)(hg:o.guard=none)(hr:(execOp a.eval o).run P w = .ok (.defer d) w')(h:wpOps P ops Q rest ({ a with defers:=d::a.defers }.put o.dst Go.undef) w'):wpOps P ops Q (i::rest) a w:=by
 simp only[wpOps,ho,Region.wanted,hg,if_true]
 left
 simp only[Oper.wp,Oper.upon,hr]
 exact h
theorem ops_call{g:FuncId}{args:Array Value}{R:Ending→World→Prop}(ho:ops[i]? = some o)(hg:o.guard=none)(hr:(execOp a.eval o).run P w = .ok (.enter g args) w)(hc:Calls P g args w R)(h:∀ e w'',R e w''→match e with
  | .returned v=>wpOps P ops Q rest (a.put o.dst v) w''
  | .panicked chain=>Q (.panic chain) a w''
  | .outgrown=>False):wpOps P ops Q (i::rest) a w:=by
 simp only[wpOps,ho,Region.wanted,hg,if_true]
 left
 simp only[Oper.wp,Oper.upon,hr]
 refine hc.mono fun e w'' he=>?_
 have:=h e w'' he
 cases e with
 | returned v=>exact this
 | panicked chain=>exact this
 | outgrown=>exact this.elim
theorem ops_nil(h:Q .normal a w):wpOps P ops Q [] a w:=h
theorem store_row{t T:TypeId}{x y:Operand}{g s:Nat}{arr:Array Value}(ho:o.op = .store t x y)(hx:a.eval x = .pointer (some ⟨g,0,none⟩))(hsz:Go.Den.sizeT P t=some s)(hg:w.heap[g]? = some (Obj.cells arr T (0,0)))(hs:(a.eval y).cells.size=s)(hs2:arr.size=s)(h1:∀ u∈(a.eval y).cells.toList,u.oneCell'=true) :
  (execOp a.eval o).run P w = .ok .skip (w.putObj g (Obj.cells (a.eval y).cells T (0,0))):=by
 refine Go.Den.OpRun.unit (by unfold execOp;rw[ho]) ?_
 unfold Instr.storeAt storeVar
 have:=Go.Den.run_storeCells_th (P:=P) g 0 T (0,0) (a.eval y).cells.toList 0 arr w hg (Go.Den.Thawed.zero _) (by simp;omega) h1
 have e1:(arr.toList.take 0++(a.eval y).cells.toList++arr.toList.drop (0+(a.eval y).cells.toList.length)).toArray=(a.eval y).cells:=by
  rw[List.drop_of_length_le (by simp;omega)];simp
 simp only[Nat.add_zero] at this
 rw[e1] at this
 simp only[hx,Sem.run_bind,Go.Den.sureAddr_run,Result.andThen_ok,Go.Den.sizeOf_run hsz,hs,ne_eq,not_true_eq_false,if_false,this,Sem.run_ite]
end
theorem catch_idle(p:Addr)(w:World) :
  CallsD Tryz.prog 154 #[.pointer (some p)] .returning w fun e u' w'=>e = .returned (.tuple #[])∧u' = .returning∧w'=w:=by
 have hnil:∀ w:World,(binOp BinOp.eql 20 .nilIface .nilIface).run Tryz.prog w = .ok (.bool true) w:=fun _=>by kernel_rfl
 refine callsD_of_wpS Tryz.func154 rfl fun c₀ cs hu=>?_
 apply wpS_seq
 apply wpS_region
 simp[wpOpsS,go_sem,recoverD,hu,Tryz.ntmps154,Exit.thenS]
 have ht:#[Value.pointer (some p)]++(Array.replicate 13 Go.undef).setIfInBounds 4 Value.nilIface=#[.pointer (some p),Go.undef,Go.undef,Go.undef,Go.undef,.nilIface,Go.undef,Go.undef,Go.undef,Go.undef,Go.undef,Go.undef,Go.undef,Go.undef]:=rfl
 rw[ht]
 refine wpS_of_wp ?_
 apply wp_block
 apply wp_seq
 apply wp_region
 simp[wpOps,go_sem,hnil,Exit.then]
 (repeat apply Or.inl)
 refine wp_cond_true (by simp[Act.eval]) ?_
 apply wp_region
 simp[wpOps,go_sem,Exit.inBlock]
 (repeat apply Or.inl)
 cases c₀
 simp_all [bodyPostS,results,Tryz.results154]
theorem catch_found(n:Nat)(x:Int)(e0:Value)(older:List PanicEntry)(w:World)(hq:w.heap[n]? = some (.cells #[e0] 29 (0,0))) :
  CallsD Tryz.prog 154 #[.pointer (some ⟨n,0,none⟩)] (.panicking ({ v := .iface 199 (.agg #[.int .i64 x]),recovered:=false }::older)) w fun e u' w'=>e = .returned (.tuple #[])∧u' = .panicking ({ v := .iface 199 (.agg #[.int .i64 x]),recovered:=true }::older) ∧
   w.heap.size≤w'.heap.size∧(∀ k,k<w.heap.size→k≠n→w'.heap[k]? = w.heap[k]?)∧w'.heap[n]? = some (.cells #[.int .i64 2] 29 (0,0))∧w'.os=w.os∧w'.output=w.output:=by
 have hnil:∀ w:World,(binOp BinOp.eql 20 (.iface 199 (.agg #[.int .i64 x])) .nilIface).run Tryz.prog w = .ok (.bool false) w:=fun _=>by kernel_rfl
 have hta:∀ w:World,(Instr.typeAssert (.iface 199 (.agg #[.int .i64 x])) 20 199 true).run Tryz.prog w = .ok (.tuple #[.agg #[.int .i64 x],.bool true]) w:=fun _=>by kernel_rfl
 have ln:n<w.heap.size:=Go.Den.lt_of_heap hq
 refine callsD_of_wpS Tryz.func154 rfl fun c₀ cs hu=>?_
 apply wpS_seq
 apply wpS_region
 simp[wpOpsS,go_sem,recoverD,hu,Tryz.ntmps154,Exit.thenS]
 have ht:#[Value.pointer (some ⟨n,0,none⟩)]++(Array.replicate 13 Go.undef).setIfInBounds 4 (.iface 199 (.agg #[.int .i64 x]))=#[.pointer (some ⟨n,0,none⟩),Go.undef,Go.undef,Go.undef,Go.undef,.iface 199 (.agg #[.int .i64 x]),Go.undef,Go.undef,Go.undef,Go.undef,Go.undef,Go.undef,Go.undef,Go.undef]:=rfl
 rw[ht]
 refine wpS_of_wp ?_
 apply wp_block
 apply wp_seq
 apply wp_region
 simp[wpOps,go_sem,hnil,Exit.then]
 (repeat apply Or.inl)
 refine wp_cond_false (by simp[Act.eval]) ?_
 apply wp_seq
 apply wp_region
 simp[wpOps,go_sem,Exit.then,hta]
 (repeat apply Or.inl)
 refine wp_cond_true (by simp[Act.eval]) ?_
 apply wp_seq
 apply wp_region
 refine ops_value (v := .pointer (some ⟨w.heap.size,0,none⟩)) (w':=w.alloc (.cells #[.int .i64 0] 199 (0,0))) rfl rfl (by simp[go_sem]) ?_
 refine ops_skip (w':=(w.alloc (.cells #[.int .i64 0] 199 (0,0))).putObj w.heap.size (.cells #[.int .i64 x] 199 (0,0))) rfl rfl (store_row (t:=199) (x := .tmp 2) (y := .tmp 10) (arr:=#[.int .i64 0]) (s:=1) rfl rfl (by kernel_rfl) (Go.Den.heap_alloc_new _ _) rfl rfl (by simp[Act.eval,Act.put,Value.cells,Value.oneCell'])) ?_
 apply ops_nil
 generalize hW:(w.alloc (.cells #[.int .i64 0] 199 (0,0))).putObj w.heap.size (.cells #[.int .i64 x] 199 (0,0))=W
 have hWos:W.os=w.os∧W.output=w.output:=by rw[← hW];exact⟨rfl,rfl⟩
 have hWs:w.heap.size≤W.heap.size:=by rw[← hW,Go.Den.size_put,Go.Den.size_alloc];omega
 have hWo:∀ k,k<w.heap.size→W.heap[k]? = w.heap[k]? := fun k hk=>by rw[← hW,Go.Den.heap_put_other (by omega),Go.Den.heap_alloc_lt _ _ hk]
 show Code.wp _ _ _ _ _
 apply wp_region
 refine ops_skip (w':=W.putObj n (.cells #[.int .i64 2] 29 (0,0))) rfl rfl (store_row (t:=29) (x := .tmp 0) (y := .const (.int .i64 2)) (arr:=#[e0]) (s:=1) rfl rfl (by kernel_rfl) ((hWo n ln).trans hq) rfl rfl (by simp[Act.eval,Act.put,Value.cells,Value.oneCell'])) ?_
 apply ops_nil
 refine⟨rfl,_,rfl,.tuple #[],by simp[results,Tryz.results154],rfl,rfl,?_,fun k hk h1=>?_,?_,hWos⟩
 ·rw[Go.Den.size_put];exact hWs
 ·rw[Go.Den.heap_put_other h1,hWo k hk]
 ·rw[Go.Den.heap_put_same (by omega)]
theorem catch_none(n:Nat)(t:ByteArray)(e0:Value)(older:List PanicEntry)(w:World)(hq:w.heap[n]? = some (.cells #[e0] 29 (0,0))) :
  CallsD Tryz.prog 154 #[.pointer (some ⟨n,0,none⟩)] (.panicking ({ v := .iface 201 (.agg #[.string t]),recovered:=false }::older)) w fun e u' w'=>e = .returned (.tuple #[])∧u' = .panicking ({ v := .iface 201 (.agg #[.string t]),recovered:=true }::older) ∧
   w.heap.size≤w'.heap.size∧(∀ k,k<w.heap.size→k≠n→w'.heap[k]? = w.heap[k]?)∧w'.heap[n]? = some (.cells #[.int .i64 4] 29 (0,0))∧w'.os=w.os∧w'.output=w.output:=by
 have hnil:∀ w:World,(binOp BinOp.eql 20 (.iface 201 (.agg #[.string t])) .nilIface).run Tryz.prog w = .ok (.bool false) w:=fun _=>by kernel_rfl
 have hta:∀ w:World,(Instr.typeAssert (.iface 201 (.agg #[.string t])) 20 199 true).run Tryz.prog w = .ok (.tuple #[.agg #[.int .i64 0],.bool false]) w:=fun _=>by kernel_rfl
 have htb:∀ w:World,(Instr.typeAssert (.iface 201 (.agg #[.string t])) 20 201 true).run Tryz.prog w = .ok (.tuple #[.agg #[.string t],.bool true]) w:=fun _=>by kernel_rfl
 have ln:n<w.heap.size:=Go.Den.lt_of_heap hq
 refine callsD_of_wpS Tryz.func154 rfl fun c₀ cs hu=>?_
 apply wpS_seq
 apply wpS_region
 simp[wpOpsS,go_sem,recoverD,hu,Tryz.ntmps154,Exit.thenS]
 have ht:#[Value.pointer (some ⟨n,0,none⟩)]++(Array.replicate 13 Go.undef).setIfInBounds 4 (.iface 201 (.agg #[.string t]))=#[.pointer (some ⟨n,0,none⟩),Go.undef,Go.undef,Go.undef,Go.undef,.iface 201 (.agg #[.string t]),Go.undef,Go.undef,Go.undef,Go.undef,Go.undef,Go.undef,Go.undef,Go.undef]:=rfl
 rw[ht]
 refine wpS_of_wp ?_
 apply wp_block
 apply wp_seq
 apply wp_region
 simp[wpOps,go_sem,hnil,Exit.then]
 (repeat apply Or.inl)
 refine wp_cond_false (by simp[Act.eval]) ?_
 apply wp_seq
 apply wp_region
 simp[wpOps,go_sem,Exit.then,hta]
 (repeat apply Or.inl)
 refine wp_cond_false (by simp[Act.eval]) ?_
 apply wp_seq
 apply wp_region
 simp[wpOps,go_sem,Exit.then,htb]
 (repeat apply Or.inl)
 refine wp_cond_true (by simp[Act.eval]) ?_
 apply wp_seq
 apply wp_region
 refine ops_value (v := .pointer (some ⟨w.heap.size,0,none⟩)) (w':=w.alloc (.cells #[.string ⟨#[]⟩] 201 (0,0))) rfl rfl (by simp[go_sem]) ?_
 refine ops_skip (w':=(w.alloc (.cells #[.string ⟨#[]⟩] 201 (0,0))).putObj w.heap.size (.cells #[.string t] 201 (0,0))) rfl rfl (store_row (t:=201) (x := .tmp 3) (y := .tmp 13) (arr:=#[.string ⟨#[]⟩]) (s:=1) rfl rfl (by kernel_rfl) (Go.Den.heap_alloc_new _ _) rfl rfl (by simp[Act.eval,Act.put,Value.cells,Value.oneCell'])) ?_
 apply ops_nil
 generalize hW:(w.alloc (.cells #[.string ⟨#[]⟩] 201 (0,0))).putObj w.heap.size (.cells #[.string t] 201 (0,0))=W
 have hWos:W.os=w.os∧W.output=w.output:=by rw[← hW];exact⟨rfl,rfl⟩
 have hWs:w.heap.size≤W.heap.size:=by rw[← hW,Go.Den.size_put,Go.Den.size_alloc];omega
 have hWo:∀ k,k<w.heap.size→W.heap[k]? = w.heap[k]? := fun k hk=>by rw[← hW,Go.Den.heap_put_other (by omega),Go.Den.heap_alloc_lt _ _ hk]
 show Code.wp _ _ _ _ _
 apply wp_region
 refine ops_skip (w':=W.putObj n (.cells #[.int .i64 4] 29 (0,0))) rfl rfl (store_row (t:=29) (x := .tmp 0) (y := .const (.int .i64 4)) (arr:=#[e0]) (s:=1) rfl rfl (by kernel_rfl) ((hWo n ln).trans hq) rfl rfl (by simp[Act.eval,Act.put,Value.cells,Value.oneCell'])) ?_
 apply ops_nil
 refine⟨rfl,_,rfl,.tuple #[],by simp[results,Tryz.results154],rfl,rfl,?_,fun k hk h1=>?_,?_,hWos⟩
 ·rw[Go.Den.size_put];exact hWs
 ·rw[Go.Den.heap_put_other h1,hWo k hk]
 ·rw[Go.Den.heap_put_same (by omega)]
theorem try_leaves(n:Nat)(d:Int)(R:Ending→World→Prop)(tm:Array Value)(h2:tm[2]?.getD Go.undef = .pointer (some ⟨n,0,none⟩))(u:FrameMode)(hu:settle u = .returning)(w:World)(hq:w.heap[n]? = some (.cells #[.int .i64 d] 29 (0,0)))
  (hR:R (.returned (.int .i64 d)) w):Leaves Tryz.prog Tryz.f122 tm R [] (settle u) w:=by
 have c3:w.cell? ⟨n,0,none⟩=some (.int .i64 d):=by rw[Go.Den.cell_row hq];rfl
 rw[hu]
 refine⟨_,?_,hR⟩
 simp[results,Tryz.results122,go_sem,h2,c3]
def tryW (w:World):World:=w.alloc (.cells #[.int .i64 0] 29 (0,0))
def TryR (n:Nat) (w2 w':World) (d:Int):Prop:=w2.heap.size≤w'.heap.size∧(∀ k,k<w2.heap.size→k≠n→w'.heap[k]? = w2.heap[k]?)∧w'.heap[n]? = some (.cells #[.int .i64 d] 29 (0,0))∧w'.os=w2.os∧w'.output=w2.output
set_option maxHeartbeats 4000000 in
theorem try_walk{g:FuncId}{fi ca:Array Value}{w:World}(hE:Go.Den.Enterable Tryz.prog g){Rd:World→Prop}(d:Int)
  (hdo:Calls Tryz.prog g (fi++#[]++ca) (tryW w) fun e w2=>((∃ v,e = .returned v∧d=0)∨(∃ x,e = .panicked [{ v := .iface 199 (.agg #[.int .i64 x]),recovered:=false }]∧d=2)∨(∃ t,e = .panicked [{ v := .iface 201 (.agg #[.string t]),recovered:=false }]∧d=4))∧Rd w2∧w2.heap[w.heap.size]? = some (.cells #[.int .i64 0] 29 (0,0))) :
  Calls Tryz.prog 122 #[.func (.func g) fi ca] w fun e w'=>e = .returned (.int .i64 d)∧∃ w2,Rd w2∧TryR w.heap.size w2 w' d:=by
 have hmf:∀ (fn:Fn) (first cap:Array Value) (w:World),(Instr.makeFunc fn first cap).run Tryz.prog w = .ok (.func fn first cap) w:=fun _ _ _ _=>rfl
 have e00:fi++#[]++ca=fi++ca:=by simp
 rw[e00] at hdo
 refine calls_of_wp_defers Tryz.func122 rfl ?_
 have ht:(#[Value.func (.func g) fi ca]:Array Value)++Array.replicate (Tryz.f122.ntmps - 1) Go.undef=#[.func (.func g) fi ca,Go.undef,Go.undef,Go.undef,Go.undef,Go.undef]:=rfl
 show Code.wp _ _ _ { tmps:=#[Value.func (.func g) fi ca]++Array.replicate (Tryz.f122.ntmps - 1) Go.undef,defers:=[] } _
 rw[ht]
 apply wp_seq
 apply wp_region
 refine ops_value (v := .pointer (some ⟨w.heap.size,0,none⟩)) (w':=tryW w) rfl rfl (by simp[go_sem,tryW]) ?_
 apply ops_nil
 show Code.wp _ _ _ _ _
 apply wp_seq
 apply wp_region
 refine ops_value (v := .func (.func 154) #[] #[.pointer (some ⟨w.heap.size,0,none⟩)]) (w':=tryW w) rfl rfl (by simp[go_sem,Act.put,hmf]) ?_
 refine ops_defer (d:={ target := .fn (.func 154) #[.pointer (some ⟨w.heap.size,0,none⟩)],args:=#[] }) (w':=tryW w) rfl rfl (by simp[go_sem,Act.put]) ?_
 apply ops_nil
 show Code.wp _ _ _ _ _
 apply wp_seq
 apply wp_region
 refine ops_value (v := .func (.func g) fi ca) (w':=tryW w) rfl rfl (by simp[go_sem,Act.put]) ?_
 refine ops_call (g:=g) (args:=fi++ca) rfl rfl (by
  have h:=Go.Den.callFunc_run hE (fi++ca) (tryW w)
  simp[go_sem,Act.put,invoke,h]) hdo ?_
 rintro e w2 ⟨he,hRd,hn1⟩
 have hi:(invoke (.fn (.func 154) #[.pointer (some ⟨w.heap.size,0,none⟩)]) #[]).run Tryz.prog w2 = .ok (.enter 154 #[.pointer (some ⟨w.heap.size,0,none⟩)]) w2:=by simp[go_sem,invoke]
 rcases he with ⟨v,rfl,rfl⟩|⟨x,rfl,rfl⟩|⟨t,rfl,rfl⟩
 ·apply ops_nil
  show Code.wp _ _ _ _ _
  apply wp_seq
  apply wp_region
  have ln1:w.heap.size<w2.heap.size:=Go.Den.lt_of_heap hn1
  refine ops_skip (w':=w2.putObj w.heap.size (.cells #[.int .i64 0] 29 (0,0))) rfl rfl (store_row (t:=29) (x := .tmp 2) (y := .const (.int .i64 0)) (arr:=#[.int .i64 0]) (s:=1) rfl rfl (by kernel_rfl) hn1 rfl rfl (by simp[Act.eval,Act.put,Value.cells,Value.oneCell'])) ?_
  apply ops_nil
  show Code.wp _ _ _ _ _
  apply wp_ret
  have hi2:∀ W:World,(invoke (.fn (.func 154) #[.pointer (some ⟨w.heap.size,0,none⟩)]) #[]).run Tryz.prog W = .ok (.enter 154 #[.pointer (some ⟨w.heap.size,0,none⟩)]) W:=fun W=>by simp[go_sem,invoke]
  refine leaves_cons (by simp) (hi2 _) ?_
  refine (catch_idle ⟨w.heap.size,0,none⟩ _).mono ?_
  rintro e u' w'' ⟨rfl,rfl,rfl⟩
  have g2:(w2.putObj w.heap.size (.cells #[.int .i64 0] 29 (0,0))).heap[w.heap.size]? = some (.cells #[.int .i64 0] 29 (0,0)):=by
   rw[Go.Den.heap_put_same ln1]
  refine try_leaves w.heap.size 0 _ _ rfl .returning rfl _ g2 ⟨rfl,w2,hRd,?_,fun k hk h1=>?_,g2,rfl,rfl⟩
  ·rw[Go.Den.size_put];exact Nat.le_refl _
  ·rw[Go.Den.heap_put_other h1]
 ·refine leaves_cons (by simp) hi ?_
  refine (catch_found w.heap.size x _ [] w2 hn1).mono ?_
  rintro e u' w'' ⟨rfl,rfl,h1,h2,h4,h5⟩
  exact try_leaves w.heap.size 2 _ _ rfl _ rfl _ h4 ⟨rfl,w2,hRd,h1,h2,h4,h5⟩
 ·refine leaves_cons (by simp) hi ?_
  refine (catch_none w.heap.size t _ [] w2 hn1).mono ?_
  rintro e u' w'' ⟨rfl,rfl,h1,h2,h4,h5⟩
  exact try_leaves w.heap.size 4 _ _ rfl _ rfl _ h4 ⟨rfl,w2,hRd,h1,h2,h4,h5⟩
end Go.Proofs.VnTry
end
section
namespace Go.Proofs.VnTry
open Go.RowKit Go.Extern.Stop Go.Stop Go.Extern
theorem info_parts25:∃ i,Tryz.prog.info? 25=some i∧i.zero=some (.slice none 0 0)∧i.size=1∧i.bytes=24:=by
 have h:(Tryz.prog.info? 25).map (fun i=>(i.zero,i.size,i.bytes))=some (some (.slice none 0 0),1,24):=by kernel_rfl
 revert h
 generalize Tryz.prog.info? 25=o
 intro h
 obtain⟨i,hi,hzz⟩:=Option.map_eq_some_iff.1 h
 simp only[Prod.mk.injEq] at hzz
 exact⟨i,hi,hzz.1,hzz.2.1,hzz.2.2⟩
theorem grow_app{P:Program}(hu:P.underlying 45=some (.slice 25))(hu3:P.underlying 3=some (.int .i64))(hinfo:∃ i,P.info? 25=some i∧i.zero=some (.slice none 0 0)∧i.size=1∧i.bytes=24)(n:Nat)(h1:1≤n)(h2:n≤1000)(w:World):∃ (cap:Nat) (Z:Array Value),n≤cap∧Z.size=cap∧(Builtin.append_ #[45,3] 45 #[.slice none 0 0,.int .i64 n]).run P w = .ok (.slice (some ⟨w.heap.size,0,none⟩) n cap) (w.drew.alloc (.cells Z 25)):=by
 obtain⟨i0,hi,hz0,hz1,hz2⟩:=hinfo
 have happ:=Lib.run_append_nil_zeros (P:=P) w 45 3 45 25 i0 (.slice none 0 0) .i64 .i64 hu hu3 hi hz0 n (by omega) (by omega) (by omega) (by rw[hz2];omega)
 have hge:=grownCap_ge w n 0 25
 exact⟨_,_,hge,by simp[size_zeroCells,Value.cells];omega,happ⟩
theorem rep25(a b c:Value):(#[a,b]:Array Value)++Array.replicate (27 - (#[a,b]:Array Value).size) c=#[a,b,c,c,c,c,c,c,c,c,c,c,c,c,c,c,c,c,c,c,c,c,c,c,c,c,c]:=by
 apply Array.ext'
 rw[Array.toList_append,Array.toList_replicate]
 rfl
set_option maxHeartbeats 4000000 in
theorem grow_walk(n:Nat)(h1:1≤n)(h2:n≤1000)(w:World):Calls Tryz.prog 145 #[.slice none 0 0,.int .i64 n] w fun e w'=>∃ (cap:Nat) (Z:Array Value),n≤cap∧Z.size=cap∧e = .returned (.slice (some ⟨w.heap.size,0,none⟩) 0 cap)∧w'=w.drew.alloc (.cells Z 25):=by
 obtain⟨cap2,Z,hcapge,hZs,happ⟩:=grow_app Tryz.underlying45 Tryz.underlying3 info_parts25 n h1 h2 w
 have hw:IntKind.i64.wrap (n:Int)=n:=by rw[IntKind.wrap_i64];omega
 have hw0:IntKind.i64.wrap 0=0:=rfl
 have hd1:decide ((n:Int)<0)=false:=by simp
 have hd2:decide ((n:Int)>0)=true:=by simp;omega
 refine calls_of_wp Tryz.func145 rfl ?_
 have ht:(#[Value.slice none 0 0,.int .i64 n]:Array Value)++Array.replicate (Tryz.f145.ntmps - (#[Value.slice none 0 0,.int .i64 n]:Array Value).size) Go.undef=#[.slice none 0 0,.int .i64 n,Go.undef,Go.undef,Go.undef,Go.undef,Go.undef,Go.undef,Go.undef,Go.undef,Go.undef,Go.undef,Go.undef,Go.undef,Go.undef,Go.undef,Go.undef,Go.undef,Go.undef,Go.undef,Go.undef,Go.undef,Go.undef,Go.undef,Go.undef,Go.undef,Go.undef]:=by
  rw[Tryz.ntmps145]
  exact rep25 _ _ _
 rw[ht]
 apply wp_seq
 apply wp_region
 refine ops_value (v := .slice none 0 0) (w':=w) rfl rfl (by simp[go_sem]) ?_
 apply ops_nil
 show Code.wp _ _ _ _ _
 apply wp_seq
 apply wp_seq
 apply wp_region
 refine ops_value (v := .int .i64 n) (w':=w) rfl rfl (by simp[go_sem,Act.put]) ?_
 refine ops_value (v := .bool false) (w':=w) rfl rfl (by simp[go_sem,Act.put]) ?_
 apply ops_nil
 show Code.wp _ _ _ _ _
 refine wp_cond_false (by simp[Act.eval,Act.put]) ?_
 apply wp_skip
 show Code.wp _ _ _ _ _
 apply wp_seq
 apply wp_seq
 apply wp_region
 refine ops_value (v := .int .i64 n) (w':=w) rfl rfl (by simp[go_sem,Act.put]) ?_
 refine ops_value (v := .slice none 0 0) (w':=w) rfl rfl (by simp[go_sem,Act.put]) ?_
 refine ops_value (v := .int .i64 0) (w':=w) rfl rfl (by simp[go_sem,Act.put]) ?_
 refine ops_value (v := .slice none 0 0) (w':=w) rfl rfl (by simp[go_sem,Act.put]) ?_
 refine ops_value (v := .int .i64 0) (w':=w) rfl rfl (by simp[go_sem,Act.put]) ?_
 refine ops_value (v := .int .i64 0) (w':=w) rfl rfl (by simp[go_sem,Act.put,hw0]) ?_
 refine ops_value (v := .int .i64 n) (w':=w) rfl rfl (by simp[go_sem,Act.put,hw]) ?_
 refine ops_value (v := .int .i64 n) (w':=w) rfl rfl (by simp[go_sem,Act.put]) ?_
 apply ops_nil
 show Code.wp _ _ _ _ _
 apply wp_seq
 apply wp_region
 refine ops_value (v := .int .i64 n) (w':=w) rfl rfl (by simp[go_sem,Act.put]) ?_
 refine ops_value (v := .bool true) (w':=w) rfl rfl (by simp[go_sem,Act.put];omega) ?_
 apply ops_nil
 show Code.wp _ _ _ _ _
 refine wp_cond_true (by simp[Act.eval,Act.put]) ?_
 apply wp_region
 refine ops_value (v := .slice none 0 0) (w':=w) rfl rfl (by simp[go_sem,Act.put]) ?_
 refine ops_value (v := .slice none 0 0) (w':=w) rfl rfl (by simp[go_sem,Act.put]) ?_
 refine ops_value (v := .int .i64 0) (w':=w) rfl rfl (by simp[go_sem,Act.put]) ?_
 refine ops_value (v := .slice none 0 0) (w':=w) rfl rfl (by simp[go_sem,Act.put]) ?_
 refine ops_value (v := .int .i64 n) (w':=w) rfl rfl (by simp[go_sem,Act.put]) ?_
 refine ops_value (v := .slice (some ⟨w.heap.size,0,none⟩) n cap2) (w':=w.drew.alloc (.cells Z 25)) rfl rfl (by unfold execOp;simp[resolve,invoke,builtin,Act.put,Act.eval,happ]) ?_
 generalize hW:w.drew.alloc (.cells Z 25)=W
 refine ops_value (v := .slice none 0 0) (w':=W) rfl rfl (by simp[go_sem,Act.put]) ?_
 refine ops_value (v := .int .i64 0) (w':=W) rfl rfl (by simp[go_sem,Act.put]) ?_
 refine ops_value (v := .slice (some ⟨w.heap.size,0,none⟩) 0 cap2) (w':=W) rfl rfl (by simp[go_sem,Act.put]) ?_
 refine ops_value (v := .slice (some ⟨w.heap.size,0,none⟩) 0 cap2) (w':=W) rfl rfl (by simp[go_sem,Act.put]) ?_
 apply ops_nil
 show Code.wp _ _ _ _ _
 apply wp_seq
 apply wp_region
 refine ops_value (v := .slice (some ⟨w.heap.size,0,none⟩) 0 cap2) (w':=W) rfl rfl (by simp[go_sem,Act.put]) ?_
 refine ops_value (v := .slice (some ⟨w.heap.size,0,none⟩) 0 cap2) (w':=W) rfl rfl (by simp[go_sem,Act.put]) ?_
 apply ops_nil
 show Code.wp _ _ _ _ _
 apply wp_ret
 have hr:∀ (tm:Array Value),tm[4]?.getD Go.undef = .slice (some ⟨w.heap.size,0,none⟩) 0 cap2→(results Tryz.f145 tm).run Tryz.prog W = .ok (.slice (some ⟨w.heap.size,0,none⟩) 0 cap2) W:=fun tm h=>by simp[results,Tryz.results145,go_sem,h]
 refine⟨by simp[Act.put],_,hr _ (by simp[Act.put]),?_⟩
 exact⟨cap2,Z,hcapge,hZs,rfl,hW.symm⟩
end Go.Proofs.VnTry
end
section
namespace Go.Den.Ve
open Go.Proofs Go.Proofs.VnTry
section
variable{B0:Nat}{w0 w:World}{G:Gh}{st st':St}{args:List PV}{avs:List Value}{r:CR}{rec:Rec}
theorem int1{G:Gh}{w:World}{a:Int}{u:Value}(h:VR G w (.agg [.int .i64 a]) u):u = .agg #[.int .i64 a]:=by
 simp only[VR] at h
 obtain⟨vs,rfl,h⟩:=h
 obtain⟨v1,r1,e1,h1,h⟩:=VRL.cons_iff.1 h
 rw[VRL.nil_iff.1 h] at e1
 simp only[VR] at h1
 subst h1
 rw[arr_of_list e1]
theorem str1{G:Gh}{w:World}{s:ByteArray}{u:Value}(h:VR G w (.agg [.str s]) u):u = .agg #[.string s]:=by
 simp only[VR] at h
 obtain⟨vs,rfl,h⟩:=h
 obtain⟨v1,r1,e1,h1,h⟩:=VRL.cons_iff.1 h
 rw[VRL.nil_iff.1 h] at e1
 simp only[VR] at h1
 subst h1
 rw[arr_of_list e1]
theorem try_out(hw:WR Tryz.prog B0 w0 G st.heap w){G':Gh}{h':List HObj}{w2 w':World}{lo:Nat}(r1:WR Tryz.prog B0 w0 G' h' w2)(x:Ext G st.heap (tryW w) G' h' w2 lo)(hn1:w2.heap[w.heap.size]? = some (Obj.cells #[.int .i64 0] 29 (0,0))){d:Int}(ht:TryR w.heap.size w2 w' d) :
  WR Tryz.prog B0 w0 G' h' w'∧Ext G st.heap w G' h' w' lo:=by
 have hsz:(tryW w).heap.size=w.heap.size+1:=by unfold tryW;rw[size_alloc]
 have hf1:Foreign B0 G w (tryW w) (fun _=>False) := .grow (by omega) (fun b hb=>by unfold tryW;rw[heap_alloc_lt _ _ hb]) ⟨rfl,rfl⟩
 have hfree:∀ k,k=w.heap.size→B0≤k∧(∀ l,G'.be l≠some k)∧(∀ t e,G'.tg t≠some (k,e))∧G'.cm k=none:=by
  intro k hk
  have hlow:=hw.low.1
  have gb:∀ l,G.be l≠some k:=fun l h=>by have:=(hw.obj h).2.1;omega
  have gt:∀ t e,G.tg t≠some (k,e):=fun t e h=>by have:=(hw.tag h).2.1;omega
  have gc:G.cm k=none:=by
   cases h:G.cm k with
   | none=>rfl
   | some n=>have:=hw.cmLt h;omega
  refine⟨by omega,fun l h=>?_,fun t e h=>?_,?_⟩
  ·cases hg:G.be l with
   | none=>have:=(x.nbe h hg).2;omega
   | some b'=>have:=x.pres.be hg;rw[h] at this;cases this;exact gb l hg
  ·cases hg:G.tg t with
   | none =>
    rcases (x.ntg h hg).2 with h1|⟨t',e',h1⟩
    ·omega
    ·exact gt t' e' h1
   | some y=>have:=x.pres.tg hg;rw[h] at this;cases this;exact gt t e hg
  ·cases h:G'.cm k with
   | none=>rfl
   | some n =>
    rcases x.ncm h gc with h1|⟨t,e,h1⟩
    ·omega
    ·exact absurd h1 (gt t e)
 have hf2:Foreign B0 G' w2 w' (fun k=>k=w.heap.size):=by
  refine⟨ht.1,fun b hb hx=>ht.2.1 b hb hx,hfree,ht.2.2.2,fun b arr T fr hx hh=>?_⟩
  subst hx
  rw[hn1] at hh;cases hh;exact⟨_,ht.2.2.1,rfl⟩
 have x1:Ext G st.heap w G st.heap (tryW w) lo:=Ext.grow hw hf1
 exact⟨hf2.wr r1,(x1.trans x).foreign r1 hf2 (fun k hk=>by omega)⟩
theorem try_frame(hw:WR Tryz.prog B0 w0 G st.heap w){G':Gh}{h':List HObj}{w2:World}{lo:Nat}(x:Ext G st.heap (tryW w) G' h' w2 lo):w2.heap[w.heap.size]? = some (Obj.cells #[.int .i64 0] 29 (0,0)):=by
 have hsz:(tryW w).heap.size=w.heap.size+1:=by unfold tryW;rw[size_alloc]
 have key:∀ k,w.heap.size≤k→k<w.heap.size+1→w2.heap[k]? = (tryW w).heap[k]? := fun k h1 h2=>x.frame (by omega) (fun l h=>by have:=(hw.obj h).2.1;omega) (fun t e h=>by have:=(hw.tag h).2.1;omega) (by
  cases h:G.cm k with
  | none=>rfl
  | some n=>have:=hw.cmLt h;omega)
 rw[key _ (Nat.le_refl _) (by omega)]
 unfold tryW
 rw[heap_alloc_new]
theorem enter122:Enterable Tryz.prog 122:=⟨_,Tryz.func122,by kernel_rfl,by kernel_rfl⟩
theorem enter145:Enterable Tryz.prog 145:=⟨_,Tryz.func145,by kernel_rfl,by kernel_rfl⟩
theorem try_ok(hs:SoundCall Tryz.prog B0 w0 rec){dg:Nat}{da dc:List PV}(h:tryR rec (.func dg da dc) st=some (some (r,st')))(hlo:st.lo≤st.heap.length)(hw:WR Tryz.prog B0 w0 G st.heap w)(ha:VRL G w [.func dg da dc] avs):∀ n,CallsIn Fence.wide n Tryz.prog 122 avs.toArray w (CallR Tryz.prog B0 w0 G st w r st'):=by
 intro n
 obtain⟨fv,vs',rfl,hv,h2⟩:=VRL.cons_iff.1 ha
 rw[VRL.nil_iff.1 h2]
 have hsz:(tryW w).heap.size=w.heap.size+1:=by unfold tryW;rw[size_alloc]
 have hf1:Foreign B0 G w (tryW w) (fun _=>False) := .grow (by omega) (fun b hb=>by unfold tryW;rw[heap_alloc_lt _ _ hb]) ⟨rfl,rfl⟩
 have hw1:=hf1.wr hw
 have hv1:=VR.mono (hf1.pres hw) hv
 have hva:=hv
 simp only[VR] at hva
 obtain⟨a',c',rfl,_,_⟩:=hva
 have key:∀ (r2:CR) (st2:St) (d:Int),rec.call (.func dg da dc) [] st=some (r2,st2)→(∀ w2 e,CallR Tryz.prog B0 w0 G st (tryW w) r2 st2 e w2→((∃ v,e = .returned v∧d=0)∨(∃ x,e = .panicked [{ v := .iface 199 (.agg #[.int .i64 x]),recovered:=false }]∧d=2)∨(∃ t,e = .panicked [{ v := .iface 201 (.agg #[.string t]),recovered:=false }]∧d=4))) →
   CallsIn Fence.wide n Tryz.prog 122 #[.func (.func dg) a' c'] w (CallR Tryz.prog B0 w0 G st w (.ret (.int .i64 d)) st2):=by
  intro r2 st2 d hcall hcase
  obtain⟨_,hsnd⟩:=hs _ _ _ _ _ hcall hlo
  obtain⟨hE,hC⟩:=hsnd G (tryW w) _ [] hw1 hv1 (VRL.nil_iff.2 rfl) a' c' rfl
  have hC1:=callsIn_wide.1 (hC 0)
  refine callsIn_wide.2 ((try_walk hE (Rd:=fun w2=>∃ G',WR Tryz.prog B0 w0 G' st2.heap w2∧Ext G st.heap (tryW w) G' st2.heap w2 st2.lo) d (hC1.mono ?_)).mono ?_)
  ·intro e w2 hR
   have hR':=hR
   obtain⟨G',k1,k2,_⟩:=hR'
   exact⟨hcase w2 e hR,⟨G',k1,k2⟩,try_frame hw k2⟩
  ·rintro e w' ⟨rfl,w2,⟨G',k1,k2⟩,ht⟩
   have f2:=try_frame hw k2
   obtain⟨g1,g2⟩:=try_out hw k1 k2 f2 ht
   refine⟨G',g1,g2,_,rfl,?_⟩
   simp only[VR]
 unfold tryR at h
 split at h
 ·rename_i v st2 hcall
  simp only[Option.some.injEq,Prod.mk.injEq] at h
  obtain⟨rfl,rfl⟩:=h
  exact key _ _ 0 hcall (fun w2 e hR=>by
   obtain⟨_,_,_,u,he,_⟩:=hR
   exact .inl ⟨u,he,rfl⟩)
 ·rename_i t v st2 hcall
  split at h
  ·rename_i x
   simp only[Option.some.injEq,Prod.mk.injEq] at h
   obtain⟨rfl,rfl⟩:=h
   exact key _ _ 2 hcall (fun w2 e hR=>by
    obtain⟨_,_,_,u,he,hu⟩:=hR
    simp only[VR] at hu
    obtain⟨y,rfl,vs,rfl,hvs⟩:=hu
    have:=int1 (u := .agg vs) (by simp only[VR];exact⟨vs,rfl,hvs⟩)
    rw[this] at he
    exact .inr (.inl ⟨x,he,rfl⟩))
  ·rename_i s
   simp only[Option.some.injEq,Prod.mk.injEq] at h
   obtain⟨rfl,rfl⟩:=h
   exact key _ _ 4 hcall (fun w2 e hR=>by
    obtain⟨_,_,_,u,he,hu⟩:=hR
    simp only[VR] at hu
    obtain⟨y,rfl,vs,rfl,hvs⟩:=hu
    have:=str1 (u := .agg vs) (by simp only[VR];exact⟨vs,rfl,hvs⟩)
    rw[this] at he
    exact .inr (.inr ⟨s,he,rfl⟩))
  ·cases h
 ·cases h
theorem grow_ok(h:growR st args=some (some (r,st')))(hw:WR Tryz.prog B0 w0 G st.heap w)(ha:VRL G w args avs):∀ n,CallsIn Fence.wide n Tryz.prog 145 avs.toArray w (CallR Tryz.prog B0 w0 G st w r st'):=by
 intro n
 unfold growR at h
 split at h
 ·rename_i k
  split at h
  ·rename_i hk
   simp only[Option.some.injEq,Prod.mk.injEq] at h
   obtain⟨rfl,rfl⟩:=h
   obtain⟨v,vs',rfl,h1,h2⟩:=VRL.cons_iff.1 ha
   obtain⟨v2,vs2,rfl,h3,h4⟩:=VRL.cons_iff.1 h2
   rw[VRL.nil_iff.1 h4]
   simp only[VR] at h1 h3
   subst h1 h3
   obtain⟨i,rfl⟩:∃ i:Nat,k=i:=⟨k.toNat,by omega⟩
   refine callsIn_wide.2 ((grow_walk i (by omega) (by omega) w).mono ?_)
   rintro e w' ⟨cap,Z,hge,hZs,rfl,rfl⟩
   have hw1:WR Tryz.prog B0 w0 G st.heap w.drew:=hw.same rfl
   have hext:Ext G st.heap w G st.heap w.drew st.lo := .same rfl
   obtain⟨g1,g2,g3⟩:=alloc_row hw1 false [] Z 25 (0,0) (by simp) (Thawed.zero _) (fun G' w' _ _=>by simp only[VRC])
   refine⟨_,g1,hext.trans (g2 st.lo),_,rfl,?_⟩
   simp only[VR]
   exact .inl ⟨_,0,cap,rfl,Nat.zero_le _,fun h=>absurd rfl h,⟨rfl,upd_same _ _ _,⟨_,_,_,heap_alloc_new w.drew _,by rw[hZs];omega⟩⟩,by simp only[VRC]⟩
  ·cases h
 ·cases h
end
theorem primOK{B0:Nat}{w0:World}{m:Int}(hB:1<B0)(hm:w0.cell? ⟨1,0,none⟩=some (.int .i64 m)):PrimOK Tryz.prog B0 w0 EE:=by
 intro g rec args st r st' _ _ hs _ hp hlo G w avs hw ha
 have hp:primT g rec args st=some (some (r,st')):=hp
 unfold primT at hp
 split at hp
 ·split at hp
  ·exact⟨enter122,try_ok hs hp hlo hw ha⟩
  ·cases hp
 ·exact⟨enter145,grow_ok hp hw ha⟩
 ·exact⟨enter152,itoa_ok hp hw ha⟩
 ·exact⟨enter153,join_ok hp hw ha⟩
 ·exact⟨enter155,split_ok hB hm hp hw ha⟩
 ·cases hp
theorem primGrows:PrimGrows EE:=by
 intro g rec args st r st' hg _ hp hlo
 have hp:primT g rec args st=some (some (r,st')):=hp
 unfold primT at hp
 split at hp
 ·split at hp
  ·unfold tryR at hp
   split at hp
   ·rename_i hcall
    simp only[Option.some.injEq,Prod.mk.injEq] at hp
    obtain⟨rfl,rfl⟩:=hp
    exact hg _ _ _ _ _ hcall hlo
   ·rename_i hcall
    split at hp
    ·simp only[Option.some.injEq,Prod.mk.injEq] at hp
     obtain⟨rfl,rfl⟩:=hp
     exact hg _ _ _ _ _ hcall hlo
    ·simp only[Option.some.injEq,Prod.mk.injEq] at hp
     obtain⟨rfl,rfl⟩:=hp
     exact hg _ _ _ _ _ hcall hlo
    ·cases hp
   ·cases hp
  ·cases hp
 ·unfold growR at hp
  split at hp
  ·split at hp
   ·simp only[Option.some.injEq,Prod.mk.injEq] at hp
    obtain⟨rfl,rfl⟩:=hp
    exact⟨Nat.le_refl _,by simp,fun l h1 h2=>by first|exact (List.getElem?_append_left (by omega))|exact (List.getElem?_append_left (by omega)).symm⟩
   ·cases hp
  ·cases hp
 ·unfold itoaR at hp
  split at hp
  ·split at hp
   ·simp only[Option.some.injEq,Prod.mk.injEq] at hp
    obtain⟨rfl,rfl⟩:=hp
    exact .refl _
   ·cases hp
  ·cases hp
 ·unfold joinR at hp
  split at hp
  ·split at hp
   ·split at hp
    ·simp only[Option.some.injEq,Prod.mk.injEq] at hp
     obtain⟨rfl,rfl⟩:=hp
     exact .refl _
    ·cases hp
   ·cases hp
  ·cases hp
 ·unfold splitR at hp
  split at hp
  ·split at hp
   ·split at hp
    ·simp only[Option.some.injEq,Prod.mk.injEq] at hp
     obtain⟨rfl,rfl⟩:=hp
     exact .refl _
    ·cases hp
   ·cases hp
  ·cases hp
 ·cases hp
end Go.Den.Ve
end
section
namespace Go.Den
variable{P:Program}
def gh0 (W:World):Gh:=⟨fun _=>none,fun _=>none,fun b=>match W.heap[b]? with
 | some (.cells arr _ _)=>some arr.size
 | _=>none⟩
theorem wr0(W:World):WR P W.heap.size W (gh0 W) [] W:=by
 refine⟨fun _=>⟨rfl,rfl⟩,fun h=>(by cases h),fun h=>(by cases h),fun h=>(by cases h),fun h=>(by cases h),fun {b n} h=>?_,⟨Nat.le_refl _,fun _ _=>rfl⟩,⟨rfl,rfl⟩⟩
 simp only[gh0] at h
 split at h
 ·rename_i arr T fr hb
  cases h
  exact⟨arr,T,fr,hb,Nat.le_refl _⟩
 ·cases h
theorem vrc_of{G:Gh}{w:World}:∀ {cs:List PV} {b off:Nat},(∀ (j:Nat) (p:PV),cs[j]? = some p→∃ v,w.cell? ⟨b,off+j,none⟩=some v∧VR G w p v)→VRC G w cs b off
 | [],b,off,h=>by simp only[VRC]
 | c::cs,b,off,h=>by
  simp only[VRC]
  refine⟨h 0 c rfl,vrc_of fun j p hj=>?_⟩
  obtain⟨v,h1,h2⟩:=h (j+1) p (by simpa using hj)
  exact⟨v,by rw[← h1];congr 2;omega,h2⟩
theorem cell_gh{W:World}{b i:Nat}{v:Value}(h:W.cell? ⟨b,i,none⟩=some v):∃ m,(gh0 W).cm b=some m∧i<m:=by
 unfold World.cell? at h
 split at h
 ·rename_i arr T fr hb
  refine⟨arr.size,?_,?_⟩
  ·simp only[gh0]
   simp only at hb
   rw[hb]
  ·simp only[Option.isSome_none,Bool.false_eq_true,if_false] at h
   exact (Array.getElem?_eq_some_iff.1 h).1
 ·cases h
theorem vr_slice0{W:World}{n cap b off:Nat}{cs:List PV}(hcap:n≤cap)(h:∀ (j:Nat) (p:PV),cs[j]? = some p→∃ v,W.cell? ⟨b,off+j,none⟩=some v∧VR (gh0 W) W p v):VR (gh0 W) W (.slice .shared n cs) (.slice (some ⟨b,off,none⟩) n cap):=by
 simp only[VR]
 refine .inl ⟨b,off,cap,rfl,hcap,fun hne=>?_,trivial,vrc_of h⟩
 have hl:cs.length - 1<cs.length:=by
  have:cs.length≠0:=by simpa using hne
  omega
 obtain⟨v,h1,_⟩:=h (cs.length - 1) _ (List.getElem?_eq_getElem hl)
 obtain⟨m,h2,h3⟩:=cell_gh h1
 exact⟨m,h2,by omega⟩
theorem list_of{α:Type}{Q:Nat→α→Prop}:∀ (n:Nat),(∀ i,i<n→∃ a,Q i a)→∃ l:List α,l.length=n∧∀ (i:Nat) (a:α),l[i]? = some a→Q i a
 | 0,_=>⟨[],rfl,fun i a h=>by simp at h⟩
 | n+1,h=>by
  obtain⟨l,h1,h2⟩:=list_of n (fun i hi=>h i (by omega))
  obtain⟨a,ha⟩:=h n (by omega)
  refine⟨l++[a],by simp[h1],fun i x hx=>?_⟩
  by_cases hi:i<n
  ·rw[List.getElem?_append_left (by omega)] at hx
   exact h2 i x hx
  ·have hlt:=(List.getElem?_eq_some_iff.1 hx).1
   simp[h1] at hlt
   have:i=n:=by omega
   subst this
   rw[List.getElem?_append_right (by omega),h1] at hx
   simp at hx
   subst hx
   exact ha
end Go.Den
namespace Go.Den.Ve
set_option maxRecDepth 100000
open Go.Proofs Go.ChangeShapes Go.WideShapes
section
variable{H:Type}{enc:TypeId×Value→H}{W:World}{base fuel:Nat}{d:DataW H}{ps:List MemPlace}
theorem in_ints{v:Value}(hok:Value.okWide Tryz.prog W .any base 25 v)(h:DataW.Trod enc Tryz.prog W 0 (fun _=>true) true 25 v d ps):∃ P l,VR (gh0 W) W P v∧SlOf 1 encI P l:=by
 obtain⟨fuel,h⟩:=h
 have hcell:Cell.okWide Tryz.prog W .any base 25 v:=by
  unfold Value.okWide at hok
  rw[Tryz.underlying25] at hok
  exact hok
 have e1:Tryz.prog.cellsOf 3=1:=by kernel_rfl
 rcases open_ints Tryz.underlying25 Tryz.underlying3 e1 h with ⟨hv,_⟩|⟨a,len,cap,zs,hv,_,hl,_,hz,_,hc,_⟩
 ·have hv':v = .slice none 0 0:=by
   cases v with
   | agg cs=>exfalso;unfold Cell.okWide Cell.ok at hcell;rw[Tryz.underlying25] at hcell;exact hcell
   | slice p l c=>simpa[Value.cells] using hv
   | _=>simp[Value.cells] at hv
  subst hv'
  exact⟨.nilslice,[],by simp only[VR],rfl,fun _ h=>by cases h⟩
 ·have hv':v = .slice (some a) len cap:=by
   cases v with
   | agg cs=>exfalso;unfold Cell.okWide Cell.ok at hcell;rw[Tryz.underlying25] at hcell;exact hcell
   | slice p l c=>simpa[Value.cells] using hv
   | _=>simp[Value.cells] at hv
  subst hv'
  have hsp:a.spot=none:=by
   unfold Cell.okWide Cell.ok at hcell
   rw[Tryz.underlying25] at hcell
   exact hcell.2.2.2.1
  obtain⟨b,off,sp⟩:=a
  simp only at hsp
  subst hsp
  simp only[if_true] at hz
  refine⟨.slice .shared len ((zs.take len).flatMap encI),zs.take len,vr_slice0 hl fun j p hj=>?_,?_,fun _ _=>rfl⟩
  ·rw[encI_map,List.getElem?_map] at hj
   obtain⟨n,hn,rfl⟩:=Option.map_eq_some_iff.1 hj
   have hjl:=(List.getElem?_eq_some_iff.1 hn).1
   have hjz:j<zs.length:=by simp at hjl;omega
   have hget:zs.getD j 0=n:=by
    rw[List.getElem?_take] at hn
    split at hn
    ·rw[List.getD_eq_getElem?_getD,hn];rfl
    ·cases hn
   refine⟨.int .i64 n,?_,by simp only[VR]⟩
   have:=hc j hjz
   rw[hget] at this
   rw[← this]
   unfold Addr.add
   by_cases h0:j=0
   ·subst h0;rfl
   ·rw[if_neg h0]
  ·simp only[PV.sl]
   congr 2
   simp;omega
end
theorem law_call{g:Nat}{args:List PV}{avs:Array Value}{W:World}(hB:∃ m,1<W.heap.size∧W.cell? ⟨1,0,none⟩=some (.int .i64 m))(h:∀ st,Cl EE (.func g [] []) args st (.ret (.bool true)) st)(ha:VRL (gh0 W) W args avs.toList) :
  Calls Tryz.prog g avs W fun e W'=>e = .returned (.bool true)∧W.heap.size≤W'.heap.size∧(∀ b,b<W.heap.size→W'.heap[b]? = W.heap[b]?)∧W'.os=W.os∧W'.output=W.output:=by
 obtain⟨m,hB,hm⟩:=hB
 obtain⟨N,hN⟩:=h { heap:=[],lo:=0 }
 have hs:=(run_ok (B0:=W.heap.size) (w0:=W) follows envOK envFn (primOK hB hm) primGrows N).1 _ _ _ _ _ (hN N (Nat.le_refl _)) (Nat.le_refl _)
 obtain⟨_,hC⟩:=hs.2 (gh0 W) W (.func (.func g) #[] #[]) avs.toList (wr0 W) (by simp only[VR];exact⟨_,_,rfl,VRL.nil_iff.2 rfl,VRL.nil_iff.2 rfl⟩) ha #[] #[] rfl
 have hC1:=callsIn_wide.1 (hC 0)
 have e:#[]++avs.toList.toArray++#[]=avs:=by simp
 rw[e] at hC1
 refine hC1.mono ?_
 rintro e W' ⟨G',hw,hx,u,rfl,hu⟩
 simp only[VR] at hu
 subst hu
 exact⟨rfl,hw.low.1,hw.low.2,hw.out⟩
end Go.Den.Ve
end

/- Part of the proofs of laws of the package version. Texts: DenShift, DenShiftB. -/
import Derived.Test.YthnfeimjhibcaaaTBAi
set_option linter.unusedSimpArgs false
set_option linter.unusedVariables false
section
namespace Go.Den
def Own.sh (k:Nat):Own→Own
 | .tag t sz => .tag (t+k) sz
 | .shared => .shared
mutual
def PV.sh (k:Nat):PV→PV
 | .bool b => .bool b
 | .int t n => .int t n
 | .str s => .str s
 | .ptr l off => .ptr (l+k) off
 | .cptr cs => .cptr (shL k cs)
 | .nilptr => .nilptr
 | .slice o n cs => .slice (o.sh k) n (shL k cs)
 | .nilslice => .nilslice
 | .hslice l sz n => .hslice (l+k) sz n
 | .vslice l sz n => .vslice (l+k) sz n
 | .aptr l off => .aptr (l+k) off
 | .map l => .map (l+k)
 | .nilmap => .nilmap
 | .func f a c => .func f (shL k a) (shL k c)
 | .nilfunc => .nilfunc
 | .yield l => .yield (l+k)
 | .iface t v => .iface t (v.sh k)
 | .niliface => .niliface
 | .agg cs => .agg (shL k cs)
 | .tuple vs => .tuple (shL k vs)
def shL (k:Nat):List PV→List PV
 | []=>[]
 | v::vs=>v.sh k::shL k vs
end
theorem shL_map (k:Nat):∀ l:List PV,shL k l=l.map (PV.sh k)
 | []=>by simp only [shL,List.map_nil]
 | v::l=>by simp only [shL,shL_map k l,List.map_cons]
def Opd.sh (k:Nat):Opd→Opd
 | .t i => .t i
 | .c v => .c (v.sh k)
abbrev partsSh (k:Nat) (p:List (Nat×Nat×Opd)):List (Nat×Nat×Opd):=p.map fun x=>(x.1,x.2.1,x.2.2.sh k)
def DOp.sh (k:Nat):DOp→DOp
 | .val x => .val (x.sh k)
 | .pick c a b => .pick (c.sh k) (a.sh k) (b.sh k)
 | .box x => .box (x.sh k)
 | .alloc z => .alloc (z.map (PV.sh k))
 | .build z p => .build (z.map (PV.sh k)) (partsSh k p)
 | .buildSlice sz n z p => .buildSlice sz n (z.map (PV.sh k)) (partsSh k p)
 | .buildSliceS sz n z p => .buildSliceS sz n (z.map (PV.sh k)) (partsSh k p)
 | .load g sz a => .load g sz (a.sh k)
 | .store sz a x => .store sz (a.sh k) (x.sh k)
 | .nilCheck x => .nilCheck (x.sh k)
 | .binI op x y => .binI op (x.sh k) (y.sh k)
 | .binS op x y => .binS op (x.sh k) (y.sh k)
 | .binB n x y => .binB n (x.sh k) (y.sh k)
 | .eqAgg n j x y => .eqAgg n j (x.sh k) (y.sh k)
 | .isNilS n x => .isNilS n (x.sh k)
 | .not x => .not (x.sh k)
 | .neg x => .neg (x.sh k)
 | .toInt t x => .toInt t (x.sh k)
 | .bytesToStr x => .bytesToStr (x.sh k)
 | .strToBytes x => .strToBytes (x.sh k)
 | .rangeStr x => .rangeStr (x.sh k)
 | .nextStr x => .nextStr (x.sh k)
 | .assertT t z x => .assertT t (z.sh k) (x.sh k)
 | .mkIface t x => .mkIface t (x.sh k)
 | .mkFunc f a c => .mkFunc f (a.map (Opd.sh k)) (c.map (Opd.sh k))
 | .mkMap => .mkMap
 | .slice sz x lo hi => .slice sz (x.sh k) (lo.map (Opd.sh k)) (hi.map (Opd.sh k))
 | .sliceStr x lo hi => .sliceStr (x.sh k) (lo.map (Opd.sh k)) (hi.map (Opd.sh k))
 | .fieldAddr off x => .fieldAddr off (x.sh k)
 | .part g sz off x => .part g sz off (x.sh k)
 | .indexAddr sz x i => .indexAddr sz (x.sh k) (i.sh k)
 | .indexVar n sz x i => .indexVar n sz (x.sh k) (i.sh k)
 | .indexArr g n sz x i => .indexArr g n sz (x.sh k) (i.sh k)
 | .indexStr x i => .indexStr (x.sh k) (i.sh k)
 | .lookup nf z m q ok => .lookup nf (z.sh k) (m.sh k) (q.sh k) ok
 | .mapUpdate nf m q v => .mapUpdate nf (m.sh k) (q.sh k) (v.sh k)
 | .extract x i => .extract (x.sh k) i
 | .len x => .len (x.sh k)
 | .lenStr x => .lenStr (x.sh k)
 | .append mu sz x y => .append mu sz (x.sh k) (y.sh k)
 | .minmax mx x ys => .minmax mx (x.sh k) (ys.map (Opd.sh k))
 | .call f args => .call (f.sh k) (args.map (Opd.sh k))
 | .invoke x m args => .invoke (x.sh k) m (args.map (Opd.sh k))
 | .panic x => .panic (x.sh k)
 | .buildSliceA sz n z p => .buildSliceA sz n (z.map (PV.sh k)) (partsSh k p)
 | .sliceA n sz x h => .sliceA n sz (x.sh k) (h.sh k)
 | .lookupI z m q ok => .lookupI (z.sh k) (m.sh k) (q.sh k) ok
 | .updateI m q v => .updateI (m.sh k) (q.sh k) (v.sh k)
def DOper.sh (k:Nat) (o:DOper):DOper:=⟨o.op.sh k,o.dst,o.guard⟩
def DCode.sh (k:Nat):DCode→DCode
 | .skip => .skip
 | .region ops => .region (ops.map (DOper.sh k))
 | .dregion ops h => .dregion (ops.map (DOper.sh k)) h
 | .seq a b => .seq (a.sh k) (b.sh k)
 | .cond c a b => .cond (c.sh k) (a.sh k) (b.sh k)
 | .block id b => .block id (b.sh k)
 | .loop b => .loop (b.sh k)
 | .rangeFunc f ps a b => .rangeFunc (f.sh k) ps (a.sh k) (b.sh k)
 | .exit id => .exit id
 | .scope b => .scope (b.sh k)
 | .ret => .ret
def HObj.sh (k:Nat):HObj→HObj
 | .var cs => .var (cs.map (PV.sh k))
 | .tag b => .tag b
 | .arr cs => .arr (cs.map (PV.sh k))
 | .iter s p => .iter s p
 | .map es => .map (es.map fun e=>(e.1.sh k,e.2.sh k))
 | .loop tm ps a b s p => .loop (tm.map (PV.sh k)) ps (a.sh k) (b.sh k) s p
def St.sh (H:List HObj) (st:St):St:={ heap:=H++st.heap.map (HObj.sh H.length),lo:=st.lo+H.length }
def Ex.sh (k:Nat):Ex→Ex
 | .panic v => .panic (v.sh k)
 | e=>e
def CR.sh (k:Nat):CR→CR
 | .ret v => .ret (v.sh k)
 | .panic v => .panic (v.sh k)
def OpR.sh (H:List HObj):OpR→OpR
 | .val v st => .val (v.sh H.length) (st.sh H)
 | .panic v st => .panic (v.sh H.length) (st.sh H)
section
variable {k:Nat}
theorem undef_sh:undef.sh k=undef:=by simp only [undef,PV.sh,shL]
theorem getD_sh (tm:List PV) (i:Nat):(tm.map (PV.sh k)).getD i undef=(tm.getD i undef).sh k:=by
 rw [List.getD_eq_getElem?_getD,List.getD_eq_getElem?_getD,List.getElem?_map]
 cases tm[i]? with
 | none=>simp only [Option.map_none,Option.getD_none,undef_sh]
 | some v=>rfl
theorem ev_sh (x:Opd) (tm:List PV):(x.sh k).ev (tm.map (PV.sh k))=(x.ev tm).sh k:=by
 cases x with
 | t i=>exact getD_sh tm i
 | c v=>rfl
theorem evs_sh (xs:List Opd) (tm:List PV):evs (tm.map (PV.sh k)) (xs.map (Opd.sh k))=(evs tm xs).map (PV.sh k):=by
 unfold evs
 rw [List.map_map,List.map_map]
 exact List.map_congr_left fun x _=>ev_sh x tm
theorem cells_sh (v:PV):(v.sh k).cells=v.cells.map (PV.sh k):=by
 cases v <;> simp only [PV.sh,PV.cells,List.map_cons,List.map_nil,shL_map]
theorem isCell_sh (v:PV):(v.sh k).isCell=v.isCell:=by cases v <;> rfl
theorem allCell_sh (l:List PV):(l.map (PV.sh k)).all PV.isCell=l.all PV.isCell:=by
 rw [List.all_map]
 congr 1
 funext v
 exact isCell_sh v
theorem share_sh (v:PV):(v.sh k).share=v.share.sh k:=by
 cases v <;> simp only [PV.sh,PV.share,Own.sh]
theorem shares_sh (l:List PV):(l.map (PV.sh k)).map PV.share=(l.map PV.share).map (PV.sh k):=by
 rw [List.map_map,List.map_map]
 exact List.map_congr_left fun x _=>share_sh x
theorem splice_sh (cs p:List PV) (off:Nat):splice (cs.map (PV.sh k)) off (p.map (PV.sh k))=(splice cs off p).map (PV.sh k):=by
 simp only [splice,List.map_append,List.map_take,List.map_drop,List.length_map]
theorem fillD_sh (tm:List PV):∀ (p:List (Nat×Nat×Opd)) (cs r:List PV),fillD tm cs p=some r→fillD (tm.map (PV.sh k)) (cs.map (PV.sh k)) (partsSh k p)=some (r.map (PV.sh k))
 | [],cs,r,h=>by simp only [fillD,Option.some.injEq] at h;subst h;rfl
 | (off,sz,x)::p,cs,r,h=>by
  simp only [fillD] at h
  split at h
  ·rename_i hc
   have:=fillD_sh tm p _ r h
   simp only [partsSh,List.map_cons,fillD,ev_sh,cells_sh,List.length_map,splice_sh]
   rw [if_pos hc]
   exact this
  ·cases h
theorem rdPart_sh (agg:Bool) (sz:Nat) (cs:List PV):rdPart agg sz (cs.map (PV.sh k))=(rdPart agg sz cs).map (PV.sh k):=by
 unfold rdPart
 split
 ·rw [List.length_map]
  split
  ·simp only [Option.map_some,PV.sh,shL_map,List.map_take]
  ·rfl
 ·cases cs <;> rfl
theorem ints_sh:∀ (l:List PV) (r:List Int),ints l=some r→ints (l.map (PV.sh k))=some r
 | [],r,h=>h
 | v::l,r,h=>by
  cases v <;> try simp only [ints,reduceCtorEq] at h
  rename_i t n
  cases t <;> try simp only [ints,reduceCtorEq] at h
  obtain ⟨r',h1,rfl⟩:=Option.map_eq_some_iff.1 h
  simp only [List.map_cons,PV.sh,ints,ints_sh l r' h1,Option.map_some]
theorem bytes_sh:∀ (l:List PV) (r:List UInt8),bytesOf l=some r→bytesOf (l.map (PV.sh k))=some r
 | [],r,h=>h
 | v::l,r,h=>by
  cases v <;> try simp only [bytesOf,reduceCtorEq] at h
  rename_i t n
  cases t <;> try simp only [bytesOf,reduceCtorEq] at h
  obtain ⟨r',h1,rfl⟩:=Option.map_eq_some_iff.1 h
  simp only [List.map_cons,PV.sh,bytesOf,bytes_sh l r' h1,Option.map_some]
theorem findKey_sh (q:List Int):∀ (es:List (PV×PV)) (i:Nat) (r:Option Nat),findKey q es i=some r→findKey q (es.map fun e=>(e.1.sh k,e.2.sh k)) i=some r
 | [],i,r,h=>h
 | (a,b)::es,i,r,h=>by
  cases a <;> simp only [findKey,reduceCtorEq] at h
  rename_i cs
  simp only [List.map_cons,PV.sh,findKey,shL_map]
  split at h
  ·rename_i l hl
   rw [ints_sh _ _ hl]
   simp only
   split at h
   ·rename_i h1
    rw [if_pos h1]
    split at h
    ·rename_i h2;rw [if_pos h2];exact h
    ·rename_i h2;rw [if_neg h2];exact findKey_sh q es _ r h
   ·cases h
  ·cases h
theorem findKeyI_sh (q:Int):∀ (es:List (PV×PV)) (i:Nat) (r:Option Nat),findKeyI q es i=some r→findKeyI q (es.map fun e=>(e.1.sh k,e.2.sh k)) i=some r
 | [],i,r,h=>h
 | (a,b)::es,i,r,h=>by
  cases a <;> try simp only [findKeyI,reduceCtorEq] at h
  rename_i t n
  cases t <;> try simp only [findKeyI,reduceCtorEq] at h
  simp only [List.map_cons,PV.sh,findKeyI]
  split at h
  ·rename_i h2;rw [if_pos h2];exact h
  ·rename_i h2;rw [if_neg h2];exact findKeyI_sh q es _ r h
theorem bound_sh {tm:List PV} {x:Option Opd} {d r:Nat} (h:bound tm x d=some r):bound (tm.map (PV.sh k)) (x.map (Opd.sh k)) d=some r:=by
 cases x with
 | none=>exact h
 | some x =>
  simp only [bound] at h
  simp only [Option.map_some,bound,ev_sh]
  generalize x.ev tm=a at h ⊢
  cases a <;> simp only [reduceCtorEq] at h
  exact h
theorem mm_sh (mx:Bool):∀ (l:List PV) (v r:PV),mm mx v l=some r→mm mx (v.sh k) (l.map (PV.sh k))=some (r.sh k)
 | [],v,r,h=>by
  simp only [mm,Option.some.injEq] at h;subst h
  simp only [List.map_nil,mm]
 | w::l,v,r,h=>by
  cases v <;> try simp only [mm,reduceCtorEq] at h
  cases w <;> try simp only [mm,reduceCtorEq] at h
  have:=mm_sh mx l _ r h
  simp only [List.map_cons,PV.sh,mm] at this ⊢
  exact this
theorem wants_sh (tm:List PV) (g:Option (Nat×Bool)):wants (tm.map (PV.sh k)) g=wants tm g:=by
 unfold wants
 cases g with
 | none=>rfl
 | some p =>
  obtain ⟨d,w⟩:=p
  simp only [List.getElem?_map]
  cases tm[d]? with
  | none=>rfl
  | some v=>cases v <;> rfl
theorem put_sh (tm:List PV) (d:Option Nat) (v:PV):put (tm.map (PV.sh k)) d (v.sh k)=(put tm d v).map (PV.sh k):=by
 cases d with
 | none=>rfl
 | some d=>simp only [put,List.map_set]
end
section
variable {H:List HObj}
theorem get_sh (h:List HObj) (l:Nat):(H++h.map (HObj.sh H.length))[l+H.length]? = (h[l]?).map (HObj.sh H.length):=by
 rw [List.getElem?_append_right (by omega),show l+H.length - H.length=l by omega,List.getElem?_map]
theorem set_sh (h:List HObj) (l:Nat) (o:HObj):(H++h.map (HObj.sh H.length)).set (l+H.length) (o.sh H.length)=H++(h.set l o).map (HObj.sh H.length):=by
 rw [List.set_append_right _ _ (by omega),show l+H.length - H.length=l by omega,List.map_set]
theorem len_sh (st:St):(st.sh H).heap.length=st.heap.length+H.length:=by
 simp only [St.sh,List.length_append,List.length_map];omega
theorem at_sh (st:St) (l:Nat):(st.sh H).heap[l+H.length]? = (st.heap[l]?).map (HObj.sh H.length):=get_sh st.heap l
theorem setVar_sh (st:St) (l:Nat) (o:HObj):setVar (st.sh H) (l+H.length) (o.sh H.length)=(setVar st l o).sh H:=by
 simp only [setVar,St.sh,set_sh,St.mk.injEq,true_and]
 omega
theorem push_sh (st:St) (o:HObj):({ (st.sh H) with heap:=(st.sh H).heap++[o.sh H.length] }:St)=({ st with heap:=st.heap++[o] }:St).sh H:=by
 simp only [St.sh,List.map_append,List.map_cons,List.map_nil,List.append_assoc]
mutual
theorem low_sh (k m:Nat):∀ v:PV,(v.sh k).low (m+k)=v.low m
 | .bool _=>rfl
 | .int _ _=>rfl
 | .str _=>rfl
 | .ptr l _=>by simp only [PV.sh,PV.low,Nat.add_lt_add_iff_right]
 | .cptr cs=>by simp only [PV.sh,PV.low,lowL_sh k m cs]
 | .nilptr=>rfl
 | .slice (.tag t sz) n cs=>by simp only [PV.sh,Own.sh,PV.low,lowL_sh k m cs,Nat.add_lt_add_iff_right]
 | .slice .shared n cs=>by simp only [PV.sh,Own.sh,PV.low,lowL_sh k m cs]
 | .nilslice=>rfl
 | .hslice l _ _=>by simp only [PV.sh,PV.low,Nat.add_lt_add_iff_right]
 | .vslice l _ _=>by simp only [PV.sh,PV.low,Nat.add_lt_add_iff_right]
 | .aptr l _=>by simp only [PV.sh,PV.low,Nat.add_lt_add_iff_right]
 | .map l=>by simp only [PV.sh,PV.low,Nat.add_lt_add_iff_right]
 | .nilmap=>rfl
 | .func _ a c=>by simp only [PV.sh,PV.low,lowL_sh k m a,lowL_sh k m c]
 | .nilfunc=>rfl
 | .yield l=>by simp only [PV.sh,PV.low,Nat.add_lt_add_iff_right]
 | .iface _ v=>by simp only [PV.sh,PV.low,low_sh k m v]
 | .niliface=>rfl
 | .agg cs=>by simp only [PV.sh,PV.low,lowL_sh k m cs]
 | .tuple cs=>by simp only [PV.sh,PV.low,lowL_sh k m cs]
theorem lowL_sh (k m:Nat):∀ l:List PV,lowL (m+k) (shL k l)=lowL m l
 | []=>rfl
 | v::l=>by simp only [shL,lowL,low_sh k m v,lowL_sh k m l]
end
theorem freeze1_sh {m:Nat} {h h':List HObj} {v v':PV} (e:freeze1 m h v=(v',h')):freeze1 (m+H.length) (H++h.map (HObj.sh H.length)) (v.sh H.length)=(v'.sh H.length,H++h'.map (HObj.sh H.length)):=by
 unfold freeze1 at e
 split at e
 ·rename_i t sz n
  simp only [PV.sh,freeze1,get_sh]
  split at e
  ·rename_i ht
   rw [if_pos (by omega)]
   cases e;rfl
  ·rename_i ht
   rw [if_neg (by omega)]
   split at e
   ·rename_i cs hh
    simp only [hh,Option.map_some,HObj.sh,allCell_sh]
    split at e
    ·rename_i hc
     rw [if_pos hc]
     cases e
     simp only [PV.sh,Own.sh,shares_sh,shL_map]
     rw [← set_sh]
     rfl
    ·rename_i hc
     rw [if_neg hc]
     cases e;rfl
   ·rename_i hh
    cases e
    cases hx:h[t]? with
    | none=>rfl
    | some o =>
     cases o with
     | arr cs=>exact absurd hx (hh cs)
     | _=>rfl
 ·rename_i hv
  cases e
  cases v with
  | hslice t sz n=>exact absurd rfl (hv t sz n)
  | _=>rfl
theorem freezeL_sh {m:Nat}:∀ {vs vs':List PV} {h h':List HObj},freezeL m h vs=(vs',h')→freezeL (m+H.length) (H++h.map (HObj.sh H.length)) (vs.map (PV.sh H.length))=(vs'.map (PV.sh H.length),H++h'.map (HObj.sh H.length))
 | [],vs',h,h',e=>by simp only [freezeL] at e;cases e;rfl
 | v::vs,vs',h,h',e=>by
  simp only [freezeL] at e
  generalize hx:freeze1 m h v=x at e
  obtain ⟨v1,h1⟩:=x
  simp only at e
  generalize hy:freezeL m h1 vs=y at e
  obtain ⟨vs1,h2⟩:=y
  simp only at e
  cases e
  simp only [List.map_cons,freezeL,freeze1_sh hx,freezeL_sh hy]
theorem contains_sh (k:Nat) (l:List Nat) (t:Nat):(l.map (·+k)).contains (t+k)=l.contains t:=by
 induction l with
 | nil=>rfl
 | cons x l ih =>
  simp only [List.map_cons,List.contains_cons,ih]
  congr 1
  rw [Bool.eq_iff_iff,beq_iff_eq,beq_iff_eq]
  omega
theorem retag1_oth {h:List HObj} {m:Nat} {s:List Nat} {v:PV} (hv:∀ t sz n cs,v ≠ .slice (.tag t sz) n cs):retag1 h m s v=if v.low m then some (v,s) else none:=by
 unfold retag1
 split
 ·rename_i t sz n cs;exact absurd rfl (hv t sz n cs)
 ·rfl
theorem retag1_sh {h:List HObj} {m:Nat} {s:List Nat} {v:PV}:retag1 (H++h.map (HObj.sh H.length)) (m+H.length) (s.map (·+H.length)) (v.sh H.length)=(retag1 h m s v).map fun r=>(r.1.sh H.length,r.2.map (·+H.length)):=by
 by_cases hv:∀ t sz n cs,v ≠ .slice (.tag t sz) n cs
 ·have hv2:∀ t sz n cs,v.sh H.length ≠ .slice (.tag t sz) n cs:=fun t sz n cs e=>by
   cases v with
   | slice o n' cs' =>
    cases o with
    | tag t' sz'=>exact hv _ _ _ _ rfl
    | shared=>simp only [PV.sh,Own.sh,PV.slice.injEq,reduceCtorEq,false_and] at e
   | _=>simp only [PV.sh,reduceCtorEq] at e
  rw [retag1_oth hv,retag1_oth hv2,low_sh]
  cases v.low m <;> rfl
 ·obtain ⟨t,sz,n,cs,rfl⟩:∃ t sz n cs,v = .slice (.tag t sz) n cs:=by
   cases v with
   | slice o n' cs' =>
    cases o with
    | tag t' sz'=>exact ⟨_,_,_,_,rfl⟩
    | shared=>exact absurd (fun t sz n cs e=>by cases e) hv
   | _=>exact absurd (fun t sz n cs e=>by cases e) hv
  simp only [PV.sh,Own.sh,retag1,lowL_sh,get_sh,Nat.add_lt_add_iff_right,contains_sh,List.length_map]
  by_cases h1:lowL m cs=true
  ·rw [if_pos h1,if_pos h1]
   by_cases h2:t<m
   ·rw [if_pos h2,if_pos h2];rfl
   ·rw [if_neg h2,if_neg h2]
    cases hx:h[t]? with
    | none=>rfl
    | some ob =>
     cases ob with
     | tag b =>
      cases b with
      | false=>rfl
      | true =>
       simp only [Option.map_some,HObj.sh]
       by_cases h3:s.contains t=true
       ·rw [if_pos h3,if_pos h3];rfl
       ·rw [if_neg h3,if_neg h3]
        simp only [Option.map_some,PV.sh,Own.sh,List.map_append,List.map_cons,List.map_nil,Option.some.injEq,Prod.mk.injEq,and_true]
        rw [show m+H.length+s.length=m+s.length+H.length by omega]
     | _=>rfl
  ·rw [if_neg h1,if_neg h1];rfl
theorem retagL_sh {h:List HObj} {m:Nat}:∀ {vs:List PV} {s:List Nat},retagL (H++h.map (HObj.sh H.length)) (m+H.length) (s.map (·+H.length)) (vs.map (PV.sh H.length))=(retagL h m s vs).map fun r=>(r.1.map (PV.sh H.length),r.2.map (·+H.length))
 | [],s=>rfl
 | v::vs,s=>by
  simp only [List.map_cons,retagL,retag1_sh]
  cases retag1 h m s v with
  | none=>rfl
  | some r =>
   obtain ⟨v',s1⟩:=r
   simp only [Option.map_some]
   rw [retagL_sh]
   cases retagL h m s1 vs with
   | none=>rfl
   | some r=>rfl
theorem letGo_one {h:List HObj} {m:Nat} {v:PV} (h1:∀ vs,v ≠ .tuple vs) (h2:∀ vs,v ≠ .agg vs):letGo m h v=(retag1 (freeze1 m h v).2 m [] (freeze1 m h v).1).map fun (r:PV×List Nat)=>(r.1,r.2.length):=by
 unfold letGo
 split
 ·rename_i vs;exact absurd rfl (h1 vs)
 ·rename_i vs;exact absurd rfl (h2 vs)
 ·rfl
theorem letGo_sh {h:List HObj} {m:Nat} {v:PV}:letGo (m+H.length) (H++h.map (HObj.sh H.length)) (v.sh H.length)=(letGo m h v).map fun (r:PV×Nat)=>(r.1.sh H.length,r.2):=by
 have one:(∀ vs,v ≠ .tuple vs)→(∀ vs,v ≠ .agg vs)→letGo (m+H.length) (H++h.map (HObj.sh H.length)) (v.sh H.length)=(letGo m h v).map fun (r:PV×Nat)=>(r.1.sh H.length,r.2):=fun a1 a2=>by
  rw [letGo_one a1 a2,letGo_one (fun vs e=>by cases v <;> first|exact a1 _ rfl|cases e) (fun vs e=>by cases v <;> first|exact a2 _ rfl|cases e)]
  generalize hx:freeze1 m h v=x
  obtain ⟨v',h'⟩:=x
  rw [freeze1_sh hx]
  simp only
  have:=retag1_sh (H:=H) (h:=h') (m:=m) (v:=v') (s:=[])
  rw [List.map_nil] at this
  rw [this]
  cases retag1 h' m [] v' with
  | none=>rfl
  | some r=>simp only [Option.map_some,List.length_map]
 cases v with
 | tuple vs =>
  simp only [PV.sh,shL_map,letGo]
  generalize hx:freezeL m h vs=x
  obtain ⟨vs',h'⟩:=x
  rw [freezeL_sh hx]
  simp only
  have:=retagL_sh (H:=H) (h:=h') (m:=m) (vs:=vs') (s:=[])
  rw [List.map_nil] at this
  rw [this]
  cases retagL h' m [] vs' with
  | none=>rfl
  | some r=>simp only [Option.map_some,List.length_map,PV.sh,shL_map]
 | agg vs =>
  simp only [PV.sh,shL_map,letGo]
  generalize hx:freezeL m h vs=x
  obtain ⟨vs',h'⟩:=x
  rw [freezeL_sh hx]
  simp only
  have:=retagL_sh (H:=H) (h:=h') (m:=m) (vs:=vs') (s:=[])
  rw [List.map_nil] at this
  rw [this]
  cases retagL h' m [] vs' with
  | none=>rfl
  | some r=>simp only [Option.map_some,List.length_map,PV.sh,shL_map]
 | _=>exact one (fun vs e=>by cases e) (fun vs e=>by cases e)
theorem freeze2_sh {m:Nat} {h h':List HObj} {v v':PV} (e:freeze2 m h v=(v',h')):freeze2 (m+H.length) (H++h.map (HObj.sh H.length)) (v.sh H.length)=(v'.sh H.length,H++h'.map (HObj.sh H.length)):=by
 unfold freeze2 at e
 split at e
 ·rename_i t sz n
  simp only [PV.sh,freeze2,get_sh]
  split at e
  ·rename_i ht
   rw [if_pos (by omega)]
   cases e;rfl
  ·rename_i ht
   rw [if_neg (by omega)]
   split at e
   ·rename_i cs hh
    simp only [hh,Option.map_some,HObj.sh,allCell_sh]
    split at e
    ·rename_i hc
     rw [if_pos hc]
     generalize hx:freezeL m h cs=x at e
     obtain ⟨cs',h1⟩:=x
     rw [freezeL_sh hx]
     simp only [get_sh] at e ⊢
     split at e
     ·rename_i cs1 hh1
      rw [hh1]
      simp only [Option.map_some,HObj.sh]
      cases e
      simp only [PV.sh,Own.sh,shares_sh,shL_map]
      rw [← set_sh]
      rfl
     ·rename_i hh1
      cases e
      cases hx1:h1[t]? with
      | none=>rfl
      | some o =>
       cases o with
       | arr cs1=>exact absurd hx1 (hh1 cs1)
       | _=>rfl
    ·rename_i hc
     rw [if_neg hc]
     cases e;rfl
   ·rename_i hh
    cases e
    cases hx:h[t]? with
    | none=>rfl
    | some o =>
     cases o with
     | arr cs=>exact absurd hx (hh cs)
     | _=>rfl
 ·rename_i hv
  cases e
  cases v with
  | hslice t sz n=>exact absurd rfl (hv t sz n)
  | _=>rfl
theorem freeze2L_sh {m:Nat}:∀ {vs vs':List PV} {h h':List HObj},freeze2L m h vs=(vs',h')→freeze2L (m+H.length) (H++h.map (HObj.sh H.length)) (vs.map (PV.sh H.length))=(vs'.map (PV.sh H.length),H++h'.map (HObj.sh H.length))
 | [],vs',h,h',e=>by simp only [freeze2L] at e;cases e;rfl
 | v::vs,vs',h,h',e=>by
  simp only [freeze2L] at e
  generalize hx:freeze2 m h v=x at e
  obtain ⟨v1,h1⟩:=x
  simp only at e
  generalize hy:freeze2L m h1 vs=y at e
  obtain ⟨vs1,h2⟩:=y
  simp only at e
  cases e
  simp only [List.map_cons,freeze2L,freeze2_sh hx,freeze2L_sh hy]
theorem letGo2_sh {h:List HObj} {m:Nat} {v:PV}:letGo2 (m+H.length) (H++h.map (HObj.sh H.length)) (v.sh H.length)=(letGo2 m h v).map fun (r:PV×Nat)=>(r.1.sh H.length,r.2):=by
 cases v with
 | agg vs =>
  simp only [PV.sh,shL_map,letGo2]
  generalize hx:freeze2L m h vs=x
  obtain ⟨vs',h'⟩:=x
  rw [freeze2L_sh hx]
  simp only
  have:=retagL_sh (H:=H) (h:=h') (m:=m) (vs:=vs') (s:=[])
  rw [List.map_nil] at this
  rw [this]
  cases retagL h' m [] vs' with
  | none=>rfl
  | some r=>simp only [Option.map_some,List.length_map,PV.sh,shL_map]
 | _=>rfl
theorem finish_sh (st st1:St) (v:PV):finishCall (st.sh H) (st1.sh H) (v.sh H.length)=((finishCall st st1 v).1.sh H.length,(finishCall st st1 v).2.sh H):=by
 unfold finishCall
 have e1:(st.sh H).heap.length=st.heap.length+H.length:=len_sh st
 have e2:(st1.sh H).lo=st1.lo+H.length:=rfl
 rw [e1,e2]
 by_cases hc:st.heap.length≤st1.lo
 ·rw [if_pos (by omega),if_pos hc]
  have e3:(st1.sh H).heap=H++st1.heap.map (HObj.sh H.length):=rfl
  rw [e3,letGo_sh,letGo2_sh]
  cases letGo st.heap.length st1.heap v with
  | none =>
   cases letGo2 st.heap.length st1.heap v with
   | none=>rfl
   | some r =>
    obtain ⟨v',n⟩:=r
    simp only [Option.map_some,Option.map_none,St.sh,List.map_append,List.append_assoc,List.map_replicate]
    rfl
  | some r =>
   obtain ⟨v',n⟩:=r
   simp only [Option.map_some,St.sh,List.map_append,List.append_assoc,List.map_replicate]
   rfl
 ·rw [if_neg (by omega),if_neg hc]
  simp only [St.sh,Prod.mk.injEq,St.mk.injEq,true_and]
  omega
mutual
theorem same_sh (k:Nat):∀ p q:PV,(p.sh k).same (q.sh k)=p.same q
 | .bool _,q=>by cases q <;> rfl
 | .int _ _,q=>by cases q <;> rfl
 | .str _,q=>by cases q <;> rfl
 | .ptr l o,q=>by cases q <;> simp only [PV.sh,PV.same,Nat.add_right_cancel_iff]
 | .cptr cs,q=>by cases q <;> simp only [PV.sh,PV.same,sameL_sh k cs]
 | .nilptr,q=>by cases q <;> rfl
 | .slice (.tag t z) n cs,q=>by
  cases q with
  | slice o n' ds=>cases o <;> simp only [PV.sh,Own.sh,PV.same,Nat.add_right_cancel_iff,sameL_sh k cs]
  | _=>rfl
 | .slice .shared n cs,q=>by
  cases q with
  | slice o n' ds=>cases o <;> simp only [PV.sh,Own.sh,PV.same,sameL_sh k cs]
  | _=>rfl
 | .nilslice,q=>by cases q <;> rfl
 | .hslice l z n,q=>by cases q <;> simp only [PV.sh,PV.same,Nat.add_right_cancel_iff]
 | .vslice l z n,q=>by cases q <;> simp only [PV.sh,PV.same,Nat.add_right_cancel_iff]
 | .aptr l o,q=>by cases q <;> simp only [PV.sh,PV.same,Nat.add_right_cancel_iff]
 | .map l,q=>by cases q <;> simp only [PV.sh,PV.same,Nat.add_right_cancel_iff]
 | .nilmap,q=>by cases q <;> rfl
 | .func f a c,q=>by cases q <;> simp only [PV.sh,PV.same,sameL_sh k a,sameL_sh k c]
 | .nilfunc,q=>by cases q <;> rfl
 | .yield l,q=>by cases q <;> simp only [PV.sh,PV.same,Nat.add_right_cancel_iff]
 | .iface t v,q=>by cases q <;> simp only [PV.sh,PV.same,same_sh k v]
 | .niliface,q=>by cases q <;> rfl
 | .agg cs,q=>by cases q <;> simp only [PV.sh,PV.same,sameL_sh k cs]
 | .tuple cs,q=>by cases q <;> simp only [PV.sh,PV.same,sameL_sh k cs]
theorem sameL_sh (k:Nat):∀ p q:List PV,sameL (shL k p) (shL k q)=sameL p q
 | [],q=>by cases q <;> rfl
 | v::p,q=>by
  cases q with
  | nil=>rfl
  | cons u q=>simp only [shL,sameL,same_sh k v u,sameL_sh k p q]
end
theorem sameO_sh (k:Nat) (a b:Option HObj):sameO (a.map (HObj.sh k)) (b.map (HObj.sh k))=sameO a b:=by
 cases a with
 | none=>cases b <;> rfl
 | some a =>
  cases b with
  | none=>cases a <;> rfl
  | some b =>
   cases a <;> cases b <;> try rfl
   simp only [Option.map_some,HObj.sh,sameO,← shL_map,sameL_sh]
def Foot.sh (H:List HObj):Foot→Foot
 | .quiet => .quiet
 | .ld l => .ld (l+H.length)
 | .st l => .st (l+H.length)
 | .wr l => .wr (l+H.length)
 | .ch l h h' => .ch (l+H.length) (H++h.map (HObj.sh H.length)) (H++h'.map (HObj.sh H.length))
theorem clash_sh (l:Nat) (f:Foot):clash (l+H.length) (f.sh H)=clash l f:=by
 cases f with
 | quiet=>rfl
 | ld m=>rfl
 | st m =>
  simp only [Foot.sh,clash]
  rw [Bool.eq_iff_iff,beq_iff_eq,beq_iff_eq];omega
 | wr m=>simp only [Foot.sh,clash,Nat.add_le_add_iff_right]
 | ch m h h'=>simp only [Foot.sh,clash,Nat.add_le_add_iff_right,get_sh,sameO_sh]
theorem footOk_sh (fs:List Foot) (free:List (Nat×List Nat)):footOk (fs.map (Foot.sh H)) free=footOk fs free:=by
 unfold footOk
 congr 1
 funext p
 obtain ⟨i,js⟩:=p
 simp only [List.getElem?_map]
 cases fs[i]? with
 | none=>rfl
 | some f =>
  cases f with
  | ld l =>
   simp only [Option.map_some,Foot.sh]
   congr 1
   funext j
   cases fs[j]? with
   | none=>rfl
   | some f=>simp only [Option.map_some,clash_sh]
  | _=>rfl
theorem footOf_sh (tm:List PV) (o:DOp) (m lo:Nat):footOf (tm.map (PV.sh H.length)) (o.sh H.length) (m+H.length) (lo+H.length)=(footOf tm o m lo).sh H:=by
 cases o with
 | load g sz a =>
  simp only [DOp.sh,footOf,ev_sh]
  cases a.ev tm <;> rfl
 | store sz a x =>
  simp only [DOp.sh,footOf,ev_sh]
  cases a.ev tm <;> rfl
 | bytesToStr a =>
  simp only [DOp.sh,footOf,ev_sh]
  cases a.ev tm <;> rfl
 | lookup nf z q x ok =>
  simp only [DOp.sh,footOf,ev_sh]
  cases q.ev tm <;> rfl
 | _ =>
  simp only [DOp.sh,footOf,Nat.add_le_add_iff_right]
  split <;> rfl
theorem fineOf_sh (o:DOp) (f:Foot) (h h':List HObj):fineOf (o.sh H.length) (f.sh H) (H++h.map (HObj.sh H.length)) (H++h'.map (HObj.sh H.length))=(fineOf o f h h').sh H:=by
 cases o <;> cases f <;> rfl
end
end Go.Den
end
section
namespace Go.Den
section
variable {H:List HObj}
structure RecSh (H:List HObj) (r0:Rec) (R:Nat→Rec):Prop where
 code:∀ {c tm st e tm' st'},r0.code c tm st=some (e,tm',st')→∃ M,∀ m,M≤m→(R m).code (c.sh H.length) (tm.map (PV.sh H.length)) (st.sh H)=some (e.sh H.length,tm'.map (PV.sh H.length),st'.sh H)
 call:∀ {f args st x st'},r0.call f args st=some (x,st')→∃ M,∀ m,M≤m→(R m).call (f.sh H.length) (args.map (PV.sh H.length)) (st.sh H)=some (x.sh H.length,st'.sh H)
theorem doAppend_sh {mu:Bool} {sz:Nat} {st:St} {x:PV} {m:Nat} {ys:List PV} {r:OpR} (h:doAppend mu sz st x m ys=some r):doAppend mu sz (st.sh H) (x.sh H.length) m (ys.map (PV.sh H.length))=some (r.sh H):=by
 unfold doAppend at h ⊢
 rw [List.length_map,allCell_sh]
 split at h
 ·rename_i hc
  rw [if_pos hc]
  split at h
  ·rename_i hm
   rw [if_pos hm]
   cases x <;> simp only [PV.sh,Option.some.injEq,reduceCtorEq] at h ⊢ <;> subst h <;> rfl
  ·rename_i hm
   rw [if_neg hm]
   cases x <;> try simp only [reduceCtorEq] at h
   case slice o n cs =>
    cases o <;> try simp only [reduceCtorEq] at h
    rename_i t sz'
    simp only [PV.sh,Own.sh,shL_map,List.length_map,at_sh]
    split at h
    ·rename_i h1
     rw [if_pos h1]
     cases hx:st.heap[t]? with
     | none=>rw [hx] at h;simp only [reduceCtorEq] at h
     | some ob =>
      rw [hx] at h
      cases ob <;> try simp only [reduceCtorEq] at h
      rename_i b
      cases b <;> try simp only [reduceCtorEq,Option.some.injEq] at h
      subst h
      simp only [Option.map_some,HObj.sh,OpR.sh,PV.sh,Own.sh,shL_map,List.map_append,len_sh,Option.some.injEq,OpR.val.injEq,PV.slice.injEq,true_and,shares_sh]
      simp only [St.sh,List.map_append,List.map_cons,List.map_nil,HObj.sh,← List.append_assoc,St.mk.injEq]
      refine ⟨?_,by omega⟩
      rw [← set_sh];rfl
    ·cases h
   case nilslice =>
    simp only [PV.sh]
    split at h
    ·rename_i h1
     rw [if_pos h1]
     cases mu
     ·simp only [Bool.false_eq_true,if_false,Option.some.injEq] at h ⊢
      subst h
      simp only [OpR.sh,PV.sh,Own.sh,shL_map,shares_sh,len_sh,OpR.val.injEq,true_and]
      exact push_sh st (.tag true)
     ·simp only [if_true,Option.some.injEq] at h ⊢
      subst h
      simp only [OpR.sh,PV.sh,len_sh,OpR.val.injEq,true_and]
      exact push_sh st (.arr ys)
    ·cases h
   case hslice t sz' n =>
    simp only [PV.sh,at_sh]
    cases hx:st.heap[t]? with
    | none=>rw [hx] at h;simp only [reduceCtorEq] at h
    | some ob =>
     rw [hx] at h
     cases ob <;> try simp only [reduceCtorEq] at h
     rename_i cs
     simp only [Option.map_some,HObj.sh,List.length_map]
     split at h
     ·rename_i h1
      rw [if_pos h1]
      simp only [Option.some.injEq] at h
      subst h
      simp only [OpR.sh,PV.sh,len_sh,Option.some.injEq,OpR.val.injEq,true_and]
      simp only [St.sh,List.map_append,List.map_cons,List.map_nil,HObj.sh,← List.append_assoc,St.mk.injEq]
      refine ⟨?_,by omega⟩
      rw [← set_sh];rfl
     ·cases h
 ·cases h
theorem loadAt_sh {agg:Bool} {sz:Nat} {st:St} {a:PV} {r:OpR} (h:(match a with
  | .ptr l off=>match st.heap[l]? with
   | some (.var cs)=>if off≤cs.length then (rdPart agg sz (cs.drop off)).map (OpR.val · st) else none
   | _=>none
  | .cptr cs=>(rdPart agg sz cs).map (OpR.val · st)
  | .aptr l off=>match st.heap[l]? with
   | some (.arr cs)=>if off≤cs.length then (rdPart agg sz (cs.drop off)).map (OpR.val · st) else none
   | _=>none
  | _=>none)=some r):(match a.sh H.length with
  | .ptr l off=>match (st.sh H).heap[l]? with
   | some (.var cs)=>if off≤cs.length then (rdPart agg sz (cs.drop off)).map (OpR.val · (st.sh H)) else none
   | _=>none
  | .cptr cs=>(rdPart agg sz cs).map (OpR.val · (st.sh H))
  | .aptr l off=>match (st.sh H).heap[l]? with
   | some (.arr cs)=>if off≤cs.length then (rdPart agg sz (cs.drop off)).map (OpR.val · (st.sh H)) else none
   | _=>none
  | _=>none)=some (r.sh H):=by
 cases a <;> try simp only [reduceCtorEq] at h
 case ptr l off =>
  simp only [PV.sh,at_sh]
  cases hx:st.heap[l]? with
  | none=>rw [hx] at h;simp only [reduceCtorEq] at h
  | some ob =>
   rw [hx] at h
   cases ob <;> try simp only [reduceCtorEq] at h
   rename_i cs
   simp only [Option.map_some,HObj.sh,List.length_map,← List.map_drop,rdPart_sh]
   split at h
   ·rename_i h1
    rw [if_pos h1]
    obtain ⟨v,h2,rfl⟩:=Option.map_eq_some_iff.1 h
    rw [h2];rfl
   ·cases h
 case cptr cs =>
  simp only [PV.sh,shL_map,rdPart_sh]
  obtain ⟨v,h2,rfl⟩:=Option.map_eq_some_iff.1 h
  rw [h2];rfl
 case aptr l off =>
  simp only [PV.sh,at_sh]
  cases hx:st.heap[l]? with
  | none=>rw [hx] at h;simp only [reduceCtorEq] at h
  | some ob =>
   rw [hx] at h
   cases ob <;> try simp only [reduceCtorEq] at h
   rename_i cs
   simp only [Option.map_some,HObj.sh,List.length_map,← List.map_drop,rdPart_sh]
   split at h
   ·rename_i h1
    rw [if_pos h1]
    obtain ⟨v,h2,rfl⟩:=Option.map_eq_some_iff.1 h
    rw [h2];rfl
   ·cases h
theorem binI_sh {op:BinOp} {t:IntKind} {x y:Int} {v:PV} (h:binI op t x y=some v):v.sh H.length=v:=by
 unfold binI at h
 split at h <;> first|(simp only [Option.some.injEq] at h;subst h;rfl)|(split at h <;> first|(simp only [Option.some.injEq] at h;subst h;rfl)|cases h)|cases h
theorem binS_sh {op:BinOp} {x y:ByteArray} {v:PV} (h:binS op x y=some v):v.sh H.length=v:=by
 unfold binS at h
 split at h <;> first|(simp only [Option.some.injEq] at h;subst h;rfl)|(split at h <;> first|(simp only [Option.some.injEq] at h;subst h;rfl)|cases h)|cases h
def isCallD:DOp→Bool
 | .call .. => true
 | .invoke .. => true
 | _=>false
theorem cut_sh (k sz:Nat) (hi:Option Opd) (o:Own):(o.sh k).cut sz (hi.map (Opd.sh k))=(o.cut sz hi).sh k:=by
 cases o with
 | shared=>rfl
 | tag t s =>
  have e:(hi.map (Opd.sh k)).isNone=hi.isNone:=by cases hi <;> rfl
  simp only [Own.sh,Own.cut,e]
  split <;> rfl
theorem stepOp_sh0 {E0 E:Env} {r0 rec:Rec} {tm:List PV} {st:St} {o:DOp} {r:OpR} (hcall:isCallD o=false) (h:stepOp E0 r0 tm st o=some r):stepOp E rec (tm.map (PV.sh H.length)) (st.sh H) (o.sh H.length)=some (r.sh H):=by
 cases o with
 | val x =>
  simp only [stepOp,Option.some.injEq] at h;subst h
  simp only [DOp.sh,stepOp,ev_sh];rfl
 | pick c a b =>
  simp only [stepOp] at h
  simp only [DOp.sh,stepOp,ev_sh]
  generalize c.ev tm=v at h ⊢
  cases v <;> try simp only [reduceCtorEq,Option.some.injEq] at h
  rename_i t
  subst h
  cases t <;> rfl
 | box x =>
  simp only [stepOp,Option.some.injEq] at h;subst h
  simp only [DOp.sh,stepOp,ev_sh,cells_sh,len_sh]
  simp only [OpR.sh,PV.sh,Option.some.injEq,OpR.val.injEq,true_and]
  exact push_sh st (.var _)
 | alloc z =>
  simp only [stepOp,Option.some.injEq] at h;subst h
  simp only [DOp.sh,stepOp,len_sh]
  simp only [OpR.sh,PV.sh,Option.some.injEq,OpR.val.injEq,true_and]
  exact push_sh st (.var z)
 | build z p =>
  simp only [stepOp] at h
  split at h
  ·rename_i cs hf
   simp only [Option.some.injEq] at h;subst h
   simp only [DOp.sh,stepOp,fillD_sh tm p z cs hf,OpR.sh,PV.sh,shL_map]
  ·cases h
 | buildSlice sz n z p =>
  simp only [stepOp] at h
  split at h
  ·rename_i cs hf
   simp only [Option.some.injEq] at h;subst h
   simp only [DOp.sh,stepOp,fillD_sh tm p z cs hf,OpR.sh,PV.sh,Own.sh,shL_map,shares_sh,len_sh,Option.some.injEq,OpR.val.injEq,true_and]
   exact push_sh st (.tag true)
  ·cases h
 | buildSliceS sz n z p =>
  simp only [stepOp] at h
  split at h
  ·rename_i cs hf
   simp only [Option.some.injEq] at h;subst h
   simp only [DOp.sh,stepOp,fillD_sh tm p z cs hf,OpR.sh,PV.sh,Own.sh,shL_map,shares_sh]
  ·cases h
 | load g sz a =>
  simp only [stepOp] at h
  simp only [DOp.sh,stepOp,ev_sh]
  exact loadAt_sh h
 | store sz a x =>
  simp only [stepOp] at h
  simp only [DOp.sh,stepOp,ev_sh]
  generalize a.ev tm=v at h ⊢
  cases v <;> try simp only [reduceCtorEq] at h
  case ptr l off =>
   simp only [PV.sh,at_sh]
   cases hx:st.heap[l]? with
   | none=>rw [hx] at h;simp only [reduceCtorEq] at h
   | some ob =>
    rw [hx] at h
    cases ob <;> try simp only [reduceCtorEq] at h
    rename_i cs
    simp only [Option.map_some,HObj.sh,List.length_map,cells_sh,allCell_sh,splice_sh]
    split at h
    ·rename_i h1
     rw [if_pos h1]
     simp only [Option.some.injEq] at h;subst h
     simp only [OpR.sh,undef_sh,Option.some.injEq,OpR.val.injEq,true_and]
     exact setVar_sh st l (.var _)
    ·cases h
  case aptr l off =>
   simp only [PV.sh,at_sh]
   cases hx:st.heap[l]? with
   | none=>rw [hx] at h;simp only [reduceCtorEq] at h
   | some ob =>
    rw [hx] at h
    cases ob <;> try simp only [reduceCtorEq] at h
    rename_i cs
    simp only [Option.map_some,HObj.sh,List.length_map,cells_sh,allCell_sh,splice_sh]
    split at h
    ·rename_i h1
     rw [if_pos h1]
     simp only [Option.some.injEq] at h;subst h
     simp only [OpR.sh,undef_sh,Option.some.injEq,OpR.val.injEq,true_and]
     exact setVar_sh st l (.arr _)
    ·cases h
 | nilCheck x =>
  simp only [stepOp] at h
  simp only [DOp.sh,stepOp,ev_sh]
  generalize x.ev tm=v at h ⊢
  cases v <;> simp only [reduceCtorEq,Option.some.injEq] at h <;> subst h <;> rfl
 | binI op x y =>
  simp only [stepOp] at h
  simp only [DOp.sh,stepOp,ev_sh]
  generalize x.ev tm=v at h ⊢
  generalize y.ev tm=u at h ⊢
  cases v <;> try simp only [reduceCtorEq] at h
  cases u <;> try simp only [reduceCtorEq] at h
  simp only [PV.sh]
  split at h
  ·rename_i h1
   rw [if_pos h1]
   obtain ⟨w,h2,rfl⟩:=Option.map_eq_some_iff.1 h
   rw [h2]
   simp only [Option.map_some,OpR.sh,binI_sh (H:=H) h2]
  ·cases h
 | binS op x y =>
  simp only [stepOp] at h
  simp only [DOp.sh,stepOp,ev_sh]
  generalize x.ev tm=v at h ⊢
  generalize y.ev tm=u at h ⊢
  cases v <;> try simp only [reduceCtorEq] at h
  cases u <;> try simp only [reduceCtorEq] at h
  simp only [PV.sh]
  obtain ⟨w,h2,rfl⟩:=Option.map_eq_some_iff.1 h
  rw [h2]
  simp only [Option.map_some,OpR.sh,binS_sh (H:=H) h2]
 | binB n x y =>
  simp only [stepOp] at h
  simp only [DOp.sh,stepOp,ev_sh]
  generalize x.ev tm=v at h ⊢
  generalize y.ev tm=u at h ⊢
  cases v <;> try simp only [reduceCtorEq] at h
  cases u <;> try simp only [reduceCtorEq,Option.some.injEq] at h
  subst h;rfl
 | eqAgg n j x y =>
  simp only [stepOp] at h
  simp only [DOp.sh,stepOp,ev_sh]
  generalize x.ev tm=v at h ⊢
  generalize y.ev tm=u at h ⊢
  cases v <;> try simp only [reduceCtorEq] at h
  cases u <;> try simp only [reduceCtorEq] at h
  rename_i a b
  simp only [PV.sh,shL_map]
  cases ha:ints a with
  | none=>rw [ha] at h;simp only [reduceCtorEq] at h
  | some l =>
   cases hb:ints b with
   | none=>rw [ha,hb] at h;simp only [reduceCtorEq] at h
   | some m =>
    rw [ha,hb] at h
    rw [ints_sh a l ha,ints_sh b m hb]
    simp only at h ⊢
    split at h
    ·rename_i h1
     rw [if_pos h1]
     simp only [Option.some.injEq] at h;subst h;rfl
    ·cases h
 | isNilS n x =>
  simp only [stepOp] at h
  simp only [DOp.sh,stepOp,ev_sh]
  generalize x.ev tm=v at h ⊢
  cases v <;> simp only [reduceCtorEq,Option.some.injEq] at h <;> subst h <;> rfl
 | not x =>
  simp only [stepOp] at h
  simp only [DOp.sh,stepOp,ev_sh]
  generalize x.ev tm=v at h ⊢
  cases v <;> try simp only [reduceCtorEq,Option.some.injEq] at h
  subst h;rfl
 | neg x =>
  simp only [stepOp] at h
  simp only [DOp.sh,stepOp,ev_sh]
  generalize x.ev tm=v at h ⊢
  cases v <;> try simp only [reduceCtorEq,Option.some.injEq] at h
  subst h;rfl
 | toInt t x =>
  simp only [stepOp] at h
  simp only [DOp.sh,stepOp,ev_sh]
  generalize x.ev tm=v at h ⊢
  cases v <;> try simp only [reduceCtorEq,Option.some.injEq] at h
  subst h;rfl
 | bytesToStr x =>
  simp only [stepOp] at h
  simp only [DOp.sh,stepOp,ev_sh]
  generalize x.ev tm=v at h ⊢
  cases v <;> try simp only [reduceCtorEq,Option.some.injEq] at h
  case nilslice=>subst h;rfl
  case slice o n cs =>
   simp only [PV.sh,shL_map,List.length_map]
   split at h
   ·rename_i h1
    rw [if_pos h1]
    obtain ⟨l,h2,rfl⟩:=Option.map_eq_some_iff.1 h
    rw [bytes_sh cs l h2];rfl
   ·cases h
  case hslice l z n =>
   simp only [PV.sh,at_sh]
   cases hx:st.heap[l]? with
   | none=>rw [hx] at h;simp only [reduceCtorEq] at h
   | some ob =>
    rw [hx] at h
    cases ob <;> try simp only [reduceCtorEq] at h
    rename_i cs
    simp only [Option.map_some,HObj.sh,List.length_map]
    split at h
    ·rename_i h1
     rw [if_pos h1]
     obtain ⟨l,h2,rfl⟩:=Option.map_eq_some_iff.1 h
     rw [bytes_sh cs l h2];rfl
    ·cases h
 | strToBytes x =>
  simp only [stepOp] at h
  simp only [DOp.sh,stepOp,ev_sh]
  generalize x.ev tm=v at h ⊢
  cases v <;> try simp only [reduceCtorEq] at h
  simp only [PV.sh]
  split at h
  ·rename_i h1
   rw [if_pos h1]
   simp only [Option.some.injEq] at h;subst h
   simp only [OpR.sh,PV.sh,len_sh,Option.some.injEq,OpR.val.injEq,true_and]
   rw [← push_sh]
   simp only [HObj.sh,List.map_map]
   rfl
  ·cases h
 | rangeStr x =>
  simp only [stepOp] at h
  simp only [DOp.sh,stepOp,ev_sh]
  generalize x.ev tm=v at h ⊢
  cases v <;> try simp only [reduceCtorEq,Option.some.injEq] at h
  subst h
  simp only [OpR.sh,PV.sh,len_sh,Option.some.injEq,OpR.val.injEq,true_and]
  exact push_sh st (.iter _ 0)
 | nextStr x =>
  simp only [stepOp] at h
  simp only [DOp.sh,stepOp,ev_sh]
  generalize x.ev tm=v at h ⊢
  cases v <;> try simp only [reduceCtorEq] at h
  rename_i l off
  cases off <;> try simp only [reduceCtorEq] at h
  simp only [PV.sh,at_sh]
  cases hx:st.heap[l]? with
  | none=>rw [hx] at h;simp only [reduceCtorEq] at h
  | some ob =>
   rw [hx] at h
   cases ob <;> try simp only [reduceCtorEq] at h
   simp only [Option.map_some,HObj.sh]
   split at h
   ·rename_i h1
    rw [if_pos h1]
    simp only [Option.some.injEq] at h;subst h
    simp only [OpR.sh,PV.sh,shL,Option.some.injEq,OpR.val.injEq,true_and]
    exact setVar_sh st l (.iter _ _)
   ·rename_i h1
    rw [if_neg h1]
    simp only [Option.some.injEq] at h;subst h
    simp only [OpR.sh,PV.sh,shL]
 | assertT t z x =>
  simp only [stepOp] at h
  simp only [DOp.sh,stepOp,ev_sh]
  generalize x.ev tm=v at h ⊢
  cases v <;> try simp only [reduceCtorEq,Option.some.injEq] at h
  subst h
  simp only [PV.sh]
  split <;> simp only [OpR.sh,PV.sh,shL]
 | mkIface t x =>
  simp only [stepOp,Option.some.injEq] at h;subst h
  simp only [DOp.sh,stepOp,ev_sh,OpR.sh,PV.sh]
 | mkFunc f a c =>
  simp only [stepOp,Option.some.injEq] at h;subst h
  simp only [DOp.sh,stepOp,evs_sh,OpR.sh,PV.sh,shL_map]
 | mkMap =>
  simp only [stepOp,Option.some.injEq] at h;subst h
  simp only [DOp.sh,stepOp,OpR.sh,PV.sh,len_sh,Option.some.injEq,OpR.val.injEq,true_and]
  exact push_sh st (.map [])
 | slice sz x lo hi =>
  simp only [stepOp] at h
  simp only [DOp.sh,stepOp,ev_sh]
  generalize x.ev tm=v at h ⊢
  cases v <;> try simp only [reduceCtorEq] at h
  case nilslice =>
   simp only [PV.sh]
   split at h
   ·rename_i h1 h2
    rw [bound_sh h1,bound_sh h2]
    simp only [Option.some.injEq] at h;subst h;rfl
   ·cases h
  case slice o n cs =>
   simp only [PV.sh,shL_map,List.length_map]
   split at h
   ·rename_i h1 h2
    rw [bound_sh h1,bound_sh h2]
    simp only
    split at h
    ·rename_i h3
     rw [if_pos h3]
     simp only [Option.some.injEq] at h;subst h
     simp only [OpR.sh,PV.sh,shL_map,List.map_take,List.map_drop,cut_sh]
    ·cases h
   ·cases h
 | sliceStr x lo hi =>
  simp only [stepOp] at h
  simp only [DOp.sh,stepOp,ev_sh]
  generalize x.ev tm=v at h ⊢
  cases v <;> try simp only [reduceCtorEq] at h
  simp only [PV.sh]
  split at h
  ·rename_i h1 h2
   rw [bound_sh h1,bound_sh h2]
   simp only
   split at h
   ·rename_i h3
    rw [if_pos h3]
    simp only [Option.some.injEq] at h;subst h;rfl
   ·cases h
  ·cases h
 | fieldAddr off x =>
  simp only [stepOp] at h
  simp only [DOp.sh,stepOp,ev_sh]
  generalize x.ev tm=v at h ⊢
  cases v <;> try simp only [reduceCtorEq,Option.some.injEq] at h
  case ptr=>subst h;rfl
  case aptr=>subst h;rfl
  case cptr cs =>
   simp only [PV.sh,shL_map,List.length_map]
   split at h
   ·rename_i h1
    rw [if_pos h1]
    simp only [Option.some.injEq] at h;subst h
    simp only [OpR.sh,PV.sh,shL_map,List.map_drop]
   ·cases h
 | part g sz off x =>
  simp only [stepOp] at h
  simp only [DOp.sh,stepOp,ev_sh]
  generalize x.ev tm=v at h ⊢
  cases v <;> try simp only [reduceCtorEq] at h
  simp only [PV.sh,shL_map,List.length_map]
  split at h
  ·rename_i h1
   rw [if_pos h1]
   obtain ⟨w,h2,rfl⟩:=Option.map_eq_some_iff.1 h
   rw [← List.map_drop,rdPart_sh,h2];rfl
  ·cases h
 | indexAddr sz x i =>
  simp only [stepOp] at h
  simp only [DOp.sh,stepOp,ev_sh]
  generalize x.ev tm=v at h ⊢
  generalize i.ev tm=u at h ⊢
  cases v <;> try simp only [reduceCtorEq] at h
  case slice o n cs =>
   cases u <;> try simp only [reduceCtorEq] at h
   simp only [PV.sh,shL_map]
   split at h
   ·rename_i h1
    rw [if_pos h1]
    simp only [Option.some.injEq] at h;subst h
    simp only [OpR.sh,PV.sh,shL_map,List.map_take,List.map_drop]
   ·cases h
  case hslice l z n =>
   cases u <;> try simp only [reduceCtorEq] at h
   simp only [PV.sh]
   split at h
   ·rename_i h1
    rw [if_pos h1]
    simp only [Option.some.injEq] at h;subst h;rfl
   ·cases h
  case vslice l z n =>
   cases u <;> try simp only [reduceCtorEq] at h
   simp only [PV.sh]
   split at h
   ·rename_i h1
    rw [if_pos h1]
    simp only [Option.some.injEq] at h;subst h;rfl
   ·cases h
 | indexVar n sz x i =>
  simp only [stepOp] at h
  simp only [DOp.sh,stepOp,ev_sh]
  generalize x.ev tm=v at h ⊢
  generalize i.ev tm=u at h ⊢
  cases v <;> try simp only [reduceCtorEq] at h
  cases u <;> try simp only [reduceCtorEq] at h
  simp only [PV.sh]
  split at h
  ·rename_i h1
   rw [if_pos h1]
   simp only [Option.some.injEq] at h;subst h;rfl
  ·cases h
 | indexArr g n sz x i =>
  simp only [stepOp] at h
  simp only [DOp.sh,stepOp,ev_sh]
  generalize x.ev tm=v at h ⊢
  generalize i.ev tm=u at h ⊢
  cases v <;> try simp only [reduceCtorEq] at h
  cases u <;> try simp only [reduceCtorEq] at h
  simp only [PV.sh,shL_map,List.length_map]
  split at h
  ·rename_i h1
   rw [if_pos h1]
   obtain ⟨w,h2,rfl⟩:=Option.map_eq_some_iff.1 h
   rw [← List.map_drop,rdPart_sh,h2];rfl
  ·cases h
 | indexStr x i =>
  simp only [stepOp] at h
  simp only [DOp.sh,stepOp,ev_sh]
  generalize x.ev tm=v at h ⊢
  generalize i.ev tm=u at h ⊢
  cases v <;> try simp only [reduceCtorEq] at h
  cases u <;> try simp only [reduceCtorEq] at h
  simp only [PV.sh]
  split at h
  ·rename_i h1
   rw [if_pos h1]
   obtain ⟨w,h2,rfl⟩:=Option.map_eq_some_iff.1 h
   rw [h2];rfl
  ·cases h
 | lookup nf z m q ok =>
  simp only [stepOp] at h
  simp only [DOp.sh,stepOp,ev_sh]
  generalize m.ev tm=v at h ⊢
  generalize q.ev tm=u at h ⊢
  cases v <;> try simp only [reduceCtorEq] at h
  cases u <;> try simp only [reduceCtorEq] at h
  rename_i l kc
  simp only [PV.sh,at_sh,shL_map]
  cases hx:st.heap[l]? with
  | none=>rw [hx] at h;simp only [reduceCtorEq] at h
  | some ob =>
   rw [hx] at h
   cases ob <;> try simp only [reduceCtorEq] at h
   rename_i es
   simp only [Option.map_some,HObj.sh]
   cases hi:ints kc with
   | none=>rw [hi] at h;simp only [reduceCtorEq] at h
   | some ki =>
    rw [hi] at h
    rw [ints_sh kc ki hi]
    simp only at h ⊢
    split at h
    ·rename_i h1
     rw [if_pos h1]
     split at h
     ·rename_i i hf
      rw [findKey_sh ki es 0 _ hf]
      obtain ⟨e,h2,rfl⟩:=Option.map_eq_some_iff.1 h
      simp only [List.getElem?_map,h2,Option.map_some]
      cases ok <;> simp only [if_true,Bool.false_eq_true,if_false,OpR.sh,PV.sh,shL]
     ·rename_i hf
      rw [findKey_sh ki es 0 _ hf]
      simp only [Option.some.injEq] at h;subst h
      cases ok <;> simp only [if_true,Bool.false_eq_true,if_false,OpR.sh,PV.sh,shL]
     ·cases h
    ·cases h
 | mapUpdate nf m q x =>
  simp only [stepOp] at h
  simp only [DOp.sh,stepOp,ev_sh]
  generalize m.ev tm=v at h ⊢
  generalize q.ev tm=u at h ⊢
  cases v <;> try simp only [reduceCtorEq] at h
  cases u <;> try simp only [reduceCtorEq] at h
  rename_i l kc
  simp only [PV.sh,at_sh,shL_map]
  cases hx:st.heap[l]? with
  | none=>rw [hx] at h;simp only [reduceCtorEq] at h
  | some ob =>
   rw [hx] at h
   cases ob <;> try simp only [reduceCtorEq] at h
   rename_i es
   simp only [Option.map_some,HObj.sh]
   cases hi:ints kc with
   | none=>rw [hi] at h;simp only [reduceCtorEq] at h
   | some ki =>
    rw [hi] at h
    rw [ints_sh kc ki hi]
    simp only at h ⊢
    split at h
    ·rename_i h1
     rw [if_pos h1]
     split at h
     ·rename_i hf
      rw [findKey_sh ki es 0 _ hf]
      simp only [Option.some.injEq] at h;subst h
      simp only [OpR.sh,undef_sh,Option.some.injEq,OpR.val.injEq,true_and]
      rw [← setVar_sh]
      simp only [HObj.sh,List.map_append,List.map_cons,List.map_nil,PV.sh,shL_map]
     ·cases h
    ·cases h
 | extract x i =>
  simp only [stepOp] at h
  simp only [DOp.sh,stepOp,ev_sh]
  generalize x.ev tm=v at h ⊢
  cases v <;> try simp only [reduceCtorEq] at h
  simp only [PV.sh,shL_map,List.getElem?_map]
  obtain ⟨w,h2,rfl⟩:=Option.map_eq_some_iff.1 h
  rw [h2];rfl
 | len x =>
  simp only [stepOp] at h
  simp only [DOp.sh,stepOp,ev_sh]
  generalize x.ev tm=v at h ⊢
  cases v <;> simp only [reduceCtorEq,Option.some.injEq] at h <;> subst h <;> rfl
 | lenStr x =>
  simp only [stepOp] at h
  simp only [DOp.sh,stepOp,ev_sh]
  generalize x.ev tm=v at h ⊢
  cases v <;> try simp only [reduceCtorEq,Option.some.injEq] at h
  subst h;rfl
 | append mu sz x y =>
  simp only [stepOp] at h
  simp only [DOp.sh,stepOp,ev_sh]
  generalize y.ev tm=v at h ⊢
  cases v <;> try simp only [reduceCtorEq] at h
  case nilslice=>simpa only [PV.sh,List.map_nil] using doAppend_sh h
  case slice o n cs=>simpa only [PV.sh,shL_map] using doAppend_sh h
 | minmax mx x ys =>
  simp only [stepOp] at h
  simp only [DOp.sh,stepOp,ev_sh,evs_sh]
  obtain ⟨w,h2,rfl⟩:=Option.map_eq_some_iff.1 h
  rw [mm_sh mx _ _ _ h2];rfl
 | call f args=>cases hcall
 | invoke x m args=>cases hcall
 | panic x =>
  simp only [stepOp] at h
  simp only [DOp.sh,stepOp,ev_sh]
  generalize x.ev tm=v at h ⊢
  cases v <;> try simp only [reduceCtorEq,Option.some.injEq] at h
  subst h;rfl
 | buildSliceA sz n z p =>
  simp only [stepOp] at h
  split at h
  ·rename_i cs hf
   simp only [Option.some.injEq] at h;subst h
   simp only [DOp.sh,stepOp,fillD_sh tm p z cs hf,OpR.sh,PV.sh,len_sh,Option.some.injEq,OpR.val.injEq,true_and]
   exact push_sh st (.arr cs)
  ·cases h
 | sliceA n sz x hi =>
  simp only [stepOp] at h
  simp only [DOp.sh,stepOp,ev_sh]
  generalize x.ev tm=v at h ⊢
  generalize hi.ev tm=u at h ⊢
  cases v <;> try simp only [reduceCtorEq] at h
  rename_i l off
  cases off <;> try simp only [reduceCtorEq] at h
  cases u <;> try simp only [reduceCtorEq] at h
  simp only [PV.sh]
  split at h
  ·rename_i h1
   rw [if_pos h1]
   simp only [Option.some.injEq] at h;subst h
   rfl
  ·cases h
 | lookupI z m q ok =>
  simp only [stepOp] at h
  simp only [DOp.sh,stepOp,ev_sh]
  generalize m.ev tm=v at h ⊢
  generalize q.ev tm=u at h ⊢
  cases v <;> try simp only [reduceCtorEq] at h
  cases u <;> try simp only [reduceCtorEq] at h
  rename_i l t n
  cases t <;> try simp only [reduceCtorEq] at h
  simp only [PV.sh,at_sh]
  cases hx:st.heap[l]? with
  | none=>rw [hx] at h;simp only [reduceCtorEq] at h
  | some ob =>
   rw [hx] at h
   cases ob <;> try simp only [reduceCtorEq] at h
   rename_i es
   simp only [Option.map_some,HObj.sh]
   split at h
   ·rename_i i hf
    rw [findKeyI_sh n es 0 _ hf]
    obtain ⟨e,h2,rfl⟩:=Option.map_eq_some_iff.1 h
    simp only [List.getElem?_map,h2,Option.map_some]
    cases ok <;> simp only [if_true,Bool.false_eq_true,if_false,OpR.sh,PV.sh,shL]
   ·rename_i hf
    rw [findKeyI_sh n es 0 _ hf]
    simp only [Option.some.injEq] at h;subst h
    cases ok <;> simp only [if_true,Bool.false_eq_true,if_false,OpR.sh,PV.sh,shL]
   ·cases h
 | updateI m q x =>
  simp only [stepOp] at h
  simp only [DOp.sh,stepOp,ev_sh]
  generalize m.ev tm=v at h ⊢
  generalize q.ev tm=u at h ⊢
  cases v <;> try simp only [reduceCtorEq] at h
  cases u <;> try simp only [reduceCtorEq] at h
  rename_i l t n
  cases t <;> try simp only [reduceCtorEq] at h
  simp only [PV.sh,at_sh]
  cases hx:st.heap[l]? with
  | none=>rw [hx] at h;simp only [reduceCtorEq] at h
  | some ob =>
   rw [hx] at h
   cases ob <;> try simp only [reduceCtorEq] at h
   rename_i es
   simp only [Option.map_some,HObj.sh]
   split at h
   ·rename_i hf
    rw [findKeyI_sh n es 0 _ hf]
    simp only [Option.some.injEq] at h;subst h
    simp only [OpR.sh,undef_sh,Option.some.injEq,OpR.val.injEq,true_and]
    rw [← setVar_sh]
    simp only [HObj.sh,List.map_append,List.map_cons,List.map_nil,PV.sh]
   ·cases h
theorem stepOp_sh {E0 E:Env} {r0:Rec} {R:Nat→Rec} (hr:RecSh H r0 R) (hm:∀ t m f,E0.meth t m=some f→E.meth t m=some f) {tm:List PV} {st:St} {o:DOp} {r:OpR} (h:stepOp E0 r0 tm st o=some r):∃ M,∀ m,M≤m→stepOp E (R m) (tm.map (PV.sh H.length)) (st.sh H) (o.sh H.length)=some (r.sh H):=by
 cases hcall:isCallD o with
 | false=>exact ⟨0,fun m _=>stepOp_sh0 hcall h⟩
 | true =>
  cases o with
  | call f args =>
   simp only [stepOp] at h
   simp only [DOp.sh,stepOp,ev_sh,evs_sh]
   split at h
   ·rename_i v st' hc
    simp only [Option.some.injEq] at h;subst h
    obtain ⟨M,hM⟩:=hr.call hc
    exact ⟨M,fun m hm=>by rw [hM m hm];rfl⟩
   ·rename_i v st' hc
    simp only [Option.some.injEq] at h;subst h
    obtain ⟨M,hM⟩:=hr.call hc
    exact ⟨M,fun m hm=>by rw [hM m hm];rfl⟩
   ·cases h
  | invoke x mt args =>
   simp only [stepOp] at h
   simp only [DOp.sh,stepOp,ev_sh,evs_sh]
   generalize x.ev tm=v at h ⊢
   cases v <;> try simp only [reduceCtorEq] at h
   rename_i t v
   simp only [PV.sh]
   cases hmm:E0.meth t mt with
   | none=>rw [hmm] at h;simp only [reduceCtorEq] at h
   | some f =>
    rw [hmm] at h
    rw [hm t mt f hmm]
    simp only at h ⊢
    split at h
    ·rename_i v st' hc
     simp only [Option.some.injEq] at h;subst h
     obtain ⟨M,hM⟩:=hr.call hc
     refine ⟨M,fun m hm=>?_⟩
     have:=hM m hm
     simp only [PV.sh,shL,List.map_cons] at this
     rw [this];rfl
    ·rename_i v st' hc
     simp only [Option.some.injEq] at h;subst h
     obtain ⟨M,hM⟩:=hr.call hc
     refine ⟨M,fun m hm=>?_⟩
     have:=hM m hm
     simp only [PV.sh,shL,List.map_cons] at this
     rw [this];rfl
    ·cases h
  | _=>cases hcall
end
end Go.Den
end

/- Part of the proofs of laws of the package version. Texts: DenOpsH, DenCall, DenCode. -/
import Derived.Laws.IdiomStrings
import Derived.Test.YtehdcjbdhkkipaaGreatDoorVKAe
import Derived.RangeFuncNested
set_option linter.unusedSimpArgs false
set_option linter.unusedVariables false
section
namespace Go.Den
section
variable{P:Program}{B0:Nat}{w0:World}{G:Gh}{st:St}{w:World}{tm:List PV}{a:Act}{o:Oper}{E:Env}{rec:Rec}{v:PV}{st':St}
theorem bytesOf_ok:∀ {cs:List PV} {l:List UInt8} {vs:List Value},bytesOf cs=some l→VRL G w cs vs→∃ ns:List Int,vs=ns.map (Value.int .u8)∧l=ns.map (fun n=>UInt8.ofNat n.toNat)
 | [],l,vs,h,hv=>by simp only[bytesOf] at h;cases h;exact⟨[],VRL.nil_iff.1 hv,rfl⟩
 | p::ps,l,vs,h,hv=>by
  obtain⟨u,vs',rfl,h1,h2⟩:=VRL.cons_iff.1 hv
  unfold bytesOf at h
  split at h
  ·rename_i h0;cases h0
  ·rename_i n r h0
   cases h0
   obtain⟨l',h3,h4⟩:=Option.map_eq_some_iff.1 h
   subst h4
   obtain⟨ns,h5,h6⟩:=bytesOf_ok h3 h2
   exact⟨n::ns,by rw[h1.int_inv,h5];rfl,by rw[h6];rfl⟩
  ·cases h
theorem bytesToString_run{b off n cap:Nat}{ns:List Int}(hn:ns.length=n)(h:∀ j v,(ns.map (Value.int .u8))[j]? = some v→w.cell? ((⟨b,off,none⟩:Addr).add j)=some v) :
  (Conv.bytesToString (.slice (some ⟨b,off,none⟩) n cap)).run P w = .ok (.string ⟨(ns.map (fun n=>UInt8.ofNat n.toNat)).toArray⟩) w:=by
 unfold Conv.bytesToString
 have hl:=run_loadCells_list (P:=P) w ⟨b,off,none⟩ (ns.map (Value.int .u8)) h
 rw[List.length_map,hn] at hl
 simp only[Sem.run_bind,hl,Result.andThen_ok]
 rw[← Array.forIn_toList]
 have key:∀ (ns:List Int) (acc:ByteArray),List.foldl (fun (b:ByteArray) (a:Int)=>b.push (UInt8.ofNat a.toNat)) acc ns=⟨acc.data++(ns.map (fun n=>UInt8.ofNat n.toNat)).toArray⟩:=by
  intro ns
  induction ns with
  | nil=>intro acc;simp
  | cons n ns ih =>
   intro acc
   simp only[List.foldl_cons,ih]
   cases acc
   simp[ByteArray.push]
 have:=key ns ⟨#[]⟩
 simp only[Array.empty_append] at this
 simp[ByteArray.empty,ByteArray.emptyWithCapacity]
 exact this
theorem ok_bytesToStr(hw:WR P B0 w0 G st.heap w)(ht:VRL G w tm a.tmps.toList){s t e:TypeId}{x:Operand}{d:Opd}(ho:o.op = .convert s t x)(hsrc:P.underlying s=some (.slice e))(he:P.underlying e=some (.int .u8))(hdst:P.underlying t=some .string)(hd:opd x=some d)
  (hs:stepOp E rec tm st (.bytesToStr d)=some (.val v st')):Yields P B0 w0 G st w v st' (OpRun P a o w):=by
 have hx:=opd_ok ht hd
 have conv:∀ {b:Option Addr} {n c:Nat} {u:Value},a.eval x = .slice b n c→(Conv.bytesToString (.slice b n c)).run P w = .ok u w→OpRun P a o w = .ok (.value u) w:=by
  intro b n c u h1 h2
  refine OpRun.val (by unfold execOp;rw[ho]) ?_
  cases b <;> simp[convert,run_underlying hsrc,run_underlying hdst,run_underlying he,h1,h2]
 simp only[stepOp] at hs
 split at hs
 ·rename_i hev
  cases hs
  rw[hev] at hx
  simp only[VR] at hx
  exact .pure hw (conv hx (by simp[Conv.bytesToString])) VR.str_mk
 ·rename_i oo n cs hev
  split at hs
  ·rename_i hlen
   obtain⟨l,h1,h2⟩:=Option.map_eq_some_iff.1 hs
   cases h2
   rw[hev] at hx
   simp only[VR] at hx
   rcases hx with ⟨b,off,cap,h3,_,_,_,h4⟩|⟨_,rfl,rfl,x0,h3⟩
   rotate_left
   ·simp only[bytesOf,Option.some.injEq] at h1
    subst h1
    exact .pure hw (conv h3 (by simp[Conv.bytesToString,loadCells,loadCellsFrom];rfl)) VR.str_mk
   obtain⟨vs,h5,h6⟩:=h4.vals
   obtain⟨ns,h7,h8⟩:=bytesOf_ok h1 h5
   subst h7;subst h8
   have hnl:ns.length=n:=by have:=h5.length;simp at this;omega
   exact .pure hw (conv h3 (bytesToString_run hnl h6)) VR.str_mk
  ·cases hs
 ·rename_i l0 sz n hev
  split at hs
  ·rename_i cs hh
   split at hs
   ·rename_i hlen
    obtain⟨l,h1,h2⟩:=Option.map_eq_some_iff.1 hs
    cases h2
    rw[hev] at hx
    simp only[VR] at hx
    obtain⟨b,e',cap,h3,h4,_⟩:=hx
    obtain⟨_,_,_,h6⟩:=hw.arr h3 hh
    obtain⟨vs,h5,h7⟩:=h6.vals
    obtain⟨ns,h8,h9⟩:=bytesOf_ok h1 h5
    subst h8;subst h9
    have hnl:ns.length=n:=by have:=h5.length;simp at this;omega
    exact .pure hw (conv h4 (bytesToString_run hnl h7)) VR.str_mk
   ·cases hs
  ·cases hs
 ·cases hs
theorem ok_strToBytes(hw:WR P B0 w0 G st.heap w)(ht:VRL G w tm a.tmps.toList){s t e:TypeId}{x:Operand}{d:Opd}(ho:o.op = .convert s t x)(hsrc:P.underlying s=some .string)(he:P.underlying e=some (.int .u8))(hdst:P.underlying t=some (.slice e))(hd:opd x=some d)
  (hs:stepOp E rec tm st (.strToBytes d)=some (.val v st')):Yields P B0 w0 G st w v st' (OpRun P a o w):=by
 have hx:=opd_ok ht hd
 simp only[stepOp] at hs
 split at hs
 ·rename_i b hev
  split at hs
  ·cases hs
   rw[hev] at hx
   simp only[VR] at hx
   have hrun:OpRun P a o w=_:=OpRun.val (by unfold execOp;rw[ho]) (by rw[hx];exact run_bytes_of_string w s t e b hsrc hdst he)
   have hge:=grownCap_ge w b.size 0 e
   have hw1:WR P B0 w0 G st.heap w.drew:=hw.same rfl
   have hext:Ext G st.heap w G st.heap w.drew st.lo := .same rfl
   have hcs:(b.data.toList.map fun y=>PV.int .u8 (y.toNat:Int)).length=b.size:=by rw[List.length_map,Array.length_toList];rfl
   have hsz:(bytesRow b (grownCap w b.size 0 e)).size=grownCap w b.size 0 e:=by
    simp only[bytesRow,Array.size_append,Array.size_map,Array.size_replicate]
    have:b.data.size=b.size:=rfl
    omega
   have hvl:∀ (G':Gh) (w':World) (l:List UInt8),VRL G' w' (l.map fun y=>PV.int .u8 (y.toNat:Int)) (l.map fun y=>Value.int .u8 (y.toNat:Int)):=fun G' w' l=>by
    induction l with
    | nil=>exact VRL.nil_iff.2 rfl
    | cons y l ih=>exact VRL.cons (by simp only[VR]) ih
   obtain⟨g1,g2,g3⟩:=alloc_row hw1 true (b.data.toList.map fun y=>PV.int .u8 (y.toNat:Int)) (bytesRow b (grownCap w b.size 0 e)) e ((bytesRow b (grownCap w b.size 0 e)).size,(bytesRow b (grownCap w b.size 0 e)).size+1) (by rw[hcs,hsz];exact hge)
    (fun o ho=>by
     show (decide ((bytesRow b (grownCap w b.size 0 e)).size≤o)&&decide (o<(bytesRow b (grownCap w b.size 0 e)).size+1))=false
     rw[decide_eq_false (Nat.not_le.2 ho),Bool.false_and])
    (fun G' w' hp hh=>VRC.of_row hh (hvl G' w' b.data.toList) (fun j u hj=>by
     have hlt:=(List.getElem?_eq_some_iff.1 hj).1
     rw[List.length_map,Array.length_toList] at hlt
     rw[Nat.zero_add,bytesRow,Array.getElem?_append_left (by rw[Array.size_map];exact hlt),← Array.getElem?_toList,Array.toList_map]
     exact hj))
   refine⟨_,_,g1,hext.trans (g2 st.lo),Nat.le_refl _,.inl ⟨_,hrun,?_⟩⟩
   simp only[VR]
   refine⟨_,_,_,upd_same _ _ _,rfl,hge,⟨_,_,_,heap_alloc_new w.drew _,by rw[hsz];exact Nat.le_of_eq (Nat.mul_one _)⟩⟩
  ·cases hs
 ·cases hs
def DOp.isCall:DOp→Bool
 | .call _ _=>true
 | .invoke _ _ _=>true
 | _=>false
theorem opds_one{xs:List Operand}{x:Opd}(h:opds xs=some [x]):∃ y,xs=[y]∧opd y=some x:=by
 cases xs with
 | nil=>simp[opds] at h
 | cons y ys =>
  simp only[opds] at h
  split at h
  ·rename_i p ps h1 h2
   cases h
   cases ys with
   | nil=>exact⟨y,rfl,h1⟩
   | cons z zs =>
    simp only[opds] at h2
    split at h2 <;> cases h2
  ·cases h
theorem opds_two{xs:List Operand}{x z:Opd}(h:opds xs=some [x,z]):∃ y u,xs=[y,u]∧opd y=some x∧opd u=some z:=by
 cases xs with
 | nil=>simp[opds] at h
 | cons y ys =>
  simp only[opds] at h
  split at h
  ·rename_i p ps h1 h2
   cases h
   obtain⟨u,h3,h4⟩:=opds_one h2
   subst h3
   exact⟨y,u,rfl,h1,h4⟩
  ·cases h
theorem arr_of_list{α:Type}{a:Array α}{l:List α}(h:a.toList=l):a=l.toArray:=by subst h;simp
theorem op_ok{mu:TypeId→Bool}{d:DOp}(hc:opC P mu o=some d)(hw:WR P B0 w0 G st.heap w)(ht:VRL G w tm a.tmps.toList)(hn:d.isCall=false)(hs:stepOp E rec tm st d=some (.val v st')):Yields P B0 w0 G st w v st' (OpRun P a o w):=by
 unfold opC at hc
 split at hc
 ·rename_i x ho;obtain⟨d',h1,h2⟩:=Option.map_eq_some_iff.1 hc;subst h2;exact ok_move hw ht (.inl ho) h1 hs
 ·rename_i x ho;obtain⟨d',h1,h2⟩:=Option.map_eq_some_iff.1 hc;subst h2;exact ok_move hw ht (.inr ho) h1 hs
 ·rename_i c x y ho
  split at hc
  ·rename_i h1 h2 h3;cases hc;exact ok_pick hw ht ho h1 h2 h3 hs
  ·cases hc
 ·rename_i t x ho;obtain⟨d',h1,h2⟩:=Option.map_eq_some_iff.1 hc;subst h2;exact ok_box hw ht ho h1 hs
 ·rename_i t ho;obtain⟨d',h1,h2⟩:=Option.map_eq_some_iff.1 hc;subst h2;exact ok_alloc hw ho h1 hs
 ·rename_i t parts ho
  split at hc
  ·rename_i fields hu
   split at hc
   ·rename_i z ps h1 h2
    split at hc
    ·rename_i h3;cases hc;exact ok_build hw ht ho h1 h2 (.inl ⟨_,hu,h3⟩) hs
    ·cases hc
   ·cases hc
  ·rename_i n e hu
   split at hc
   ·rename_i z ps h1 h2
    split at hc
    ·rename_i h3;cases hc
     obtain⟨s,h4⟩:=Option.isSome_iff_exists.1 h3
     exact ok_build hw ht ho h1 h2 (.inr ⟨_,_,_,hu,h4⟩) hs
    ·cases hc
   ·cases hc
  ·cases hc
 ·rename_i t n parts ho
  split at hc
  ·rename_i e hu
   split at hc
   ·rename_i s z ps h1 h2 h3
    split at hc
    ·rename_i h4;cases hc
     simp only[Bool.and_eq_true,decide_eq_true_eq,beq_iff_eq] at h4
     exact ok_buildSlice hw ht ho hu h1 h2 h3 h4.1.1 h4.1.2 h4.2 hs
    ·cases hc
   ·cases hc
  ·cases hc
 ·rename_i t x ho
  split at hc
  ·rename_i h0
   split at hc
   ·rename_i s d' h1 h2;cases hc;exact ok_load hw ht ho h0 h1 h2 hs
   ·cases hc
  ·cases hc
 ·rename_i t x y ho
  split at hc
  ·rename_i s d' e' h1 h2 h3;cases hc;exact ok_store hw ht ho h1 h2 h3 hs
  ·cases hc
 ·rename_i x ho;obtain⟨d',h1,h2⟩:=Option.map_eq_some_iff.1 hc;subst h2;exact ok_nilCheck hw ht ho h1 hs
 ·rename_i op t x y u ho
  unfold binC at hc
  split at hc
  ·rename_i d1 d2 h1 h2
   split at hc
   ·cases hc;exact ok_binI hw ht ho h1 h2 hs
   ·cases hc;exact ok_binS hw ht ho h1 h2 hs
   ·rename_i hu
    split at hc
    ·cases hc;exact ok_binB (neg:=false) hw ht ho hu rfl h1 h2 hs
    ·cases hc;exact ok_binB (neg:=true) hw ht ho hu rfl h1 h2 hs
    ·cases hc
   ·rename_i fields hu
    split at hc
    ·rename_i h3
     simp only[Bool.and_eq_true,Bool.not_eq_true'] at h3
     split at hc
     ·cases hc;exact ok_eqAgg (neg:=false) hw ht ho hu h3.1.1.1 h3.1.1.2 h3.1.2 h3.2 rfl h1 h2 hs
     ·cases hc;exact ok_eqAgg (neg:=true) hw ht ho hu h3.1.1.1 h3.1.1.2 h3.1.2 h3.2 rfl h1 h2 hs
     ·cases hc
    ·cases hc
   ·rename_i e hu
    split at hc
    ·cases hc;exact ok_isNilS (neg:=false) hw ht ho hu rfl h1 h2 hs
    ·cases hc;exact ok_isNilS (neg:=true) hw ht ho hu rfl h1 h2 hs
    ·cases hc
   ·cases hc
  ·cases hc
 ·rename_i op t x ho
  split at hc
  ·rename_i d' h1;cases hc;exact ok_not hw ht ho h1 hs
  ·rename_i d' h1;cases hc;exact ok_neg hw ht ho h1 hs
  ·cases hc
 ·rename_i s t x ho
  split at hc
  ·rename_i k0 k d' h1 h2 h3;cases hc;exact ok_toInt hw ht ho h1 h2 h3 hs
  ·rename_i e d' h1 h2 h3
   split at hc
   ·rename_i h4;cases hc;exact ok_bytesToStr hw ht ho h1 h4 h2 h3 hs
   ·cases hc
  ·rename_i e d' h1 h2 h3
   split at hc
   ·rename_i h4;cases hc;exact ok_strToBytes hw ht ho h1 h4 h2 h3 hs
   ·cases hc
  ·cases hc
 ·rename_i t x ho
  split at hc
  ·cases hc
  ·rename_i td d' h1 h2 h3;cases hc;exact ok_mkIface hw ht ho h2 (fun ms e=>h1 ms e) h3 hs
  ·cases hc
 ·rename_i f fi ca ho
  split at hc
  ·rename_i d1 d2 h1 h2;cases hc;exact ok_mkFunc hw ht ho h1 h2 hs
  ·cases hc
 ·rename_i t r ho
  split at hc
  ·rename_i h1;cases hc;exact ok_mkMap hw ho h1 (.inl rfl) hs
  ·rename_i h1;cases hc;exact ok_mkMap hw ho h1 (.inr ⟨_,_,rfl⟩) hs
  ·cases hc
 ·rename_i t x lo hi ho
  split at hc
  ·rename_i e hu
   split at hc
   ·rename_i s d' dl dh h1 h2 h3 h4
    split at hc
    ·rename_i h5;cases hc;exact ok_slice hw ht ho hu h1 h5 h2 h3 h4 hs
    ·cases hc
   ·cases hc
  ·rename_i hu
   split at hc
   ·rename_i d' dl dh h2 h3 h4;cases hc;exact ok_sliceStr hw ht ho hu h2 h3 h4 hs
   ·cases hc
  ·cases hc
 ·rename_i t x f ho
  split at hc
  ·rename_i fields d' hu h1
   split at hc
   ·rename_i fd hf
    split at hc
    ·rename_i s h2
     split at hc
     ·rename_i h3;cases hc;exact ok_fieldAddr hw ht ho hu hf h2 h3 h1 hs
     ·cases hc
    ·cases hc
   ·cases hc
  ·cases hc
 ·rename_i t x f ho
  split at hc
  ·rename_i fields d' hu h1
   split at hc
   ·rename_i fd hf
    split at hc
    ·rename_i h2
     split at hc
     ·rename_i s h3;cases hc;exact ok_part hw ht ho hu hf h2 h3 h1 hs
     ·cases hc
    ·cases hc
   ·cases hc
  ·cases hc
 ·rename_i t x i ho
  split at hc
  ·rename_i e d1 d2 hu h1 h2
   obtain⟨s,h3,h4⟩:=Option.map_eq_some_iff.1 hc
   subst h4;exact ok_indexAddr hw ht ho hu h3 h1 h2 hs
  ·rename_i n e d1 d2 hu h1 h2
   split at hc
   ·obtain⟨s,h3,h4⟩:=Option.map_eq_some_iff.1 hc
    subst h4;exact ok_indexVar hw ht ho hu h3 h1 h2 hs
   ·cases hc
  ·cases hc
 ·rename_i t x i ho
  split at hc
  ·rename_i d1 d2 hu h1 h2;cases hc;exact ok_indexStr hw ht ho hu h1 h2 hs
  ·rename_i n e d1 d2 hu h1 h2
   split at hc
   ·rename_i h0
    obtain⟨s,h3,h4⟩:=Option.map_eq_some_iff.1 hc
    subst h4;exact ok_indexArr hw ht ho hu h0 h3 h1 h2 hs
   ·cases hc
  ·cases hc
 ·rename_i t m k ok ho
  split at hc
  ·rename_i kt e d1 d2 hut h1 h2
   split at hc
   ·rename_i fields zv hu hz
    split at hc
    ·rename_i z hz2
     split at hc
     ·rename_i h3
      simp only[Bool.and_eq_true,Bool.not_eq_true'] at h3
      cases hc;exact ok_lookup hw ht ho hut hu h3.1.1 h3.1.2 h3.2 hz hz2 h1 h2 hs
     ·cases hc
    ·cases hc
   ·cases hc
  ·cases hc
 ·rename_i t m k x ho
  split at hc
  ·rename_i kt e d1 d2 d3 hut h1 h2 h4
   split at hc
   ·rename_i fields hu
    split at hc
    ·rename_i h3
     simp only[Bool.and_eq_true,Bool.not_eq_true'] at h3
     cases hc;exact ok_mapUpdate hw ht ho hut hu h3.1.1 h3.1.2 h3.2 h1 h2 h4 hs
    ·cases hc
   ·cases hc
  ·cases hc
 ·rename_i t x ho
  split at hc
  ·rename_i d' hu h1;cases hc;exact ok_rangeStr hw ht ho hu h1 hs
  ·cases hc
 ·rename_i x ho;obtain⟨d',h1,h2⟩:=Option.map_eq_some_iff.1 hc;subst h2;exact ok_nextStr hw ht ho h1 hs
 ·rename_i x xt t ho
  split at hc
  ·cases hc
  ·rename_i td zv d' h1 h2 h3 h4
   obtain⟨z,h5,h6⟩:=Option.map_eq_some_iff.1 hc
   subst h6
   obtain⟨i,h7,h8⟩:=Option.bind_eq_some_iff.1 h3
   exact ok_assertT hw ht ho h2 (fun ms e=>h1 ms e) h7 h8 h5 h4 hs
  ·cases hc
 ·rename_i x i ho;obtain⟨d',h1,h2⟩:=Option.map_eq_some_iff.1 hc;subst h2;exact ok_extract hw ht ho h1 hs
 ·rename_i c ho
  split at hc
  ·rename_i b hb
   split at hc
   ·rename_i args hargs
    unfold builtinC at hc
    split at hc
    ·rename_i t x hat
     obtain⟨y,h1,h2⟩:=opds_one hargs
     split at hc
     ·rename_i e hu;cases hc;exact ok_len hw ht ho hb (arr_of_list hat) (arr_of_list h1) hu h2 hs
     ·rename_i hu;cases hc;exact ok_lenStr hw ht ho hb (arr_of_list hat) (arr_of_list h1) hu h2 hs
     ·cases hc
    ·rename_i t u x y hat
     obtain⟨x1,y1,h1,h2,h3⟩:=opds_two hargs
     split at hc
     ·rename_i e e2 hu hu2
      split at hc
      ·rename_i i hi
       split at hc
       ·rename_i z hz
        split at hc
        ·rename_i h4
         simp only[Bool.and_eq_true,decide_eq_true_eq,beq_iff_eq] at h4
         obtain⟨⟨⟨rfl,h5⟩,h6⟩,h7⟩:=h4
         cases hc;exact ok_append hw ht ho hb (arr_of_list hat) (arr_of_list h1) hu hi hz h5 h6 h7 h2 h3 hs
        ·cases hc
       ·cases hc
      ·cases hc
     ·cases hc
    ·rename_i x ys hat;cases hc;exact ok_minmax (mx:=true) hw ht ho (by simpa using hb) hargs hs
    ·rename_i x ys hat;cases hc;exact ok_minmax (mx:=false) hw ht ho (by simpa using hb) hargs hs
    ·cases hc
   ·cases hc
  ·rename_i f hf
   split at hc
   ·cases hc;simp[DOp.isCall] at hn
   ·cases hc
  ·split at hc
   ·cases hc;simp[DOp.isCall] at hn
   ·cases hc
 ·rename_i x ho
  obtain⟨d',h1,h2⟩:=Option.map_eq_some_iff.1 hc;subst h2
  simp only[stepOp] at hs
  split at hs <;> cases hs
 ·cases hc
end
end Go.Den
end
section
namespace Go.Den
section
variable{P:Program}{B0:Nat}{w0:World}
theorem VR.bool_pv{G w p b}(h:VR G w p (.bool b)):p = .bool b:=by
 cases p <;> simp only[VR] at h <;> first
  | (simp at h;done)
  | (cases h;rfl)
def DefsOK (B:Nat) (G:Gh) (w:World):List Deferred→Nat→Prop
 | [],_=>True
 | d::ds,N=>∃ r,d={ target := .collected r,args:=#[] }∧(B≤r∧r<N)∧w.heap[r]? = some (Obj.deferred (some []))∧(∀ l,G.be l≠some r)∧(∀ t e,G.tg t≠some (r,e))∧G.cm r=none∧DefsOK B G w ds r
theorem DefsOK.ext{B G h w G' h' w' lo}(x:Ext G h w G' h' w' lo):∀ {ds:List Deferred} {N:Nat},N≤w.heap.size→DefsOK B G w ds N→DefsOK B G' w' ds N
 | [],_,_,_=>trivial
 | d::ds,N,hN,h=>by
  obtain⟨r,h1,h2,h3,h4,h5,h6,h7⟩:=h
  have hlt:r<w.heap.size:=by omega
  refine⟨r,h1,h2,?_,fun l e=>?_,fun t e he=>?_,?_,DefsOK.ext x (by omega) h7⟩
  ·rw[x.frame hlt h4 h5 h6];exact h3
  ·cases hb:G.be l with
   | none=>have:=(x.nbe e hb).2;omega
   | some b'=>have:=x.pres.be hb;rw[e] at this;cases this;exact h4 l hb
  ·cases hb:G.tg t with
   | none =>
    rcases (x.ntg he hb).2 with h8|⟨t',e',h8⟩
    ·omega
    ·exact h5 t' e' h8
   | some p=>have:=x.pres.tg hb;rw[he] at this;cases this;exact h5 t e hb
  ·cases hc:G'.cm r with
   | none=>rfl
   | some k =>
    rcases x.ncm hc h6 with h8|⟨t',e',h8⟩
    ·omega
    ·exact absurd h8 (h5 t' e')
theorem DefsOK.le{B G w}:∀ {ds:List Deferred} {N M:Nat},N≤M→DefsOK B G w ds N→DefsOK B G w ds M
 | [],_,_,_,_=>trivial
 | d::ds,N,M,hN,h=>by
  obtain⟨r,h1,h2,h3⟩:=h
  exact⟨r,h1,⟨h2.1,by omega⟩,h3⟩
def RoundOK (F:Fence) (w:World):Prop:=∀ l,F.round=some l→∃ r:Loop,w.heap[l]? = some (Obj.loop r)
theorem RoundOK.ext{F:Fence}{G h w G' h' w' lo}(x:Ext G h w G' h' w' lo)(r:RoundOK F w):RoundOK F w':=by
 intro l hl
 obtain⟨r0,h0⟩:=r l hl
 obtain⟨r1,h1,_⟩:=x.loops h0
 exact⟨r1,h1⟩
def IsWide (F:Fence):Prop:=F=Fence.wide∨∃ l,F=Fence.wide.inRound l
theorem IsWide.fn{F:Fence}(h:IsWide F)(f:FuncId):F.fn f:=by rcases h with rfl|⟨l,rfl⟩ <;> trivial
theorem IsWide.depth{F:Fence}(h:IsWide F):F.depth=none:=by rcases h with rfl|⟨l,rfl⟩ <;> rfl
theorem IsWide.calls{F:Fence}(h:IsWide F){n m:Nat}{f:FuncId}{args:Array Value}{w:World}{R:Ending→World→Prop}(c:CallsIn Fence.wide n P f args w R):CallsIn F m P f args w R:=by
 have c':CallsIn Fence.wide m P f args w R:=callsIn_wide.2 (callsIn_wide.1 c)
 rcases h with rfl|⟨l,rfl⟩
 ·exact c'
 ·exact c'.inRound l
theorem IsWide.rounds{F:Fence}(h:IsWide F){n m:Nat}{l:Nat}{f:FuncId}{tmps:Array Value}{as bd:Code}{w:World}{R:Ending→World→Prop}(c:RoundIn Fence.wide n P l f tmps as bd w R):RoundIn F m P l f tmps as bd w R:=by
 have c':RoundIn Fence.wide m P l f tmps as bd w R:=⟨trivial,fun cf cs _=>c.2 cf cs (room_wide _)⟩
 rcases h with rfl|⟨l,rfl⟩
 ·exact c'
 ·exact c'
def CallR (P:Program) (B0:Nat) (w0:World) (G:Gh) (st:St) (w:World) (r:CR) (st':St) (e:Ending) (w':World):Prop :=
 ∃ G',WR P B0 w0 G' st'.heap w'∧Ext G st.heap w G' st'.heap w' st'.lo ∧
  match r with
  | .ret v=>∃ u,e = .returned u∧VR G' w' v u
  | .panic v=>∃ u,e = .panicked [{ v:=u,recovered:=false }]∧VR G' w' v u
def Enterable (P:Program) (g:FuncId):Prop:=∃ fn,P.funcs[g]? = some fn∧(fn.name== "runtime.NumGoroutine")=false∧fn.body.isNone=false
def CallOK (P:Program) (B0:Nat) (w0:World) (f:PV) (fv:Value) (avs:List Value) (G:Gh) (st:St) (w:World) (r:CR) (st':St):Prop :=
 match f with
 | .func g _ _=>∀ fi ca,fv = .func (.func g) fi ca→Enterable P g∧∀ n,CallsIn Fence.wide n P g (fi++avs.toArray++ca) w (CallR P B0 w0 G st w r st')
 | .yield _=>∀ b,fv = .func (.yield b) #[] #[]→∃ rr:Loop,w.heap[b]? = some (Obj.loop rr)∧avs.length=rr.params.size ∧
   ∀ n,RoundIn Fence.wide n P b rr.fn ((rr.params.zip avs.toArray).foldl (fun tmps (t,a)=>tmps.setIfInBounds t a) rr.tmps) rr.assign rr.body w (CallR P B0 w0 G st w r st')
 | _=>False
def Grows (st st':St):Prop:=st'.lo≤st.lo∧st.heap.length≤st'.heap.length∧∀ l,l<st'.lo→l<st.heap.length→st'.heap[l]? = st.heap[l]?
theorem Grows.refl(st:St):Grows st st:=⟨Nat.le_refl _,Nat.le_refl _,fun _ _ _=>rfl⟩
theorem Grows.trans{a b c:St}(h:Grows a b)(h':Grows b c):Grows a c:=⟨Nat.le_trans h'.1 h.1,Nat.le_trans h.2.1 h'.2.1,fun l h1 h2=>by rw[h'.2.2 l h1 (Nat.lt_of_lt_of_le h2 h.2.1),h.2.2 l (Nat.lt_of_lt_of_le h1 h'.1) h2]⟩
theorem Grows.hlo{a b:St}(h:Grows a b)(h':a.lo≤a.heap.length):b.lo≤b.heap.length:=by have:=h.1;have:=h.2.1;omega
theorem Grows.push{a:St}{b:List HObj}:Grows a { a with heap:=a.heap++b }:=⟨Nat.le_refl _,by simp,fun l _ h=>by simp[List.getElem?_append_left h]⟩
theorem Grows.set{a:St}{l:Nat}{o:HObj}:Grows a (setVar a l o):=⟨Nat.min_le_left _ _,by simp[setVar],fun k h1 h2=>by
 have:k<min a.lo l:=h1
 show (a.heap.set l o)[k]? = _
 rw[List.getElem?_set_ne (by omega)]⟩
theorem Grows.setPush{a:St}{l:Nat}{o:HObj}{b:List HObj}:Grows a { heap:=a.heap.set l o++b,lo:=min a.lo l }:=⟨Nat.min_le_left _ _,by simp,fun k h1 h2=>by
 have:k<min a.lo l:=h1
 show (a.heap.set l o++b)[k]? = _
 rw[List.getElem?_append_left (by simpa using h2),List.getElem?_set_ne (by omega)]⟩
def SoundCall (P:Program) (B0:Nat) (w0:World) (rec:Rec):Prop :=
 ∀ f args st r st',rec.call f args st=some (r,st')→st.lo≤st.heap.length→Grows st st' ∧
  ∀ G w fv avs,WR P B0 w0 G st.heap w→VR G w f fv→VRL G w args avs→CallOK P B0 w0 f fv avs G st w r st'
structure EnvOK (P:Program) (E:Env):Prop where
 meth:∀ t m f,E.meth t m=some f→∀ v w,(method (P.types.size+Made.depth) t v m).run P w = .ok (f,v) w
theorem callFunc_run{g:FuncId}(h:Enterable P g)(args:Array Value)(w:World):(callFunc g args).run P w = .ok (.enter g args) w:=by
 obtain⟨fn,h1,h2,h3⟩:=h
 unfold callFunc
 simp only[Sem.run_bind,run_program,Result.andThen_ok,h1,Sem.run_ite,h2,Bool.false_eq_true,if_false,h3,Sem.run_pure]
variable{G:Gh}{st:St}{w:World}{tm:List PV}{a:Act}{o:Oper}{E:Env}{rec:Rec}
def OpDone (P:Program) (B0:Nat) (w0:World) (G:Gh) (st:St) (w:World) (a:Act) (o:Oper) (r:OpR):Prop :=
 match r with
 | .val v st'=>st'.lo≤st.lo∧∀ (F:Fence) (n:Nat),IsWide F→∀ (K:Act→World→Prop) (Q:Exit→Act→World→Prop),
   (∀ G' w' u,WR P B0 w0 G' st'.heap w'→Ext G st.heap w G' st'.heap w' st'.lo→VR G' w' v u→K (a.put o.dst u) w')→o.wpIn F n P a w K Q
 | .panic v st'=>st'.lo≤st.lo∧∀ (F:Fence) (n:Nat),IsWide F→∀ (K:Act→World→Prop) (Q:Exit→Act→World→Prop),
   (∀ G' w' u,WR P B0 w0 G' st'.heap w'→Ext G st.heap w G' st'.heap w' st'.lo→VR G' w' v u→Q (.panic [{ v:=u,recovered:=false }]) a w')→o.wpIn F n P a w K Q
theorem opC_defer{mu:TypeId→Bool}{d:DOp}(hc:opC P mu o=some d):∀ c,o.op ≠ .defer c:=by
 intro c h
 unfold opC at hc
 rw[h] at hc
 cases hc
theorem opC_isCall{mu:TypeId→Bool}{d:DOp}(hc:opC P mu o=some d):(∃ c,o.op = .call c∧(match d with
   | .call f args=>∃ x,c.callee = .value x∧opd x=some f∧opds c.args.toList=some args
   | .invoke x m args=>∃ y,c.callee = .invoke y m∧opd y=some x∧opds c.args.toList=some args
   | _=>True))∨d.isCall=false:=by
 cases hd:d.isCall with
 | false=>exact .inr rfl
 | true =>
  left
  unfold opC at hc
  split at hc
  case h_28 c ho =>
   refine⟨c,ho,?_⟩
   split at hc
   ·split at hc
    ·unfold builtinC at hc
     repeat' (split at hc)
     all_goals (first|cases hc|skip)
     all_goals (simp[DOp.isCall] at hd)
    ·cases hc
   ·rename_i f hf
    split at hc
    ·rename_i d1 d2 h1 h2;cases hc;exact⟨f,hf,h1,h2⟩
    ·cases hc
   ·rename_i y m hf
    split at hc
    ·rename_i d1 d2 h1 h2;cases hc;exact⟨y,hf,h1,h2⟩
    ·cases hc
  all_goals
   exfalso
   repeat' (split at hc)
   all_goals (first
    | cases hc
    | (obtain⟨_,_,h2⟩:=Option.map_eq_some_iff.1 hc;subst h2)
    | skip)
   all_goals (first|(simp[DOp.isCall] at hd;done)|skip)
   all_goals
    (unfold binC at hc
     repeat' (split at hc)
     all_goals (first|cases hc|skip)
     all_goals (simp[DOp.isCall] at hd))
theorem oper_plain{mu:TypeId→Bool}{d:DOp}(hc:opC P mu o=some d)(hn:d.isCall=false){v:PV}{st':St}(hw:WR P B0 w0 G st.heap w)(ht:VRL G w tm a.tmps.toList)(hs:stepOp E rec tm st d=some (.val v st')) :
  OpDone P B0 w0 G st w a o (.val v st'):=by
 obtain⟨G',w',h1,h2,h3,h4⟩:=op_ok hc hw ht hn hs
 refine⟨h3,fun F n hF K Q hK=>⟨fun f _=>hF.fn f,?_⟩⟩
 rw[Oper.semAt_eq _ _ _ (opC_defer hc)]
 unfold OpRun at h4
 rcases h4 with ⟨u,h5,h6⟩|⟨h5,h6⟩
 ·rw[h5];exact hK G' w' u h1 h2 h6
 ·rw[h5];subst h6;exact hK G' w' Go.undef h1 h2 VR.undef
def Goes (r:CR) (o:Oper) (a:Act) (K:Act→World→Prop) (Q:Exit→Act→World→Prop) (G':Gh) (w':World) (u:Value):Prop :=
 match r with
 | .ret v=>VR G' w' v u→K (a.put o.dst u) w'
 | .panic v=>VR G' w' v u→Q (.panic [{ v:=u,recovered:=false }]) a w'
def OpR.nst:OpR→St
 | .val _ s=>s
 | .panic _ s=>s
def GrowCall (rec:Rec):Prop:=∀ f args st r st',rec.call f args st=some (r,st')→st.lo≤st.heap.length→Grows st st'
theorem SoundCall.grow(h:SoundCall P B0 w0 rec):GrowCall rec:=fun _ _ _ _ _ h1 h2=>(h _ _ _ _ _ h1 h2).1
theorem stepOp_grows(hrec:GrowCall rec)(hlo:st.lo≤st.heap.length){d:DOp}{r:OpR}(h:stepOp E rec tm st d=some r):Grows st r.nst:=by
 cases d
 case call f args =>
  simp only[stepOp] at h
  split at h
  ·rename_i hr;cases h;exact hrec _ _ _ _ _ hr hlo
  ·rename_i hr;cases h;exact hrec _ _ _ _ _ hr hlo
  ·cases h
 case invoke x m args =>
  simp only[stepOp] at h
  repeat' (split at h)
  all_goals (first|(cases h;done)|skip)
  all_goals (rename_i hr;cases h;exact hrec _ _ _ _ _ hr hlo)
 case append =>
  simp only[stepOp] at h
  repeat' (split at h)
  all_goals (first|(cases h;done)|skip)
  all_goals (unfold doAppend at h)
  all_goals (repeat' (split at h))
  all_goals (first|(cases h;done)|(cases h;first|exact .refl _|exact .push|exact .setPush))
 all_goals
  simp only[stepOp] at h
  repeat' (split at h)
  all_goals (first
   | (cases h;done)
   | (cases h;first|exact .refl _|exact .push|exact .set)
   | (obtain⟨_,_,h⟩:=Option.map_eq_some_iff.1 h;cases h;exact .refl _))
theorem stepOp_panic{d:DOp}{v:PV}{st':St}(h:stepOp E rec tm st d=some (.panic v st')):d.isCall=true∨∃ x,d = .panic x:=by
 cases d
 case call=>exact .inl rfl
 case invoke=>exact .inl rfl
 case panic=>exact .inr ⟨_,rfl⟩
 case append =>
  exfalso
  simp only[stepOp] at h
  repeat' (split at h)
  all_goals (first|cases h|skip)
  all_goals (unfold doAppend at h)
  all_goals (repeat' (split at h))
  all_goals cases h
 all_goals
  exfalso
  simp only[stepOp] at h
  repeat' (split at h)
  all_goals (first|(cases h;done)|(obtain⟨_,_,h⟩:=Option.map_eq_some_iff.1 h;cases h))
theorem upon_call{F:Fence}{n:Nat}(hF:IsWide F){g:FuncId}{args:Array Value}{r:CR}{st':St}(h:∀ n,CallsIn Fence.wide n P g args w (CallR P B0 w0 G st w r st')){K:Act→World→Prop}{Q:Exit→Act→World→Prop}
  (hK:∀ G' w' u,WR P B0 w0 G' st'.heap w'→Ext G st.heap w G' st'.heap w' st'.lo→Goes r o a K Q G' w' u) :
  o.uponIn F n P a K Q (.ok (.enter g args) w):=by
 refine⟨fun hd=>(by rw[hF.depth] at hd;cases hd),(hF.calls (h 0)).mono ?_⟩
 rintro e w' ⟨G',h1,h2,h3⟩
 cases r with
 | ret v=>obtain⟨u,rfl,h4⟩:=h3;exact hK G' w' u h1 h2 h4
 | panic v=>obtain⟨u,rfl,h4⟩:=h3;exact hK G' w' u h1 h2 h4
theorem upon_round{F:Fence}{n:Nat}(hF:IsWide F){l:Nat}{f:FuncId}{tmps:Array Value}{as bd:Code}{r:CR}{st':St}(h:∀ n,RoundIn Fence.wide n P l f tmps as bd w (CallR P B0 w0 G st w r st')){K:Act→World→Prop}{Q:Exit→Act→World→Prop}
  (hK:∀ G' w' u,WR P B0 w0 G' st'.heap w'→Ext G st.heap w G' st'.heap w' st'.lo→Goes r o a K Q G' w' u) :
  o.uponIn F n P a K Q (.ok (.round l f tmps as bd) w):=by
 refine⟨fun hd=>(by rw[hF.depth] at hd;cases hd),(hF.rounds (h 0)).mono ?_⟩
 rintro e w' ⟨G',h1,h2,h3⟩
 cases r with
 | ret v=>obtain⟨u,rfl,h4⟩:=h3;exact hK G' w' u h1 h2 h4
 | panic v=>obtain⟨u,rfl,h4⟩:=h3;exact hK G' w' u h1 h2 h4
theorem opC_panic{mu:TypeId→Bool}{x:Opd}(hc:opC P mu o=some (.panic x)):∃ y,o.op = .panic y∧opd y=some x:=by
 unfold opC at hc
 split at hc
 case h_29 y ho =>
  obtain⟨d,h1,h2⟩:=Option.map_eq_some_iff.1 hc
  cases h2
  exact⟨y,ho,h1⟩
 all_goals
  exfalso
  repeat' (split at hc)
  all_goals (first
   | (cases hc;done)
   | (obtain⟨_,_,h2⟩:=Option.map_eq_some_iff.1 hc;cases h2;done)
   | (unfold binC at hc;(repeat' (split at hc)) <;> cases hc;done)
   | (unfold builtinC at hc;(repeat' (split at hc)) <;> cases hc;done))
theorem oper_noCall{mu:TypeId→Bool}{d:DOp}(hc:opC P mu o=some d)(hn:d.isCall=false){r:OpR}(hw:WR P B0 w0 G st.heap w)(ht:VRL G w tm a.tmps.toList)(hs:stepOp E rec tm st d=some r) :
  OpDone P B0 w0 G st w a o r:=by
 cases r with
 | val v st'=>exact oper_plain hc hn hw ht hs
 | panic v st' =>
  rcases stepOp_panic hs with h|⟨x,rfl⟩
  ·rw[hn] at h;cases h
  ·obtain⟨y,ho,hy⟩:=opC_panic hc
   have hx:=opd_ok ht hy
   simp only[stepOp] at hs
   split at hs
   ·rename_i t p hev
    cases hs
    rw[hev] at hx
    have h0:=hx
    simp only[VR] at hx
    obtain⟨u,h1,h2⟩:=hx
    refine⟨Nat.le_refl _,fun F n hF K Q hK=>⟨fun f _=>hF.fn f,?_⟩⟩
    rw[Oper.semAt_eq _ _ _ (opC_defer hc)]
    have:(execOp a.eval o).run P w = .halt (.panic (a.eval y)) w:=by
     unfold execOp;rw[ho]
     simp[Instr.panic,h1]
    rw[this]
    exact hK G w _ hw (.refl _ _ _ _) h0
   ·cases hs
theorem oper_ok(hE:EnvOK P E)(hrec:SoundCall P B0 w0 rec){mu:TypeId→Bool}{d:DOp}(hc:opC P mu o=some d){r:OpR}(hlo:st.lo≤st.heap.length)(hw:WR P B0 w0 G st.heap w)(ht:VRL G w tm a.tmps.toList)(hs:stepOp E rec tm st d=some r) :
  OpDone P B0 w0 G st w a o r:=by
 rcases opC_isCall hc with ⟨c,ho,hcall⟩|hn
 · -- a call
  cases d with
  | call f args =>
   obtain⟨x,hx1,hx2,hx3⟩:=hcall
   have hf:=opd_ok ht hx2
   have ha:=opds_ok ht hx3
   simp only[stepOp] at hs
   have fin:∀ {cr:CR} {st':St},rec.call (f.ev tm) (evs tm args) st=some (cr,st')→st'.lo≤st.lo∧∀ (F:Fence) (n:Nat),IsWide F→∀ (K:Act→World→Prop) (Q:Exit→Act→World→Prop),
     (∀ G' w' u,WR P B0 w0 G' st'.heap w'→Ext G st.heap w G' st'.heap w' st'.lo→Goes cr o a K Q G' w' u)→o.wpIn F n P a w K Q:=by
    intro cr st' hr
    obtain⟨h1,h2⟩:=hrec _ _ _ _ _ hr hlo
    refine⟨h1.1,fun F n hF K Q hK=>⟨fun f _=>hF.fn f,?_⟩⟩
    rw[Oper.semAt_eq _ _ _ (opC_defer hc)]
    have h3:=h2 G w _ _ hw hf ha
    have hexec:execOp a.eval o=(do let d ← resolve a.eval c o.type;invoke d.target d.args):=by unfold execOp;rw[ho]
    rw[hexec]
    unfold CallOK at h3
    generalize hfe:f.ev tm=fp at h3 hf
    cases fp with
    | func g fa ca =>
     simp only[VR] at hf
     obtain⟨fi,ca',hfv,_,_⟩:=hf
     obtain⟨h4,h5⟩:=h3 fi ca' hfv
     have hrun:(do let d ← resolve a.eval c o.type;invoke d.target d.args:Sem Next).run P w = .ok (.enter g (fi++(c.args.toList.map a.eval).toArray++ca')) w:=by
      simp only[resolve,hx1,Deferred.ofValue,hfv,Sem.run_bind,Sem.run_pure,Result.andThen_ok,invoke,callFunc_run h4]
      have hargs:(#[]++c.args.map a.eval)=(c.args.toList.map a.eval).toArray:=Array.ext' (by simp)
      rw[show fi++c.args.map a.eval=fi++(c.args.toList.map a.eval).toArray from by rw[← hargs];simp]
     rw[hrun]
     exact upon_call hF h5 hK
    | yield l =>
     simp only[VR] at hf
     obtain⟨b,_,hfv⟩:=hf
     obtain⟨rr,h4,h5,h6⟩:=h3 b hfv
     have hrun:(do let d ← resolve a.eval c o.type;invoke d.target d.args:Sem Next).run P w = .ok (.round b rr.fn ((rr.params.zip (c.args.toList.map a.eval).toArray).foldl (fun tmps (t,a)=>tmps.setIfInBounds t a) rr.tmps) rr.assign rr.body) w:=by
      have hargs:(#[]++c.args.map a.eval)=(c.args.toList.map a.eval).toArray:=Array.ext' (by simp)
      simp only[resolve,hx1,Deferred.ofValue,hfv,Sem.run_bind,Sem.run_pure,Result.andThen_ok,invoke,hargs]
      exact run_yield h4 (by simpa using h5)
     rw[hrun]
     exact upon_round hF h6 hK
    | _=>exact h3.elim
   split at hs
   ·rename_i v st' hr;cases hs;obtain⟨h1,h2⟩:=fin hr;exact⟨h1,fun F n hF K Q hK=>h2 F n hF K Q hK⟩
   ·rename_i v st' hr;cases hs;obtain⟨h1,h2⟩:=fin hr;exact⟨h1,fun F n hF K Q hK=>h2 F n hF K Q hK⟩
   ·cases hs
  | invoke x m args =>
   obtain⟨y,hx1,hx2,hx3⟩:=hcall
   have hf:=opd_ok ht hx2
   have ha:=opds_ok ht hx3
   simp only[stepOp] at hs
   split at hs
   ·rename_i t p hev
    rw[hev] at hf
    simp only[VR] at hf
    obtain⟨u0,hu1,hu2⟩:=hf
    split at hs
    ·rename_i g hg
     have fin:∀ {cr:CR} {st':St},rec.call (.func g [] []) (p::evs tm args) st=some (cr,st')→st'.lo≤st.lo∧∀ (F:Fence) (n:Nat),IsWide F→∀ (K:Act→World→Prop) (Q:Exit→Act→World→Prop),
       (∀ G' w' u,WR P B0 w0 G' st'.heap w'→Ext G st.heap w G' st'.heap w' st'.lo→Goes cr o a K Q G' w' u)→o.wpIn F n P a w K Q:=by
      intro cr st' hr
      obtain⟨h1,h2⟩:=hrec _ _ _ _ _ hr hlo
      refine⟨h1.1,fun F n hF K Q hK=>⟨fun f _=>hF.fn f,?_⟩⟩
      rw[Oper.semAt_eq _ _ _ (opC_defer hc)]
      have hfv:VR G w (.func g [] []) (.func (.func g) #[] #[]):=by simp only[VR];exact⟨_,_,rfl,VRL.nil_iff.2 rfl,VRL.nil_iff.2 rfl⟩
      obtain⟨h4,h5⟩:=h2 G w _ _ hw hfv (VRL.cons hu2 ha) #[] #[] rfl
      have hexec:execOp a.eval o=(do let d ← resolve a.eval c o.type;invoke d.target d.args):=by unfold execOp;rw[ho]
      have hrun:(do let d ← resolve a.eval c o.type;invoke d.target d.args:Sem Next).run P w = .ok (.enter g (#[]++(u0::c.args.toList.map a.eval).toArray++#[])) w:=by
       have h6:=hE.meth t m g hg u0 w
       have h7:(#[Value.iface t u0]++c.args.map a.eval)[0]? = some (Value.iface t u0):=by
        rw[Array.getElem?_append_left (by simp)];rfl
       have h8:(#[Value.iface t u0]++c.args.map a.eval).extract 1 (#[Value.iface t u0]++c.args.map a.eval).size=c.args.map a.eval:=by
        apply Array.ext'
        simp[List.take_of_length_le]
       have h9:#[u0]++c.args.map a.eval=(#[]++(u0::c.args.toList.map a.eval).toArray++#[]:Array Value):=Array.ext' (by simp)
       simp only[resolve,hx1,hu1,Sem.run_bind,Sem.run_pure,Result.andThen_ok,invoke,h7,h8,callMethod,run_program,h6,callFunc_run h4]
       rw[← h9]
      rw[hexec,hrun]
      exact upon_call hF h5 hK
     split at hs
     ·rename_i v st' hr;cases hs;obtain⟨h1,h2⟩:=fin hr;exact⟨h1,fun F n hF K Q hK=>h2 F n hF K Q hK⟩
     ·rename_i v st' hr;cases hs;obtain⟨h1,h2⟩:=fin hr;exact⟨h1,fun F n hF K Q hK=>h2 F n hF K Q hK⟩
     ·cases hs
    ·cases hs
   ·cases hs
  | _=>exact oper_noCall hc rfl hw ht hs
 ·exact oper_noCall hc hn hw ht hs
end
end Go.Den
end
section
namespace Go.Den
section
variable{P:Program}{B0:Nat}{w0:World}{G:Gh}{st:St}{w:World}{tm:List PV}{a:Act}{E:Env}{rec:Rec}
def ExR (G:Gh) (w:World):Ex→Exit→Prop
 | .normal,x=>x = .normal
 | .ret,x=>x = .ret
 | .exit id,x=>x = .exit id
 | .panic v,x=>∃ u,x = .panic [{ v:=u,recovered:=false }]∧VR G w v u
def isPanic:Ex→Prop
 | .panic _=>True
 | _=>False
def Post (P:Program) (B0:Nat) (w0:World) (B:Nat) (G:Gh) (st:St) (w:World) (e:Ex) (tm':List PV) (st':St) (x:Exit) (a':Act) (w':World):Prop :=
 ∃ G',WR P B0 w0 G' st'.heap w'∧Ext G st.heap w G' st'.heap w' st'.lo∧ExR G' w' e x∧(isPanic e∨VRL G' w' tm' a'.tmps.toList)∧DefsOK B G' w' a'.defers w'.heap.size
def SoundCode (P:Program) (B0:Nat) (w0:World) (rec:Rec):Prop :=
 ∀ mu c dc,codeC P mu c=some dc→∀ tm st e tm' st',rec.code dc tm st=some (e,tm',st')→st.lo≤st.heap.length →
  ∀ F n,IsWide F→∀ B G w a,WR P B0 w0 G st.heap w→VRL G w tm a.tmps.toList→B≤w.heap.size→DefsOK B G w a.defers w.heap.size→RoundOK F w→c.wpIn F n P (Post P B0 w0 B G st w e tm' st') a w
theorem put_ok(ht:VRL G w tm a.tmps.toList){v:PV}{u:Value}(hv:VR G w v u)(dst:Option Nat):VRL G w (put tm dst v) (a.put dst u).tmps.toList:=by
 cases dst with
 | none=>exact ht
 | some d =>
  simp only[put,Act.put,Array.toList_setIfInBounds]
  exact ht.set hv
theorem put_defers(dst:Option Nat)(u:Value):(a.put dst u).defers=a.defers:=by cases dst <;> rfl
theorem wants_ok(ht:VRL G w tm a.tmps.toList){ops:Array Oper}{g:Option (Nat×Bool)}{o:Oper}(hg:guardC ops o.guard=some g):wants tm g=Region.wanted o (yielded ops a.tmps):=by
 unfold guardC at hg
 unfold Region.wanted wants
 split at hg
 ·rename_i h0
  cases hg
  rw[h0]
 ·rename_i j want h0
  rw[h0]
  split at hg
  ·rename_i d hd
   cases hg
   simp only
   unfold yielded
   rw[hd]
   simp only[Option.bind_some]
   cases htd:tm[d]? with
   | none =>
    have hl:=ht.length
    have:a.tmps[d]? = none:=by
     have h1:=List.getElem?_eq_none_iff.1 htd
     exact Array.getElem?_eq_none_iff.2 (by simp at hl;omega)
    rw[this]
    simp
   | some p =>
    obtain⟨u,h1,h2⟩:=ht.get htd
    have h1':a.tmps[d]? = some u:=by simpa using h1
    rw[h1']
    cases u with
    | bool b =>
     have:=h2.bool_pv
     subst this
     simp only[]
     cases b <;> cases want <;> rfl
    | _ =>
     have:∀ b,p ≠ .bool b:=by
      intro b e
      subst e
      simp only[VR] at h2
      cases h2
     split
     ·rename_i b hb
      cases hb
      exact absurd rfl (this b)
     ·simp
  ·cases hg
theorem Ext.transMin{G h w G1 h1 w1 G2 h2 w2 lo1 lo2}(x:Ext G h w G1 h1 w1 lo1)(y:Ext G1 h1 w1 G2 h2 w2 lo2)(hl:lo2≤lo1):Ext G h w G2 h2 w2 lo2:=(x.lo hl).trans y
theorem uponIn_mono{F:Fence}{n:Nat}{o:Oper}{K:Act→World→Prop}{Q Q':Exit→Act→World→Prop}{K':Act→World→Prop}(hK:∀ a w,K a w→K' a w)(hQ:∀ e a w,Q e a w→Q' e a w){r:Result Next}(h:o.uponIn F n P a K Q r):o.uponIn F n P a K' Q' r:=by
 unfold Oper.uponIn at *
 have hl:LetsOut Q→LetsOut Q':=fun ⟨a,w,h⟩=>⟨a,w,hQ _ _ _ h⟩
 split at h
 ·exact hK _ _ h
 ·exact hK _ _ h
 ·exact hK _ _ h
 ·refine⟨h.1,h.2.mono fun e w' he=>?_⟩
  cases e with
  | returned v=>exact hK _ _ he
  | panicked chain=>exact hQ _ _ _ he
  | outgrown=>exact hl he
 ·exact⟨h.1,h.2.mono fun v w' he=>hK _ _ he⟩
 ·refine⟨h.1,h.2.mono fun e w' he=>?_⟩
  cases e with
  | returned v=>exact hK _ _ he
  | panicked chain=>exact hQ _ _ _ he
  | outgrown=>exact hl he
 ·exact hQ _ _ _ h
 ·exact h.elim
theorem wpOpsIn_mono{F:Fence}{n:Nat}{ops:Array Oper}{Q Q':Exit→Act→World→Prop}(hQ:∀ e a w,Q e a w→Q' e a w):∀ {l:List Nat} {a:Act} {w:World},wpOpsIn F n P ops Q l a w→wpOpsIn F n P ops Q' l a w
 | [],a,w,h=>hQ _ _ _ h
 | i::l,a,w,h=>by
  simp only[wpOpsIn] at h ⊢
  split
  ·rename_i ho;simp only[ho] at h;exact wpOpsIn_mono hQ h
  ·rename_i o ho
   simp only[ho] at h
   split
   ·rename_i hw
    simp only[hw,if_true] at h
    exact⟨h.1,uponIn_mono (fun a w h=>wpOpsIn_mono hQ h) hQ h.2⟩
   ·rename_i hw
    simp only[hw] at h
    exact⟨h.1,wpOpsIn_mono hQ h.2⟩
theorem ops_ok(hE:EnvOK P E)(hrec:SoundCall P B0 w0 rec){mu:TypeId→Bool}{ops:Array Oper}:∀ (L:List Oper) (k:Nat) (ds:List DOper) (tm:List PV) (st:St) (e:Ex) (tm':List PV) (st':St),
  ops.toList.drop k=L→opersC P mu ops L=some ds→stepOps E rec ds tm st=some (e,tm',st')→st.lo≤st.heap.length→Grows st st' ∧
  ∀ F n,IsWide F→∀ B G w a,WR P B0 w0 G st.heap w→VRL G w tm a.tmps.toList→DefsOK B G w a.defers w.heap.size→wpOpsIn F n P ops (Post P B0 w0 B G st w e tm' st') (List.range' k L.length) a w
 | [],k,ds,tm,st,e,tm',st',hL,hc,hs,hlo=>by
  simp only[opersC] at hc;cases hc
  simp only[stepOps] at hs;cases hs
  refine⟨.refl _,fun F n hF B G w a hw ht hd=>?_⟩
  simp only[List.length_nil,List.range'_zero,wpOpsIn]
  exact⟨G,hw,.refl _ _ _ _,rfl,.inr ht,hd⟩
 | o::L,k,ds,tm,st,e,tm',st',hL,hc,hs,hlo=>by
  simp only[opersC] at hc
  split at hc
  ·rename_i dd dds h1 h2
   cases hc
   have hok:ops[k]? = some o:=by
    have:(ops.toList.drop k)[0]? = some o:=by rw[hL];rfl
    simpa using this
   have hL':ops.toList.drop (k+1)=L:=by
    have:=congrArg (List.drop 1) hL
    simpa using this
   unfold operC at h1
   split at h1
   ·rename_i d g h3 h4
    cases h1
    simp only[stepOps] at hs
    split at hs
    ·rename_i hwant
     split at hs
     ·rename_i v st1 hstep
      have hg1:Grows st st1:=stepOp_grows hrec.grow hlo hstep
      obtain⟨h5,h6⟩:=ops_ok hE hrec L (k+1) dds _ st1 e tm' st' hL' h2 hs (hg1.hlo hlo)
      refine⟨hg1.trans h5,fun F n hF B G w a hw ht hd=>?_⟩
      simp only[List.length_cons,List.range'_succ,wpOpsIn,hok]
      rw[← wants_ok ht h4,if_pos hwant]
      obtain⟨_,h7⟩:=oper_ok hE hrec h3 hlo hw ht hstep
      refine h7 F n hF _ _ (fun G1 w1 u hw1 hx hv=>?_)
      refine (wpOpsIn_mono (fun x a' w' hp=>?_) (h6 F n hF B G1 w1 (a.put o.dst u) hw1 (put_ok (VRL.mono hx.pres ht) hv o.dst) (by rw[put_defers];exact (hd.ext hx (Nat.le_refl _)).le hx.size)))
      obtain⟨G',p1,p2,p3⟩:=hp
      exact⟨G',p1,hx.transMin p2 h5.1,p3⟩
     ·rename_i v st1 hstep
      cases hs
      refine⟨stepOp_grows hrec.grow hlo hstep,fun F n hF B G w a hw ht hd=>?_⟩
      simp only[List.length_cons,List.range'_succ,wpOpsIn,hok]
      rw[← wants_ok ht h4,if_pos hwant]
      obtain⟨_,h7⟩:=oper_ok hE hrec h3 hlo hw ht hstep
      refine h7 F n hF _ _ (fun G1 w1 u hw1 hx hv=>?_)
      exact⟨G1,hw1,hx,⟨u,rfl,hv⟩,.inl trivial,(hd.ext hx (Nat.le_refl _)).le hx.size⟩
     ·cases hs
    ·rename_i hwant
     obtain⟨h5,h6⟩:=ops_ok hE hrec L (k+1) dds _ st e tm' st' hL' h2 hs hlo
     refine⟨h5,fun F n hF B G w a hw ht hd=>?_⟩
     simp only[List.length_cons,List.range'_succ,wpOpsIn,hok]
     rw[← wants_ok ht h4,if_neg hwant]
     refine⟨fun f _=>hF.fn f,?_⟩
     exact h6 F n hF B G w _ hw (put_ok ht VR.undef o.dst) (by rw[put_defers];exact hd)
   ·cases h1
  ·cases hc
end
end Go.Den
end

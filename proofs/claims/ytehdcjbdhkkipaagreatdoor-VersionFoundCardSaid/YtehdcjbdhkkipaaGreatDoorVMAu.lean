/- Part of the proofs of laws of the package version. Texts: VnS, VnT, VnU, VnV, VnW. -/
import Derived.Test.YtehdcjbdhkkipaaGreatDoorVMAt
set_option linter.unusedSimpArgs false
set_option linter.unusedVariables false
section
namespace Go.Den.Ve
theorem has_tag_set{s:St}{v:PV}{l:Nat}{c:List PV}{o:HObj}(H:Has s.heap (tagL v))(hl:hp s l=some (.var c)):Has (setVar s l o).heap (tagL v):=fun p hp'=>by
 have h1:=H p hp'
 refine⟨?_,h1.2⟩
 have h2:=hp_setVar s l p.1 o
 rw[if_neg (by
  rintro rfl
  have h3:s.heap[p.1]? = some (.var c):=hl
  rw[h3] at h1
  have h4:p.2 = .tag true:=by
   unfold tagL at hp'
   split at hp'
   ·rw[List.mem_singleton.1 hp']
   ·cases hp'
  rw[h4] at h1
  cases h1.1)] at h2
 exact h2.trans h1.1
def leastW (b:BK) (i:Nat) (w:List Int):List (List Int):=leastL (fun x=>cost1 b i x+((lev x w:Nat):Int)) (linesL b.words.toNat)
def worstK (b:BK) (i k:Nat):Int:=((linesL b.words.toNat).take k).foldl (fun m w=>max m ((leastW b i w).length:Int)) 0
def worstB (b:BK) (i:Nat):Int:=worstK b i (linesL b.words.toNat).length
def leftK (b:BK) (i k:Nat):Int:=(List.range k).foldl (fun n q=>if q=i then n else n*((leastB b q).length:Int)) (worstB b i)
def leftB (b:BK) (i:Nat):Int:=leftK b i (lines1 b)
abbrev T3:=Int×Int×Int
abbrev enc3 (x:T3):List PV:=[.int .i64 x.1,.int .i64 x.2.1,.int .i64 x.2.2]
attribute [go_sem] enc3
def lost1 (b:BK) (n i:Nat):List T3:=if (lnAt b n i).lost then [((n:Int),(i:Int),leftB b i)] else []
def lostK (b:BK) (n k:Nat):List T3:=(List.range k).flatMap (lost1 b n)
def lostsK (b:BK) (n:Nat):List T3:=(List.range n).flatMap fun c=>lostK b c (lines1 b)
def askB (b:BK):Option T3:=bestF (fun x y:T3=>decide (x.2.2<y.2.2)) (lostsK b b.copies.length)
theorem lostK_succ(b:BK)(n k:Nat):lostK b n (k+1)=lostK b n k++lost1 b n k:=by simp[lostK,List.range_succ]
theorem lostsK_succ(b:BK)(n:Nat):lostsK b (n+1)=lostsK b n++lostK b n (lines1 b):=by simp[lostsK,List.range_succ]
theorem leftK_succ(b:BK)(i k:Nat):leftK b i (k+1)=if k=i then leftK b i k else leftK b i k*((leastB b k).length:Int):=by simp[leftK,List.range_succ]
theorem worstK_succ{b:BK}{i k:Nat}(hk:k<(linesL b.words.toNat).length):worstK b i (k+1)=max (worstK b i k) ((leastW b i (linesL b.words.toNat)[k]).length:Int):=by
 unfold worstK
 rw[List.take_succ_eq_append_getElem hk,List.foldl_append];rfl
theorem leastW_len(b:BK)(hw:b.words≤3)(i:Nat)(w:List Int):(leastW b i w).length≤121:=Nat.le_trans (List.length_filter_le _ _) (lines_len _ (by omega))
theorem foldl_max_bound{α:Type}{f:α→Int}{c:Int}(hf:∀ x,f x≤c):∀ (l:List α) (a:Int),0≤a→a≤c→0≤l.foldl (fun m w=>max m (f w)) a∧l.foldl (fun m w=>max m (f w)) a≤c
 | [],a,h0,h1=>⟨h0,h1⟩
 | x::l,a,h0,h1=>foldl_max_bound hf l (max a (f x)) (by omega) (by have:=hf x;omega)
theorem worstK_bound(b:BK)(hw:b.words≤3)(i k:Nat):0≤worstK b i k∧worstK b i k≤121:=foldl_max_bound (fun w=>by have:=leastW_len b hw i w;omega) _ _ (by omega) (by omega)
theorem leftK_bound(b:BP)(h:OkB b.bk)(i:Nat):∀ k,0≤leftK b.bk i k∧leftK b.bk i k≤121*121 ^ k
 | 0=>by have:=worstK_bound b.bk h.w3 i (linesL b.bk.words.toNat).length;simpa[leftK,worstB] using this
 | k+1=>by
  have ih:=leftK_bound b h i k
  have hl:=least_len b h k
  have hp:(0:Int)≤121 ^ k:=Int.pow_nonneg (by omega)
  rw[leftK_succ,Int.pow_succ]
  split
  ·omega
  ·refine⟨Int.mul_nonneg ih.1 (by omega),?_⟩
   rw[← Int.mul_assoc]
   exact Int.mul_le_mul ih.2 (by omega) (by omega) (by omega)
theorem outF_one(b:BP)(i wd:Nat)(hwd:b.words=wd)(w:List Int):(outF [SI.of w] (allL b i wd)).length=(leastW b.bk i w).length:=by
 have e:(fun l=>mF [SI.of w] (l,cost1 b.bk i l))=fun l=>cost1 b.bk i l+((lev l w:Nat):Int):=by funext l;simp[mF,SI.of]
 have e2:b.bk.words.toNat=wd:=by show b.words.toNat=wd;omega
 unfold outF allL leastW
 rw[leastL_map,e,e2,List.length_map,List.length_map]
theorem lost_len(b:BK)(n:Nat):∀ k,(lostK b n k).length≤k
 | 0=>Nat.le_refl _
 | k+1=>by
  have:=lost_len b n k
  rw[lostK_succ,List.length_append]
  unfold lost1
  split <;> simp <;> omega
theorem losts_len(b:BK)(h:lines1 b≤4):∀ n,(lostsK b n).length≤4*n
 | 0=>Nat.le_refl _
 | n+1=>by
  have:=losts_len b h n
  have:=lost_len b n (lines1 b)
  rw[lostsK_succ,List.length_append]
  omega
theorem c105(x o:T3)(st:St):Cl EE (.func 105 [] []) [.agg (enc3 x),.agg (enc3 o)] st (.ret (.bool (decide (x.2.2<o.2.2)))) st:=by
 refine cF2 pr105 fn105 (fun tm hl h0 h1=>?_)
 refine go2 (bw3 hl h0 h1) fnil ?_
 exact fQ hl
theorem c104(F:PV)(X:List T3)(hF:SlOf 3 enc3 F X)(h0:0<X.length)(hN:X.length<1000000)(st:St):ClR EE (.func 104 [] []) [F,.func 105 [] []] st (fun v st'=>∃ o,bestF (fun x y:T3=>decide (x.2.2<y.2.2)) X=some o∧v = .agg (enc3 o)∧st'=st) :=
 bestG pr104 fn104 (z:=[.int .i64 0,.int .i64 0,.int .i64 0]) rfl (fun _=>rfl) (fun _=>rfl) F X hF h0 hN 105 [] [] _ st (fun st' _ x _ o _=>c105 x o st') (fun o st1 h=>finish_flat h rfl)
set_option maxHeartbeats 8000000 in
theorem c55_yes(b:BP)(hN:SmB b)(h:OkB b.bk)(st:St):Cl EE (.func 55 [] []) [b.pv] st (.ret (match askB b.bk with
  | some x => .tuple [iv x.1,iv x.2.1,iv x.2.2,iv 0]
  | none => .tuple [iv 0,iv 0,iv 0,iv 5])) st:=by
 have h81:=c81 b hN
 have hA:=bookB_iff.2 h
 have hB:=b.h
 have hp0:=h.pos
 have hl1:=lines1_bk b hp0
 have hl4:=h.l4
 have hc5:=h.c5
 have hbl:b.bk.copies.length=b.cs.length:=by simp
 rw[hbl] at hc5
 obtain⟨wd,hwd⟩:∃ wd:Nat,b.words=wd:=⟨b.words.toNat,by have hw:OkW b.words:=h.okW;have:=hw.lo;omega⟩
 have hw3:wd≤3:=by have hw:OkW b.words:=h.okW;have:=hw.hi;omega
 have e2:b.bk.words.toNat=wd:=by show b.words.toNat=wd;omega
 have k87:=fun st=>c87 b st
 refine cF1 pr55 fn55 (fun tm hl h0=>?_)
 refine go2 (bw3 hl h0 hA) (bw h81 fnil) ?_
 refine wp_range (lines1 b.bk) [6] (fun k vs st'=>∃ v,vs=[v]∧OwnS st.heap.length st' 1 v k (((List.range k).map fun i=>((leastB b.bk i).length:Int)).flatMap encI)∧hp st' st.heap.length=some (.var [iv b.words,b.v])∧st.heap.length≤st'.lo∧st'.lo≤st'.heap.length) (by omega) (sG hl) (sG (bw hl hl1)) (sG hl) (by decide) ⟨_,(sG hl),.nil,(sG fnil),by simp only[lo_push];omega,by simp only[lo_push,len_push];omega⟩ ?_ ?_
 ·rintro k hk tm1 st1 ⟨v,hv,hO,d0,hlo,hwf⟩ hS hka
  replace hv:=mv1 hv
  have hlA:tm1.length=117:=lN hS hl;have j1:tg tm1 1 = .ptr st.heap.length 0:=tQ hS hl;clear hS
  refine go2 (bw4 hlA j1 hka d0) fnil ?_
  refine cR hlA (c91 b h k hk _) ?_
  rintro w s2 ⟨V,rfl,hR⟩
  have hVs:V.slen=some (leastB b.bk k).length:=sl_slen hR.1
  have hO2:=hO.hext hR.hext
  have d2:=hR.hp d0
  have z1:=hR.lo
  have z2:=hR.len
  refine go2 (bw3 hlA hv hVs) fnil ?_
  refine aP (bw hlA hv) (hO2.push) ?_
  intro v' s3 hO3 hF3 hk3
  have y1:=hF3.lo
  have y2:=hF3.up
  have y3:=hF3.len
  simp only[lo_push,len_push] at y1 y2 y3
  refine go2 hlA fnil ?_
  refine⟨v',(sG hlA),?_,hk3 _ _ (by rw[hp_push,if_neg (by have:=hp_lt d2;omega)];exact d2) (by simp),by omega,by omega⟩
  rw[List.range_succ,List.map_append,List.flatMap_append]
  simpa[share_int] using hO3
 ·rintro tm1 st1 ⟨C,hv,hO,d0,hlo,hwf⟩ hS
  replace hv:=mv1 hv
  have hlA:tm1.length=117:=lN hS hl;have j1:tg tm1 1 = .ptr st.heap.length 0:=tQ hS hl;clear hS
  have hC:SlOf 1 encI C ((List.range (lines1 b.bk)).map fun i=>((leastB b.bk i).length:Int)):=SlOf.of_sl hO.sl (by simp) rfl (fun _=>rfl)
  clear hO
  have hCs:=hC.slen
  rw[List.length_map,List.length_range] at hCs
  refine go2 (bw4 hlA j1 d0 hv) fnil ?_
  refine wp_range b.cs.length [10] (fun n vs st'=>∃ v,vs=[v]∧OwnS st.heap.length st' 3 v (lostsK b.bk n).length ((lostsK b.bk n).flatMap enc3)∧hp st' st.heap.length=some (.var [iv b.words,b.v])∧st.heap.length≤st'.lo∧st'.lo≤st'.heap.length) (by omega) (sG hlA) (sG hlA) (sG hlA) (by decide) ⟨_,(sG hlA),.nil,d0,hlo,hwf⟩ ?_ ?_
  ·rintro n hn tm2 st2 ⟨v,hv2,hO,d0,hlo,hwf⟩ hS hna
   replace hv2:=mv1 hv2
   have hlB:tm2.length=117:=lN hS hlA;have j1:tg tm2 1 = .ptr st.heap.length 0:=tQ hS (bw3 hlA j1 hv);have j6:tg tm2 6=C:=tQ hS (bw3 hlA j1 hv);have j48:tg tm2 48=b.v:=tQ hS (bw3 hlA j1 hv);clear hS
   have hCn:=b.cs[n].h
   have hlen:b.cs[n].ls.length=lines1 b.bk:=by
    have:=(h.all b.cs[n].c (List.mem_map.2 ⟨_,List.getElem_mem hn,rfl⟩)).1
    simpa using this
   refine go2 (bw3 hlB j48 hna) fnil ?_
   refine wp_range b.cs[n].ls.length [10] (fun i vs st'=>∃ v,vs=[v]∧OwnS st.heap.length st' 3 v (lostsK b.bk n++lostK b.bk n i).length ((lostsK b.bk n++lostK b.bk n i).flatMap enc3)∧hp st' st.heap.length=some (.var [iv b.words,b.v])∧st.heap.length≤st'.lo∧st'.lo≤st'.heap.length) (by omega) (sG hlB) (sG hlB) (sG hlB) (by decide) ⟨v,(sG (bw hlB hv2)),by simpa[lostK] using hO,d0,hlo,hwf⟩ ?_ ?_
   ·clear hO d0 hlo hwf hv2
    rintro i hi tm3 st3 ⟨v,hv3,hO,d0,hlo,hwf⟩ hS hia
    replace hv3:=mv1 hv3
    have hlC:tm3.length=117:=lN hS hlB;have j1:tg tm3 1 = .ptr st.heap.length 0:=tQ hS (bw3 hlB j1 j6);have j6:tg tm3 6=C:=tQ hS (bw3 hlB j1 j6);have j11:tg tm3 11=iv n:=tQ hS (bw3 hlB j1 j6);have j55:tg tm3 55=b.cs[n].v:=tQ hS (bw3 hlB j1 j6);clear hS
    have ld0:=hp_lt d0
    have hln:=lnAt_eq b hn hi
    have hO0:=own_new (z:=[.bool false,.nilslice]) (y:=[.bool b.cs[n].ls[i].lost,b.cs[n].ls[i].w]) hO
    cases hlost:b.cs[n].ls[i].lost
    ·rw[hlost] at hO0
     have hf1:lost1 b.bk n i=[]:=by rw[lost1,hln];simp[hlost]
     refine go2 (bw4 hlC j55 hia hlost) fnil ?_
     refine⟨v,(sG (bw hlC hv3)),?_,(sG (bw d0 (n4 ld0))),by simp only[lo_setVar,lo_push];omega,by simp only[lo_setVar,lo_push,len_setVar,len_push];omega⟩
     rw[lostK_succ,hf1,List.append_nil];exact hO0
    ·rw[hlost] at hO0
     have hf1:lost1 b.bk n i=[((n:Int),(i:Int),leftB b.bk i)]:=by rw[lost1,hln];simp[hlost]
     have hi':i<lines1 b.bk:=by omega
     refine go2 (bw7 hlC j1 j55 hia hlost d0 (n4 ld0)) fnil ?_
     refine cR hlC (c102 b h i wd hwd hi' _) ?_
     intro V s4 hR
     have hV:SlOf 2 encC V (allL b i wd):=hR.own_sl (fun _=>rfl)
     have hVc:=hV.cells
     have hVi:=hV.isCell
     obtain⟨hX,hX0⟩:=all_ok b h i wd hw3 hi'
     have hO4:=(own_var (l:=st3.heap.length+1) (y:=[iv 0]) (o := .var [iv 0]) (hO0.push (o := .var [iv 0])) (sG fnil)).hext hR.hext
     have e0:hp s4 st.heap.length=some (.var [iv b.words,b.v]):=hR.hp (sG (bw d0 (n4 ld0)))
     have e15:hp s4 (st3.heap.length+1)=some (.var [iv 0]):=hR.hp (sG fnil)
     have z1:=hR.lo
     have z2:=hR.len
     simp only[lo_push,len_push,lo_setVar,len_setVar] at z1 z2
     have le0:=hp_lt e0
     have le15:=hp_lt e15
     refine go2 (bw6 hlC j1 hVc hVi e0 (n4 le0)) (bw k87 fnil) ?_
     apply wp_block
     obtain⟨r1,r2⟩:=((own_new (z:=[.nilslice]) (y:=[V]) hO4).push (o := .var [iv b.words,b.v])).p
     refine wp_rangeV (X:=linesL wd) (Rep:=RepL) (priv:=fun l=>l=s4.heap.length+1) [st3.heap.length+1] st.heap.length (fun k L=>L=[(st.heap.length,.var [iv b.words,b.v]),(st3.heap.length+1,.var [iv (worstK b.bk i k)]),(s4.heap.length,.var [V])]++tagL v) (fun _ _=>False) (sG hlC) (fun o=>iter138 (V:=b.v) (by omega) (sG hwd)) (sG hlC) (fun l hl=>by simp only[List.mem_singleton,len_push,len_setVar];omega) (fun l hl=>by simp only[List.mem_singleton] at hl;simp only[len_push,len_setVar];omega) (by simp only[lo_push,lo_setVar];omega) (by simp only[lo_push,len_push,lo_setVar,len_setVar];omega) ⟨_,.app (.cons (sG (bw e0 (n4 le0))) rfl (.cons (sR (bw e15 (n4 le15))) rfl (.cons (sG fnil) rfl (.nil _)))) r2,rfl⟩ ?_ ?_ ?_
     ·rintro k hk x s5 L hx hH' rfl he5 hw5 hlt5
      have hH:Has s5.heap ([(st.heap.length,.var [iv b.words,b.v]),(st3.heap.length+1,.var [iv (worstK b.bk i k)]),(s4.heap.length,.var [V])]++tagL v):=hH'
      have f15:=hH.left.hp (l:=st3.heap.length+1) (o := .var [iv (worstK b.bk i k)]) (by simp)
      have f16:=hH.left.hp (l:=s4.heap.length) (o := .var [V]) (by simp)
      have hxm:=mem_lines.1 (List.getElem_mem hk)
      have hxc:=hx.1.cells
      have hsh:=hx.2
      have kc:=c103 V (.slice (.tag s5.heap.length 1) 1 [elL (linesL wd)[k]]) (allL b i wd) [SI.of (linesL wd)[k]] hV ⟨rfl,fun _ _=>rfl⟩ hX ⟨by simp,fun a ha=>by rw[List.mem_singleton.1 ha];exact hxm.1⟩ hX0 (s5.push (.tag true))
      rw[outF_one b i wd hwd] at kc
      refine go2 (bw4 hlC f16 hxc hsh) fnil ?_
      refine cR (bw hlC hsh) (kc) ?_
      rintro q s6 ⟨u,rfl,hR6⟩
      have hus:u.slen=some (leastW b.bk i (linesL wd)[k]).length:=sl_slen hR6.1
      have g15:hp s6 (st3.heap.length+1)=some (.var [iv (worstK b.bk i k)]):=hR6.hp (by rw[hp_push,if_neg (by have:=hp_lt f15;omega)];exact f15)
      have lg15:=hp_lt g15
      have y1:=hR6.lo
      have y2:=hR6.len
      simp only[lo_push,len_push] at y1 y2
      have hH6:Has s6.heap ([(st.heap.length,.var [iv b.words,b.v]),(st3.heap.length+1,.var [iv (worstK b.bk i k)]),(s4.heap.length,.var [V])]++tagL v):=(hH.ext (.push _ _)).ext hR6.hext
      have k0:KeepV (fun l=>l∈[st3.heap.length+1]) s5.heap s6.heap:=((KeepV.refl _ _).kpush).kext hR6.hext
      have hws:=worstK_succ (b:=b.bk) (i:=i) (k:=k) (by rw[e2];exact hk)
      simp only[e2] at hws
      refine go2 (bw5 hlC g15 hus @mm2 (n4 lg15)) fnil ?_
      refine⟨k0.kset (.inl (by simp)),by rw[lo_setVar];omega,by rw[lo_setVar,len_setVar];omega,trivial,_,?_,rfl⟩
      refine .app (.cons (by rw[hp_setVar,if_neg (by omega)];exact hH6.left.hp (by simp)) rfl (.cons (by rw[hp_setVar,if_pos rfl,if_pos lg15,hws]) rfl (.cons (by rw[hp_setVar,if_neg (by omega)];exact hH6.left.hp (by simp)) rfl (.nil _)))) ?_
      exact has_tag_set hH6.right g15
     ·rintro s5 L hH' rfl k5 he5 hw5
      have hH:Has s5.heap ([(st.heap.length,.var [iv b.words,b.v]),(st3.heap.length+1,.var [iv (worstK b.bk i (linesL wd).length)]),(s4.heap.length,.var [V])]++tagL v):=hH'
      have f0:=hH.left.hp (l:=st.heap.length) (o := .var [iv b.words,b.v]) (by simp)
      have f15:=hH.left.hp (l:=st3.heap.length+1) (o := .var [iv (worstK b.bk i (linesL wd).length)]) (by simp)
      have hO5:=r1.own hH.right
      have hwb:worstK b.bk i (linesL wd).length=leftK b.bk i 0:=by simp[leftK,worstB,e2]
      rw[hwb] at f15
      apply inBlock_normal
      refine go2 (bw3 hlC j6 hCs) fnil ?_
      refine wp_range (lines1 b.bk) [] (fun q vs s'=>hp s' (st3.heap.length+1)=some (.var [iv (leftK b.bk i q)])∧OwnS st.heap.length s' 3 v (lostsK b.bk n++lostK b.bk n i).length ((lostsK b.bk n++lostK b.bk n i).flatMap enc3)∧hp s' st.heap.length=some (.var [iv b.words,b.v])∧st.heap.length≤s'.lo∧s'.lo≤s'.heap.length) (by omega) (sG hlC) (sG hlC) (sG hlC) (by decide) ⟨f15,hO5,f0,he5,hw5⟩ ?_ ?_
      ·clear hO5 f0 f15 he5 hw5
       rintro q hq tm5 s6 ⟨f15,hO6,f0,he6,hw6⟩ hS hqa
       have hlD:tm5.length=117:=lN hS hlC;have j13:tg tm5 13=iv i:=tQ hS hlC;have j15:tg tm5 15 = .ptr (st3.heap.length+1) 0:=tQ hS hlC;have j83:tg tm5 83=C:=tQ hS hlC;clear hS
       have lf15:=hp_lt f15
       have hqc:((List.range (lines1 b.bk)).map fun i=>((leastB b.bk i).length:Int))[q]'(by simp;omega)=((leastB b.bk q).length:Int):=by simp
       have hb:=leftK_bound b h i (q+1)
       have hb4:(121:Int)*121 ^ (q+1)≤121*121 ^ 4:=by
        have:q+1=1∨q+1=2∨q+1=3∨q+1=4:=by omega
        rcases this with h|h|h|h <;> rw[h] <;> decide
       have hks:=leftK_succ b.bk i q
       have hql:q<((List.range (lines1 b.bk)).map fun i=>((leastB b.bk i).length:Int)).length:=by simp;omega
       by_cases hqi:q=i
       ·have hbe:((q:Int) != (i:Int))=false:=by simp[hqi]
        rw[if_pos hqi] at hks
        refine go2 (bw7 hlD j13 j15 j83 hqa hqc hbe) fnil ?_
        exact⟨by rw[hks];exact f15,hO6,f0,he6,hw6⟩
       ·have hbe:((q:Int) != (i:Int))=true:=by simp;omega
        rw[if_neg hqi] at hks
        rw[hks] at hb
        have hw:=wrap_in (n:=leftK b.bk i q*((leastB b.bk q).length:Int)) (by unfold inI;omega)
        refine go2 (bw10 hlD j13 j15 j83 hqa hqc hbe f15 hw (n4 lf15)) fnil ?_
        exact⟨by rw[hp_setVar,if_pos rfl,if_pos lf15,hks],own_var hO6 f15,by rw[hp_setVar,if_neg (by omega)];exact f0,by rw[lo_setVar];omega,by rw[lo_setVar,len_setVar];omega⟩
      ·clear hO5 f0 f15 he5 hw5
       rintro tm5 s6 ⟨f15,hO6,f0,he6,hw6⟩ hS
       have hlD:tm5.length=117:=lN hS hlC;have j10:tg tm5 10=v:=tQ hS (bw3 hlC hv3 j11);have j11':tg tm5 11=iv n:=tQ hS (bw3 hlC hv3 j11);have j13:tg tm5 13=iv i:=tQ hS (bw3 hlC hv3 j11);have j15:tg tm5 15 = .ptr (st3.heap.length+1) 0:=tQ hS (bw3 hlC hv3 j11);clear hS
       have lf15:=hp_lt f15
       have hl8:=losts_len b.bk hl4 n
       have hl9:=lost_len b.bk n i
       have hl10:(lostsK b.bk n++lostK b.bk n i).length≤100:=by rw[List.length_append];omega
       refine go2 (bw6 hlD j10 j11' j13 j15 f15) fnil ?_
       refine aP (bw hlD j10) (hO6.push) ?_
       intro v' s7 hO7 hF7 hk7
       have x1:=hF7.lo
       have x2:=hF7.up
       have x3:=hF7.len
       simp only[lo_push,len_push] at x1 x2 x3
       refine go2 hlD fnil ?_
       refine⟨v',(sG hlD),?_,hk7 _ _ (by rw[hp_push,if_neg (by have:=hp_lt f0;omega)];exact f0) (by simp),by omega,by omega⟩
       rw[lostK_succ,hf1,← List.append_assoc,List.flatMap_append,List.length_append]
       simpa[share_int,leftB] using hO7
     ·intro j st' L _ h
      exact h.elim
   ·rintro tm3 st3 ⟨v,hv3,hO,d0,hlo,hwf⟩ hS
    replace hv3:=mv1 hv3
    have hlC:tm3.length=117:=by rw[hS.1];simp only[↓reduceIte,go_sem,hlB]
    refine go2 hlC fnil ?_
    rw[hlen] at hO
    exact⟨v,(sG (bw hlC hv3)),by rw[lostsK_succ];exact hO,d0,hlo,hwf⟩
  ·rintro tm2 st2 ⟨v,hv2,hO,d0,hlo,hwf⟩ hS
   replace hv2:=mv1 hv2
   have hlB:tm2.length=117:=by rw[hS.1];simp only[↓reduceIte,go_sem,hlA]
   have hvs:=sl_slen hO.sl
   have hask:askB b.bk=bestF (fun x y:T3=>decide (x.2.2<y.2.2)) (lostsK b.bk b.cs.length):=by rw[← hbl];rfl
   have hll:=losts_len b.bk hl4 b.cs.length
   have hVs:SlOf 3 enc3 v (lostsK b.bk b.cs.length):=SlOf.of_sl hO.sl rfl rfl (fun _=>rfl)
   rcases Nat.eq_zero_or_pos (lostsK b.bk b.cs.length).length with hz|hz
   ·have hbe:(((lostsK b.bk b.cs.length).length:Int)==0)=true:=by simp[hz]
    rw[hask,List.eq_nil_of_length_eq_zero hz]
    refine go2 (bw4 hlB hv2 hvs hbe) fnil ?_
    exact fY hlB
   ·have hbe:(((lostsK b.bk b.cs.length).length:Int)==0)=false:=by rw[beq_eq_false_iff_ne];omega
    refine go2 (bw4 hlB hv2 hvs hbe) fnil ?_
    refine cR (bw hlB hv2) (c104 v (lostsK b.bk b.cs.length) hVs hz (by omega) _) ?_
    rintro w s3 ⟨o,ho,rfl,rfl⟩
    rw[hask,ho]
    have lo2:s3.lo≤s3.heap.length:=hwf
    refine go2 hlB fnil ?_
    exact fY hlB
end Go.Den.Ve
end
section
namespace Go.Den.Ve
def tookL (fs:List (List Int)) (c:List LN) (k:Nat):List Int:=(List.range k).flatMap fun i=>if (c.getD i ⟨true,[]⟩).lost then [] else [((lev (fs.getD i []) (c.getD i ⟨true,[]⟩).words:Nat):Int)]
theorem tookL_succ(fs:List (List Int))(c:List LN)(k:Nat):tookL fs c (k+1)=tookL fs c k++if (c.getD k ⟨true,[]⟩).lost then [] else [((lev (fs.getD k []) (c.getD k ⟨true,[]⟩).words:Nat):Int)]:=by simp[tookL,List.range_succ]
theorem tookL_len(fs:List (List Int))(c:List LN):∀ k,(tookL fs c k).length≤k
 | 0=>Nat.le_refl _
 | k+1=>by
  have:=tookL_len fs c k
  rw[tookL_succ,List.length_append]
  split <;> simp <;> omega
theorem took_sum(fs:List (List Int))(c:List LN):∀ k,(tookL fs c k).sum=((List.range k).map fun i=>takenI (fs.getD i []) (c.getD i ⟨true,[]⟩)).sum
 | 0=>rfl
 | k+1=>by
  rw[tookL_succ,List.range_succ,List.map_append,List.sum_append_int,List.sum_append_int,took_sum fs c k]
  unfold takenI
  split <;> simp_all
theorem took_in{fs:List (List Int)}{c:List LN}(h:∀ l∈fs,l.length≤4)(h':∀ x∈c,x.words.length≤4){k:Nat}(hk:k≤c.length):∀ x∈tookL fs c k,0≤x∧x≤4:=fun x hx=>by
 obtain⟨i,hi,hx⟩:=List.mem_flatMap.1 hx
 have hi:=List.mem_range.1 hi
 split at hx
 ·cases hx
 ·rw[List.mem_singleton.1 hx]
  have h1:=lev_max (fs.getD i []) (c.getD i ⟨true,[]⟩).words
  have h2:(fs.getD i []).length≤4:=by
   by_cases e:i<fs.length
   ·rw[List.getD_eq_getElem?_getD,List.getElem?_eq_getElem e];exact h _ (List.getElem_mem e)
   ·rw[List.getD_eq_getElem?_getD,List.getElem?_eq_none (by omega)];simp
  have h3:(c.getD i ⟨true,[]⟩).words.length≤4:=by
   rw[List.getD_eq_getElem?_getD,List.getElem?_eq_getElem (by omega)];exact h' _ (List.getElem_mem _)
  omega
set_option maxHeartbeats 4000000 in
theorem c108(F:PV)(fs:List SI)(hF:SlOf 1 encSI F fs)(c:CP)(hfl:c.ls.length≤fs.length)(h4:c.ls.length≤4)(hf4:∀ x∈fs,x.l.length≤4)(hc4:∀ x∈c.ls,x.l.length≤4)(st:St):Cl EE (.func 108 [] []) [F,c.v] st (.ret (iv (copiedI (fs.map SI.l) c.c))) st:=by
 have hC:=c.h
 refine cF2 pr108 fn108 (fun tm hl h0 h1=>?_)
 refine go2 (bw3 hl h0 h1) fnil ?_
 refine wp_range c.ls.length [5] (fun k vs st'=>∃ v,vs=[v]∧OwnS st.heap.length st' 1 v (tookL (fs.map SI.l) c.c k).length ((tookL (fs.map SI.l) c.c k).flatMap encI)∧st.heap.length≤st'.lo∧st'.lo≤st'.heap.length) (by omega) (sG hl) (sG hl) (sG hl) (by decide) ⟨_,(sG hl),.nil,by show st.heap.length≤st.heap.length;omega,Nat.le_refl _⟩ ?_ ?_
 ·rintro k hk tm1 st1 ⟨v,hv,hO,hlo,hwf⟩ hS hka
  replace hv:=mv1 hv
  have hl1:tm1.length=31:=lN hS hl;have j0:tg tm1 0=F:=tQ hS (bw hl h0);have j8:tg tm1 8=c.v:=tQ hS (bw hl h0);clear hS
  have hkf:k<fs.length:=by omega
  have ec:c.c.getD k ⟨true,[]⟩=c.ls[k].ln:=by rw[List.getD_eq_getElem?_getD,List.getElem?_map,List.getElem?_eq_getElem hk];rfl
  have ef:(fs.map SI.l).getD k []=fs[k].l:=by rw[List.getD_eq_getElem?_getD,List.getElem?_map,List.getElem?_eq_getElem hkf];rfl
  have hs:=tookL_succ (fs.map SI.l) c.c k
  have hlt:=tookL_len (fs.map SI.l) c.c k
  rw[ec,ef] at hs
  have hO0:=own_new (z:=[.bool false,.nilslice]) (y:=[.bool c.ls[k].lost,c.ls[k].w]) hO
  cases hlost:c.ls[k].lost
  rotate_left
  ·rw[hlost] at hO0
   rw[if_pos hlost,List.append_nil] at hs
   refine go2 (bw5 hl1 j0 j8 hka hlost) fnil ?_
   refine⟨v,(sG (bw hl1 hv)),?_,by simp only[lo_setVar,lo_push];omega,by simp only[lo_setVar,lo_push,len_setVar,len_push];omega⟩
   rw[hs];exact hO0
  ·rw[hlost] at hO0
   rw[if_neg (by simp[hlost])] at hs
   have kc:=fun st=>c83 fs[k].v c.ls[k].w fs[k].l c.ls[k].l fs[k].h c.ls[k].h (hf4 _ (List.getElem_mem _)) (hc4 _ (List.getElem_mem _)) st
   refine go2 (bw5 hl1 j0 j8 hka hlost) (bw kc fnil) ?_
   refine wopsD_append (by simp only[lo_push,len_push,lo_setVar,len_setVar];omega) rfl rfl (sR (bw hl1 hv)) (sR hl1) hO0.push rfl (by simp only[len_push,len_setVar];omega) (by rfl) (by rfl) (by simp only[maxList];omega) ?_
   intro v' s3 ft hO3 hF3 hk3
   have z1:=hF3.lo
   have z2:=hF3.up
   have z3:=hF3.len
   simp only[lo_push,len_push,lo_setVar,len_setVar] at z1 z2 z3
   refine go2 hl1 fnil ?_
   refine⟨v',(sG hl1),?_,by omega,by omega⟩
   rw[hs,List.flatMap_append,List.length_append]
   simpa[share_int] using hO3
 ·rintro tm1 st1 ⟨v,hv,hO,hlo,hwf⟩ hS
  replace hv:=mv1 hv
  have hl1:tm1.length=31:=by rw[hS.1];simp only[↓reduceIte,go_sem,hl]
  have hlt:=tookL_len (fs.map SI.l) c.c c.ls.length
  have hti:=took_in (fs:=fs.map SI.l) (c:=c.c) (fun l hl=>by obtain⟨x,hx,rfl⟩:=List.mem_map.1 hl;exact hf4 x hx) (fun l hl=>by obtain⟨x,hx,rfl⟩:=List.mem_map.1 hl;exact hc4 x hx) (k:=c.ls.length) (by simp)
  have ks:=fun st=>c88 v (tookL (fs.map SI.l) c.c c.ls.length) (SlOf.of_sl hO.sl rfl rfl (fun _=>rfl)) (by omega) (fun x hx=>by have:=hti x hx;omega) st
  have e:(tookL (fs.map SI.l) c.c c.ls.length).sum=copiedI (fs.map SI.l) c.c:=by rw[took_sum];simp[copiedI]
  rw[e] at ks
  refine go2 (bw hl1 hv) (bw ks fnil) ?_
  exact fQ hl1
def LP.si (x:LP):SI:=⟨x.w.share,x.l,x.h.share⟩
set_option maxHeartbeats 4000000 in
theorem c110(c:CP)(h4:c.ls.length≤4)(st:St):ClR EE (.func 110 [] []) [c.v] st (RetW st (c.ls.map LP.si).length ((c.ls.map LP.si).flatMap encSI)):=by
 have hC:=c.h
 refine cG1 pr110 fn110 (fun tm hl h0=>?_)
 refine go2 (bw hl h0) fnil ?_
 refine wp_range c.ls.length [3] (fun k vs st'=>∃ v,vs=[v]∧OwnS st.heap.length st' 1 v k (((c.ls.take k).map LP.si).flatMap encSI)∧st.heap.length≤st'.lo∧st'.lo≤st'.heap.length) (by omega) (sG hl) (sG hl) (sG hl) (by decide) ⟨_,(sG hl),.nil,by show st.heap.length≤st.heap.length;omega,Nat.le_refl _⟩ ?_ ?_
 ·rintro k hk tm1 st1 ⟨v,hv,hO,hlo,hwf⟩ hS hka
  replace hv:=mv1 hv
  have hl1:tm1.length=19:=lN hS hl;have j6:tg tm1 6=c.v:=tQ hS hl;clear hS
  have hO0:=own_new (z:=[.bool false,.nilslice]) (y:=[.bool c.ls[k].lost,c.ls[k].w]) hO
  refine go2 (bw3 hl1 j6 hka) fnil ?_
  refine wops_append rfl rfl (sR (bw hl1 hv)) (sR hl1) hO0.push rfl (by simp only[len_push,len_setVar];omega) (by rfl) (by simp only[List.all_cons,List.all_nil,share_isCell,LP.isCell,Bool.and_true]) (by simp only[maxList];omega) ?_
  intro v' s3 hO3 hF3 hk3
  have z1:=hF3.lo
  have z2:=hF3.up
  have z3:=hF3.len
  simp only[lo_push,len_push,lo_setVar,len_setVar] at z1 z2 z3
  refine go2 hl1 fnil ?_
  refine⟨v',(sG hl1),?_,by omega,by omega⟩
  rw[List.take_succ_eq_append_getElem hk,List.map_append,List.flatMap_append]
  simpa[share_share,LP.si] using hO3
 ·rintro tm1 st1 ⟨v,hv,hO,hlo,hwf⟩ hS
  replace hv:=mv1 hv
  have hl1:tm1.length=19:=by rw[hS.1];simp only[↓reduceIte,go_sem,hl]
  refine go2 (bw hl1 hv) fnil ?_
  refine fX (v) (bw hl1 hv) ?_
  rw[List.take_length] at hO
  rw[List.length_map]
  exact finish_sl hO.sl hlo (si_low _ fun x hx m=>by obtain⟨y,_,rfl⟩:=List.mem_map.1 hx;exact share_low y.h m)
end Go.Den.Ve
end
section
namespace Go.Den.Ve
theorem _root_.Go.Den.RetW.fr{st st':St}{n m:Nat}{cs:List PV}{v:PV}(h:RetW st n cs v st')(hm:m≤st.heap.length):Fr m st st':=by
 rcases h.2 with rfl|rfl
 ·exact .refl _ _
 ·exact (Fr.refl _ _).push hm
def rowI (b:BK) (t:List (List Int)) (k:Nat):List Int:=copiedI t (b.copies.getD k [])::b.copies.map fun c=>copiedI (linesW c) (b.copies.getD k [])
def tableI (b:BK) (t:List (List Int)) (k:Nat):List (List Int):=(List.range k).map (rowI b t)
theorem tableI_succ(b:BK)(t:List (List Int))(k:Nat):tableI b t (k+1)=tableI b t k++[rowI b t k]:=by simp[tableI,List.range_succ]
theorem CP.len4{b:BP}(h:OkB b.bk){c:CP}(hc:c∈b.cs):c.ls.length=lines1 b.bk∧∀ x∈c.ls,x.l.length≤4:=by
 have h1:=h.all c.c (List.mem_map.2 ⟨c,hc,rfl⟩)
 refine⟨by have:=h1.1;simpa using this,fun x hx=>(lineB_iff.1 (h1.2 x.ln (List.mem_map.2 ⟨x,hx,rfl⟩)).1).1⟩
set_option maxHeartbeats 8000000 in
theorem c117(b:BP)(h:OkB b.bk)(T:PV)(t:List SI)(hT:SlOf 1 encSI T t)(htl:t.length=lines1 b.bk)(ht4:∀ x∈t,x.l.length≤4)(st:St):ClR EE (.func 117 [] []) [b.pv,T] st (RetW st b.cs.length ((tableI b.bk (t.map SI.l) b.cs.length).flatMap encL)):=by
 have hB:=b.h
 have hl4:=h.l4
 have hc5:b.cs.length≤5:=by have:=h.c5;simpa using this
 have hp0:=h.pos
 have hbl:b.bk.copies.length=b.cs.length:=by simp
 refine cG2 pr117 fn117 (fun tm hl h0 h1=>?_)
 refine go2 (bw3 hl h0 h1) fnil ?_
 refine wp_range b.cs.length [5] (fun k vs st'=>∃ v,vs=[v]∧OwnS st.heap.length st' 1 v k ((tableI b.bk (t.map SI.l) k).flatMap encL)∧hp st' st.heap.length=some (.var [iv b.words,b.v])∧st.heap.length≤st'.lo∧st'.lo≤st'.heap.length) (by omega) (sG hl) (sG hl) (sG hl) (by decide) ⟨_,(sG hl),.nil,(sG fnil),by simp only[lo_push];omega,by simp only[lo_push,len_push];omega⟩ ?_ ?_
 ·rintro k hk tm1 st1 ⟨v,hv,hO,d0,hlo,hwf⟩ hS hka
  replace hv:=mv1 hv
  have hl1:tm1.length=43:=lN hS hl;have j1:tg tm1 1=T:=tQ hS (bw hl h1);have j2:tg tm1 2 = .ptr st.heap.length 0:=tQ hS (bw hl h1);have j12:tg tm1 12=b.v:=tQ hS (bw hl h1);clear hS
  have ld0:=hp_lt d0
  have hck:=CP.len4 h (List.getElem_mem hk)
  have eck:b.bk.copies.getD k []=b.cs[k].c:=by rw[List.getD_eq_getElem?_getD];simp[hk]
  have kc:=fun st=>c108 T t hT b.cs[k] (by omega) (by omega) ht4 hck.2 st
  refine go2 (bw7 hl1 j1 j2 j12 hka d0 (n4 ld0)) (bw kc fnil) ?_
  refine wp_range b.cs.length [8] (fun q vs s'=>∃ x,vs=[x]∧OwnS st1.heap.length s' 1 x (q+1) ((copiedI (t.map SI.l) b.cs[k].c::(b.bk.copies.take q).map fun c=>copiedI (linesW c) b.cs[k].c).flatMap encI)∧Fr st1.heap.length st1 s'∧s'.lo≤s'.heap.length) (by omega) (sG hl1) (sG hl1) (sG hl1) (by decide) ⟨_,(sR hl1),⟨rfl,.inr ⟨_,rfl,Nat.le_refl _,(sG fnil)⟩⟩,(Fr.refl _ _).push (Nat.le_refl _),by simp only[lo_push,len_push];omega⟩ ?_ ?_
  ·rintro q hq tm2 s2 ⟨x,hx,hX,hF,hw2⟩ hS2 hqa
   replace hx:=mv1 hx
   have hl2:tm2.length=43:=lN hS2 hl1;have k7:tg tm2 7=b.cs[k].v:=tQ hS2 hl1;have k23:tg tm2 23=b.v:=tQ hS2 hl1;clear hS2
   have hcq:=CP.len4 h (List.getElem_mem hq)
   have hFl:=hF.len
   refine go2 (bw3 hl2 k23 hqa) fnil ?_
   refine cR hl2 (c110 b.cs[q] (by omega) _) ?_
   intro V s3 hR
   have hV:SlOf 1 encSI V (b.cs[q].ls.map LP.si):=hR.own_sl (fun _=>rfl)
   have hX3:=hX.hext hR.hext
   have kd:=fun st=>c108 V (b.cs[q].ls.map LP.si) hV b.cs[k] (by rw[List.length_map];omega) (by omega) (fun y hy=>by obtain⟨z,hz,rfl⟩:=List.mem_map.1 hy;exact hcq.2 z hz) hck.2 st
   have em:(b.cs[q].ls.map LP.si).map SI.l=linesW b.cs[q].c:=by simp[linesW,LP.si,Function.comp_def]
   rw[em] at kd
   have z1:=hR.lo
   have z2:=hR.len
   refine go2 (bw3 hl2 k7 hx) (bw kd fnil) ?_
   refine aP (bw hl2 hx) (hX3.push) ?_
   intro x' s4 hX4 hF4 hk4
   have y1:=hF4.up
   have y2:=hF4.len
   simp only[lo_push,len_push] at y1 y2
   have hF5:Fr st1.heap.length st1 s4:=((hF.trans (hR.fr hFl)).push (by omega)).trans hF4
   refine go2 hl2 fnil ?_
   refine⟨x',(sG hl2),?_,hF5,by omega⟩
   rw[List.take_succ_eq_append_getElem (by omega),List.map_append,← List.cons_append,List.flatMap_append]
   simpa[share_int] using hX4
  ·rintro tm2 s2 ⟨x,hx,hX,hF,hw2⟩ hS2
   replace hx:=mv1 hx
   have hl2:tm2.length=43:=lN hS2 hl1;have k5:tg tm2 5=v:=tQ hS2 (bw hl1 hv);clear hS2
   have hFl:=hF.len
   have hFlo:=hF.lo
   rw[← hbl,List.take_length] at hX
   have er:(copiedI (t.map SI.l) b.cs[k].c::b.bk.copies.map fun c=>copiedI (linesW c) b.cs[k].c)=rowI b.bk (t.map SI.l) k:=by rw[rowI,eck]
   rw[er] at hX
   have hsh:x.share=elL (rowI b.bk (t.map SI.l) k):=share_own hX (by simp[rowI]) rfl (by simp[rowI])
   have hxc:x.cells=[x]:=(SlOf.of_sl hX.sl (by simp[rowI]) rfl (fun _=>rfl):SlOf 1 encI x (rowI b.bk (t.map SI.l) k)).cells
   have hO2:=hO.frame hF (Nat.le_refl _)
   have d2:=hF.hp d0 (Nat.le_refl _)
   have ld2:=hp_lt d2
   refine go2 (bw5 hl2 k5 hx hsh hxc) fnil ?_
   refine wops_append rfl rfl (sR (bw hl2 k5)) (sR hl2) hO2.push rfl (by simp only[len_push];omega) (by rfl) (by simp only[List.all_cons,List.all_nil,el_isCell,Bool.and_true]) (by simp only[maxList];omega) ?_
   intro v' s3 hO3 hF3 hk3
   have z1:=hF3.lo
   have z2:=hF3.up
   have z3:=hF3.len
   simp only[lo_push,len_push] at z1 z2 z3
   refine go2 hl2 fnil ?_
   refine⟨v',(sG hl2),?_,hk3 _ _ (by rw[hp_push,if_neg (by omega)];exact d2) (by simp),by omega,by omega⟩
   rw[tableI_succ,List.flatMap_append,List.flatMap_singleton]
   simpa[el_share] using hO3
 ·rintro tm1 st1 ⟨v,hv,hO,d0,hlo,hwf⟩ hS
  replace hv:=mv1 hv
  have hl1:tm1.length=43:=by rw[hS.1];simp only[↓reduceIte,go_sem,hl]
  refine go2 (bw hl1 hv) fnil ?_
  refine fX (v) (bw hl1 hv) ?_
  exact finish_sl hO.sl hlo (fun m=>lowL_of fun c hc=>encL_low _ _ _ hc)
theorem c116(F:PV)(rows:List (List Int))(hF:SlOf 1 encL F rows)(P:PV)(tr:List Int)(hP:SlOf 1 encI P tr)(hN:tr.length≤1000)(hle:tr.length≤rows.length)(hi:∀ i,∀ h:i<tr.length,-1≤tr[i]∧tr[i]+1<(rows[i]'(by omega)).length)(hr:rows.length≤1000)(hrl:∀ r∈rows,r.length≤1000∧∀ x∈r,0≤x∧x≤1000)(st:St):Cl EE (.func 116 [] []) [F,P] st (.ret (iv ((List.range tr.length).map fun i=>(rows.getD i []).getD (tr.getD i 0+1).toNat 0).sum)) st:=by
 have hPs:=hP.slen
 refine cF2 pr116 fn116 (fun tm hl h0 h1=>?_)
 refine go2 (bw4 hl h0 h1 hPs) fnil ?_
 refine wp_range tr.length [5] (fun k vs st'=>∃ v,vs=[v]∧OwnS st.heap.length st' 1 v k (((List.range k).map fun i=>(rows.getD i []).getD (tr.getD i 0+1).toNat 0).flatMap encI)∧st.heap.length≤st'.lo∧st'.lo≤st'.heap.length) (by omega) (sG hl) (sG hl) (sG hl) (by decide) ⟨_,(sG hl),.nil,by show st.heap.length≤st.heap.length;omega,Nat.le_refl _⟩ ?_ ?_
 ·rintro k hk tm1 st1 ⟨v,hv,hO,hlo,hwf⟩ hS hka
  replace hv:=mv1 hv
  have hl1:tm1.length=29:=lN hS hl;have j0:tg tm1 0=F:=tQ hS (bw hl h0);have j8:tg tm1 8=P:=tQ hS (bw hl h0);clear hS
  have hkr:k<rows.length:=by omega
  have hik:=hi k hk
  have hrk:=hrl _ (List.getElem_mem hkr)
  obtain⟨m,hm⟩:∃ m:Nat,tr[k]+1=(m:Int):=⟨(tr[k]+1).toNat,by omega⟩
  have hw:IntKind.wrap .i64 (tr[k]+1)=(m:Int):=by rw[wrap_in (by unfold inI;omega),hm]
  have hml:m<rows[k].length:=by omega
  have hE:=el_sl rows[k]
  have e1:(rows.getD k []).getD (tr.getD k 0+1).toNat 0=rows[k][m]:=by
   have q1:rows.getD k []=rows[k]:=by rw[List.getD_eq_getElem?_getD,List.getElem?_eq_getElem hkr];rfl
   have q2:tr.getD k 0=tr[k]:=by rw[List.getD_eq_getElem?_getD,List.getElem?_eq_getElem hk];rfl
   rw[q1,q2,hm,Int.toNat_natCast,List.getD_eq_getElem?_getD,List.getElem?_eq_getElem hml];rfl
  refine go2 (bw5 hl1 j0 j8 hka hw) fnil ?_
  refine aP (bw hl1 hv) (hO.push) ?_
  intro v' s3 hO3 hF3 hk3
  have y1:=hF3.lo
  have y2:=hF3.up
  have y3:=hF3.len
  simp only[lo_push,len_push] at y1 y2 y3
  refine go2 hl1 fnil ?_
  refine⟨v',(sG hl1),?_,by omega,by omega⟩
  rw[List.range_succ,List.map_append,List.flatMap_append,List.map_singleton,e1]
  simpa[share_int] using hO3
 ·rintro tm1 st1 ⟨v,hv,hO,hlo,hwf⟩ hS
  replace hv:=mv1 hv
  have hl1:tm1.length=29:=by rw[hS.1];simp only[↓reduceIte,go_sem,hl]
  have ks:=fun st=>c88 v ((List.range tr.length).map fun i=>(rows.getD i []).getD (tr.getD i 0+1).toNat 0) (SlOf.of_sl hO.sl (by simp) rfl (fun _=>rfl)) (by simp;omega) (fun x hx=>by
   obtain⟨y,hy,rfl⟩:=List.mem_map.1 hx
   generalize (tr.getD y 0+1).toNat=m
   by_cases e:m<(rows.getD y []).length
   ·have e2:y<rows.length:=by have:=List.mem_range.1 hy;omega
    have q1:rows.getD y []=rows[y]:=by rw[List.getD_eq_getElem?_getD,List.getElem?_eq_getElem e2];rfl
    rw[q1] at e ⊢
    rw[List.getD_eq_getElem?_getD,List.getElem?_eq_getElem e]
    exact (hrl _ (List.getElem_mem e2)).2 _ (List.getElem_mem e)
   ·rw[List.getD_eq_getElem?_getD,List.getElem?_eq_none (by omega)]
    simp) st
  refine go2 (bw hl1 hv) (bw ks fnil) ?_
  exact fQ hl1
end Go.Den.Ve
end
section
namespace Go.Den.Ve
theorem climb_snoc(tree:List Int):∀ (k:Nat) (x:Int),climbL tree (k+1) x=if 0≤climbL tree k x then tree.getD (climbL tree k x).toNat 0 else climbL tree k x
 | 0,x=>by simp[climbL]
 | k+1,x=>by
  have ih:=climb_snoc tree k (if 0≤x then tree.getD x.toNat 0 else x)
  rw[climbL,ih]
  rfl
theorem climb_in{tree:List Int}{n:Nat}(hn:tree.length=n)(h:∀ x∈tree,-1≤x∧x<n):∀ (k:Nat) (x:Int),-1≤x→x<n → -1≤climbL tree k x∧climbL tree k x<n
 | 0,x,h1,h2=>⟨h1,h2⟩
 | k+1,x,h1,h2=>by
  rw[climbL]
  have : -1≤(if 0≤x then tree.getD x.toNat 0 else x)∧(if 0≤x then tree.getD x.toNat 0 else x)<n:=by
   split
   ·rw[List.getD_eq_getElem?_getD,List.getElem?_eq_getElem (by omega)]
    exact h _ (List.getElem_mem _)
   ·omega
  exact climb_in hn h k _ this.1 this.2
abbrev circX (x:Int):PV := .iface 199 (.agg [.int .i64 x])
theorem c150(P:PV)(tr:List Int)(hP:SlOf 1 encI P tr)(hN:tr.length<1000000)(h:∀ x∈tr,-1≤x∧x<tr.length)(i:Nat)(hi:i<tr.length)(st:St)(hwf:st.lo≤st.heap.length):ClA EE (.func 150 [] []) [P,iv i] st (fun r st'=>st'=st∧((climbL tr tr.length i<0∧r = .ret (.tuple []))∨(0≤climbL tr tr.length i∧r = .panic (circX i)))):=by
 have hPs:=hP.slen
 refine cA2 pr150 fn150 (fun tm hl h0 h1=>?_)
 refine go2 (bw4 hl h0 h1 hPs) fnil ?_
 refine wp_range tr.length [4] (fun k vs st'=>vs=[iv (climbL tr k i)]∧st'={ heap:=st.heap,lo:=st.heap.length }) (by omega) (sG hl) (sG hl) (sG hl) (by decide) ⟨(sR hl),rfl⟩ ?_ ?_
 ·rintro k hk tm1 st1 ⟨hv,rfl⟩ hS hka
  replace hv:=mv1 hv
  have hl1:tm1.length=22:=lN hS hl;have j0:tg tm1 0=P:=tQ hS (bw hl h0);clear hS
  have hc:=climb_in rfl h k i (by omega) (by omega)
  have hs:=climb_snoc tr k i
  by_cases h0':0≤climbL tr k i
  ·obtain⟨m,hm⟩:∃ m:Nat,climbL tr k i=(m:Int):=⟨(climbL tr k i).toNat,by omega⟩
   have hml:m<tr.length:=by omega
   have e:tr.getD m 0=tr[m]:=by rw[List.getD_eq_getElem?_getD,List.getElem?_eq_getElem hml];rfl
   rw[hm] at hv
   rw[if_pos h0',hm,Int.toNat_natCast,e] at hs
   have hd:decide ((m:Int)≥0)=true:=by simp
   refine go2 (bw4 hl1 j0 hv hd) fnil ?_
   exact⟨by simp only[↓reduceIte,go_sem,hl1];rw[hs],rfl⟩
  ·have hd:decide (climbL tr k i≥0)=false:=by simp;omega
   rw[if_neg h0'] at hs
   refine go2 (bw4 hl1 j0 hv hd) fnil ?_
   exact⟨by simp only[↓reduceIte,go_sem,hl1,hv];rw[hs],rfl⟩
 ·rintro tm1 st1 ⟨hv,rfl⟩ hS
  replace hv:=mv1 hv
  have hl1:tm1.length=22:=lN hS hl;have j1:tg tm1 1=iv i:=tQ hS (bw hl h1);clear hS
  by_cases h0':0≤climbL tr tr.length i
  ·have hd:decide (climbL tr tr.length i≥0)=true:=by simp;omega
   refine go2 (bw4 hl1 j1 hv hd) fnil ?_
   refine fna_panic ⟨?_,.inr ⟨h0',rfl⟩⟩
   simp only[Nat.min_eq_left hwf]
  ·have hd:decide (climbL tr tr.length i≥0)=false:=by simp;omega
   refine go2 (bw4 hl1 j1 hv hd) fnil ?_
   refine fna_normal results_nil ?_
   rw[finish_tuple (Nat.le_refl _) (by rfl)]
   exact⟨rfl,.inl ⟨by omega,rfl⟩⟩
theorem c149(P:PV)(tr:List Int)(hP:SlOf 1 encI P tr)(hN:tr.length<1000000)(h:∀ x∈tr,-1≤x∧x<tr.length)(st:St)(hwf:st.lo≤st.heap.length)(a:Nat)(ha:hp st a=some (.var [P])):ClA EE (.func 149 [] [.ptr a 0]) [] st (fun r st'=>st'=st∧(((∀ i,i<tr.length→climbL tr tr.length i<0)∧r = .ret (.tuple []))∨∃ i:Nat,i<tr.length∧0≤climbL tr tr.length i∧r = .panic (circX i))):=by
 have hPs:=hP.slen
 have ha':hp { heap:=st.heap,lo:=st.heap.length } a=some (.var [P]):=ha
 refine cA1 pr149 fn149 (fun tm hl h0=>?_)
 refine go2 (bw4 hl h0 hPs ha') fnil ?_
 refine wp_range tr.length [] (fun k vs st'=>(∀ i,i<k→climbL tr tr.length i<0)∧st'={ heap:=st.heap,lo:=st.heap.length }) (by omega) (sG hl) (sG hl) (sG hl) (by decide) ⟨fun i hi=>absurd hi (by omega),rfl⟩ ?_ ?_
 ·rintro k hk tm1 st1 ⟨hv,rfl⟩ hS hka
  have hl1:tm1.length=11:=lN hS hl;have j0:tg tm1 0 = .ptr a 0:=tQ hS (bw hl h0);clear hS
  refine go2 (bw4 hl1 j0 ha' hka) fnil ?_
  refine wops_callA rfl rfl (sR hl1) (by simp only[↓reduceIte,go_sem,hl1,j0,ha'];exact c150 P tr hP hN h k hk _ (Nat.le_refl _)) ?_ ?_
  ·rintro v9 st9 ⟨rfl,⟨h1,h2⟩|⟨h1,h2⟩⟩
   ·cases h2
    refine go2 hl1 fnil ?_
    refine⟨fun i hi=>?_,rfl⟩
    rcases Nat.lt_succ_iff_lt_or_eq.1 hi with e|rfl
    ·exact hv i e
    ·exact h1
   ·cases h2
  ·rintro v9 st9 ⟨rfl,⟨h1,h2⟩|⟨h1,h2⟩⟩
   ·cases h2
   ·cases h2
    refine go2 fnil fnil ?_
    refine fna_panic ⟨?_,.inr ⟨k,hk,h1,rfl⟩⟩
    simp only[Nat.min_eq_left hwf]
 ·rintro tm1 st1 ⟨hv,rfl⟩ hS
  refine go2 fnil fnil ?_
  refine fna_normal results_nil ?_
  rw[finish_tuple (Nat.le_refl _) (by rfl)]
  exact⟨rfl,.inl ⟨hv,rfl⟩⟩
theorem c122{dg:Nat}{da dc:List PV}{st st':St}{r:CR}{v:PV}(h:Cl EE (.func dg da dc) [] st r st')(hr:∀ rec:Rec,rec.call (.func dg da dc) [] st=some (r,st')→tryR rec (.func dg da dc) st=some (some (.ret v,st'))):Cl EE (.func 122 [] []) [.func dg da dc] st (.ret v) st':=by
 obtain⟨N,hN⟩:=h
 refine⟨N+1,fun n hn=>?_⟩
 obtain⟨m,rfl⟩:∃ m,n=m+1:=⟨n - 1,by omega⟩
 have h1:=hr (run EE m) (hN m (by omega))
 show stepCall EE (run EE m) (.func 122 [] []) [.func dg da dc] st=_
 have h2:EE.prim 122 (run EE m) ([]++[.func dg da dc]++[]) st=tryR (run EE m) (.func dg da dc) st:=rfl
 simp only[stepCall,enter,h2,h1]
theorem c122_ret{dg:Nat}{da dc:List PV}{st st':St}{v:PV}(h:Cl EE (.func dg da dc) [] st (.ret v) st'):Cl EE (.func 122 [] []) [.func dg da dc] st (.ret (iv 0)) st' :=
 c122 h (fun rec hr=>by simp only[tryR,hr])
theorem c122_circ{dg:Nat}{da dc:List PV}{st st':St}{x:Int}(h:Cl EE (.func dg da dc) [] st (.panic (circX x)) st'):Cl EE (.func 122 [] []) [.func dg da dc] st (.ret (iv 2)) st' :=
 c122 h (fun rec hr=>by simp only[tryR,hr])
theorem c122_none{dg:Nat}{da dc:List PV}{st st':St}{s:ByteArray}(h:Cl EE (.func dg da dc) [] st (.panic (.iface 201 (.agg [.str s]))) st'):Cl EE (.func 122 [] []) [.func dg da dc] st (.ret (iv 4)) st' :=
 c122 h (fun rec hr=>by simp only[tryR,hr])
theorem c122_tree(P:PV)(tr:List Int)(hP:SlOf 1 encI P tr)(hN:tr.length<1000000)(h:∀ x∈tr,-1≤x∧x<tr.length)(st:St)(hwf:st.lo≤st.heap.length)(a:Nat)(ha:hp st a=some (.var [P])):Cl EE (.func 122 [] []) [.func 149 [] [.ptr a 0]] st (.ret (iv (if (List.range tr.length).all (fun i=>decide (climbL tr tr.length i<0)) then 0 else 2))) st:=by
 obtain⟨r,st',hc,rfl,⟨h1,rfl⟩|⟨i,hi,h1,rfl⟩⟩:=c149 P tr hP hN h st hwf a ha
 ·rw[if_pos (by simp only[List.all_eq_true,List.mem_range,decide_eq_true_eq];exact h1)]
  exact c122_ret hc
 ·rw[if_neg (by simp only[List.all_eq_true,List.mem_range,decide_eq_true_eq];intro h2;have:=h2 i hi;omega)]
  exact c122_circ hc
def badP (n:Nat) (x:Int):Bool:=x != -1&&!inN x 0 ((n:Int) - 1)
theorem c148(b:BP)(h:b.cs.length<1000000)(x:Int)(st:St)(a:Nat)(ha:hp st a=some (.var [iv b.words,b.v])):Cl EE (.func 148 [] [.ptr a 0]) [iv x] st (.ret (.bool (badP b.cs.length x))) st:=by
 have ha':hp { heap:=st.heap,lo:=st.heap.length } a=some (.var [iv b.words,b.v]):=ha
 have k98:=fun st=>c98 b h x st
 refine cF2 pr148 fn148 (fun tm hl h0 h1=>?_)
 unfold badP
 cases hd:x != -1
 ·refine go2 (bw4 hl h0 h1 hd) fnil ?_
  exact fQ hl
 ·refine go2 (bw5 hl h0 h1 hd ha') (bw k98 fnil) ?_
  exact fQ hl
theorem tree_split(n:Nat)(tr:List Int):treeB n tr=(decide (tr.length=n)&&(!(tr.any (badP n))&&(List.range n).all fun i=>decide (climbL tr n i<0))):=by
 unfold treeB
 congr 2
 rw[List.not_any_eq_all_not]
 congr 1
 funext x
 unfold badP inN
 rw[Bool.eq_iff_iff]
 simp
 omega
set_option maxHeartbeats 4000000 in
theorem c115(b:BP)(h:b.cs.length<1000000)(P:PV)(tr:List Int)(hP:SlOf 1 encI P tr)(st:St):Cl EE (.func 115 [] []) [b.pv,P] st (.ret (.bool (treeB b.cs.length tr))) st:=by
 have hPs:=hP.slen
 have hPc:=hP.cells
 have hB:=b.h
 rw[tree_split]
 refine cF2 pr115 fn115 (fun tm hl h0 h1=>?_)
 by_cases hn:tr.length=b.cs.length
 ·have k133:=fun (st:St) hb=>c133 P tr hP (by omega) 148 [] [.ptr st.heap.length 0] (badP b.cs.length) ((st.push (.var [iv b.words,b.v])).push (.var [P])) hb
  have k0:=k133 { heap:=st.heap,lo:=st.heap.length } (fun st' he x hx=>c148 b h x st' _ (by show st'.heap[_]? = _;rw[he];simp[St.push]))
  have hb1:((tr.length:Int) != (b.cs.length:Int))=false:=by simp[hn]
  have hd1:decide (tr.length=b.cs.length)=true:=by simp[hn]
  rw[hd1,Bool.true_and]
  cases ha:tr.any (badP b.cs.length)
  ·have hin:∀ x∈tr,-1≤x∧x<tr.length:=fun x hx=>by
    have:=List.any_eq_false.1 ha x hx
    unfold badP inN at this
    simp at this
    omega
   have k1:=c122_tree P tr hP (by omega) hin ((({ heap:=st.heap,lo:=st.heap.length }:St).push (.var [iv b.words,b.v])).push (.var [P])) (by simp only[lo_push,len_push];omega) (st.heap.length+1) (sG fnil)
   rw[hn] at k1
   rw[ha] at k0
   refine go2 (bw6 hl h0 h1 hPs hPc hb1) (bw3 k0 k1 fnil) ?_
   cases hr:(List.range b.cs.length).all fun i=>decide (climbL tr b.cs.length i<0)
   ·exact fQ (bw hl hr)
   ·exact fQ (bw hl hr)
  ·rw[ha] at k0
   refine go2 (bw6 hl h0 h1 hPs hPc hb1) (bw k0 fnil) ?_
   exact fQ hl
 ·have hb1:((tr.length:Int) != (b.cs.length:Int))=true:=by simp;omega
  have hd1:decide (tr.length=b.cs.length)=false:=by simp[hn]
  rw[hd1,Bool.false_and]
  refine go2 (bw6 hl h0 h1 hPs hPc hb1) fnil ?_
  exact fQ hl
end Go.Den.Ve
end
section
namespace Go.Den.Ve
theorem copied_in{fs:List (List Int)}{c:List LN}(h:∀ l∈fs,l.length≤4)(h':∀ x∈c,x.words.length≤4)(h4:c.length≤4):0≤copiedI fs c∧copiedI fs c≤16:=by
 have e:copiedI fs c=(tookL fs c c.length).sum:=by rw[took_sum];rfl
 have h1:=tookL_len fs c c.length
 have h2:=took_in h h' (Nat.le_refl _)
 have h3:∀ (l:List Int),(∀ x∈l,0≤x∧x≤4)→0≤l.sum∧l.sum≤4*l.length:=fun l=>by
  induction l with
  | nil=>simp
  | cons x l ih =>
   intro h
   have:=ih (fun y hy=>h y (by simp[hy]))
   have:=h x (by simp)
   simp only[List.sum_cons,List.length_cons]
   omega
 have:=h3 _ h2
 omega
theorem OkB.copy{b:BK}(h:OkB b){c:List LN}(hc:c∈b.copies):c.length≤4∧∀ x∈c,x.words.length≤4:=by
 have h1:=h.all c hc
 exact⟨by have:=h1.1;have:=h.l4;omega,fun x hx=>(lineB_iff.1 (h1.2 x hx).1).1⟩
theorem row_in{b:BK}(h:OkB b){t:List (List Int)}(ht:∀ l∈t,l.length≤4){k:Nat}(hk:k<b.copies.length):∀ x∈rowI b t k,0≤x∧x≤16:=fun x hx=>by
 have e:b.copies.getD k []=b.copies[k]:=by rw[List.getD_eq_getElem?_getD,List.getElem?_eq_getElem hk];rfl
 have hc:=h.copy (List.getElem_mem hk)
 rw[rowI,e] at hx
 rcases List.mem_cons.1 hx with rfl|hx
 ·exact copied_in ht hc.2 hc.1
 ·obtain⟨c,hcm,rfl⟩:=List.mem_map.1 hx
  refine copied_in (fun l hl=>?_) hc.2 hc.1
  obtain⟨y,hy,rfl⟩:=List.mem_map.1 hl
  exact (h.copy hcm).2 y hy
theorem tab_total{b:BK}{t:List (List Int)}{tr:List Int}(h:treeB b.copies.length tr=true):((List.range tr.length).map fun i=>((tableI b t b.copies.length).getD i []).getD (tr.getD i 0+1).toNat 0).sum=totalI b t tr:=by
 simp only[treeB,Bool.and_eq_true,List.all_eq_true,decide_eq_true_eq] at h
 obtain⟨hn,hin,_⟩:=h
 unfold totalI
 congr 1
 apply List.map_congr_left
 intro i hi
 have hi:=List.mem_range.1 hi
 have hib:i<b.copies.length:=by omega
 have e1:(tableI b t b.copies.length).getD i []=rowI b t i:=by
  rw[List.getD_eq_getElem?_getD]
  simp[tableI,hib]
 have e2:tr.getD i 0=tr[i]:=by rw[List.getD_eq_getElem?_getD,List.getElem?_eq_getElem hi];rfl
 rw[e1,e2]
 have hx:=hin _ (List.getElem_mem hi)
 unfold takesI rowI
 by_cases hp:tr[i]<0
 ·have e3:tr[i] = -1:=by omega
  rw[if_pos hp,e3]
  rfl
 ·obtain⟨m,hm⟩:∃ m:Nat,tr[i]=(m:Int):=⟨tr[i].toNat,by omega⟩
  rw[if_neg hp,hm,show ((m:Int)+1).toNat=m+1 by omega,Int.toNat_natCast,List.getD_cons_succ]
  have hmb:m<b.copies.length:=by omega
  rw[List.getD_eq_getElem?_getD,List.getD_eq_getElem?_getD (l:=b.copies) (i:=m),List.getElem?_map,List.getElem?_eq_getElem hmb]
  rfl
def totArg (b:BP) (t:List SI) (tr:List Int):Bool:=bookB b.bk&&(txtB b.bk (t.map SI.l)&&treeB b.cs.length tr)
theorem txt_in{b:BP}{t:List SI}(h:txtB b.bk (t.map SI.l)=true):t.length=lines1 b.bk∧∀ x∈t,x.l.length≤4:=by
 simp only[txtB,Bool.and_eq_true,List.all_eq_true,decide_eq_true_eq,List.length_map] at h
 exact⟨h.1,fun x hx=>(lineB_iff.1 (h.2 _ (List.mem_map.2 ⟨x,hx,rfl⟩))).1⟩
section
variable(b:BP)(hN:SmB b)(T:PV)(t:List SI)(hT:SlOf 1 encSI T t)(htN:t.length<1000000)(P:PV)(tr:List Int)(hP:SlOf 1 encI P tr)(st:St)
include hP in
theorem total116(h:OkB b.bk)(ht:txtB b.bk (t.map SI.l)=true)(hr:treeB b.cs.length tr=true)(M:PV)(hV:SlOf 1 encL M (tableI b.bk (t.map SI.l) b.cs.length))(s:St):Cl EE (.func 116 [] []) [M,P] s (.ret (iv (totalI b.bk (t.map SI.l) tr))) s:=by
 have hti:=txt_in ht
 have hbl:b.bk.copies.length=b.cs.length:=by simp
 have hln:(tableI b.bk (t.map SI.l) b.cs.length).length=b.cs.length:=by simp[tableI]
 have hc5:b.cs.length≤5:=by have:=h.c5;simpa using this
 have hr':=hr
 simp only[treeB,Bool.and_eq_true,List.all_eq_true,decide_eq_true_eq] at hr'
 obtain⟨hn,hin,_⟩:=hr'
 have hrow:∀ r∈tableI b.bk (t.map SI.l) b.cs.length,r.length=b.cs.length+1∧∀ x∈r,0≤x∧x≤16:=fun r hr=>by
  obtain⟨k,hk,rfl⟩:=List.mem_map.1 hr
  have hk:=List.mem_range.1 hk
  exact⟨by simp[rowI],row_in h (fun l hl=>by obtain⟨x,hx,rfl⟩:=List.mem_map.1 hl;exact hti.2 x hx) (by omega)⟩
 have:=c116 M _ hV P tr hP (by omega) (by omega) (fun i hi=>by
  have:=hin _ (List.getElem_mem hi)
  have:=(hrow _ (List.getElem_mem (by omega:i<(tableI b.bk (t.map SI.l) b.cs.length).length))).1
  omega) (by omega) (fun r hr=>by
  have:=hrow r hr
  exact⟨by omega,fun x hx=>by have:=this.2 x hx;omega⟩) s
 rw[← hbl,tab_total (by rw[hbl];exact hr)] at this
 exact this
include hT hP in
include hN hT htN hP
end
end Go.Den.Ve
end

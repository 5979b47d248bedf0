/- Part of the proofs of laws of the package version. Texts: DenRunB, DenRunC, DenRunD, DenDrawA. -/
import Derived.Test.YthnfeimjhibcaaaTBAf
import Derived.OrdersIn
set_option linter.unusedSimpArgs false
set_option linter.unusedVariables false
section
namespace Go.Den
section
variable {P:Program} {B0:Nat} {w0:World} {G:Gh} {st:St} {w:World} {tm:List PV} {a:Act} {E:Env} {rec:Rec}
theorem RoundOK.wide {w:World}:RoundOK Fence.wide w:=fun l h=>by cases h
theorem foldl_zip (ps:Array Nat) (avs:List Value) (tv:Array Value):(ps.zip avs.toArray).foldl (fun tmps (t,a)=>tmps.setIfInBounds t a) tv=(ps.toList.zip avs).foldl (fun tmps (t,a)=>tmps.setIfInBounds t a) tv:=by
 rw [← Array.foldl_toList]
 simp
theorem round_ok (hg:GrowCode rec) (hcode:SoundCode P B0 w0 rec) {l:Nat} {args:List PV} {r:CR} {st':St} (hs:round rec l args st=some (r,st')) (hlo:st.lo≤st.heap.length)
  {avs:List Value} (hw:WR P B0 w0 G st.heap w) (ha:VRL G w args avs) {b:Nat} (hb:G.be l=some b):∃ rr:Loop,w.heap[b]? = some (Obj.loop rr)∧avs.length=rr.params.size ∧
   ∀ n,RoundIn Fence.wide n P b rr.fn ((rr.params.zip avs.toArray).foldl (fun tmps (t,a)=>tmps.setIfInBounds t a) rr.tmps) rr.assign rr.body w (CallR P B0 w0 G st w r st'):=by
 unfold round at hs
 split at hs
 ·rename_i tm ps as bd s0 p0 hh
  split at hs
  ·cases hs
  ·rename_i tm0 hset
   split at hs
   ·rename_i tm1 st1 has
    split at hs
    ·rename_i p1 st2 hsl
     obtain ⟨_,_,_,_,o,h1,h2⟩:=hw.obj hb
     rw [hh] at h1;cases h1
     obtain ⟨rr,h3,h4,h5,⟨mu,hcA,hcB⟩,h7,h8⟩:=h2
     subst h5
     obtain ⟨hv0,hlen⟩:=setParams_ok (tv:=rr.tmps) hset h4 ha
     refine ⟨rr,h3,by simpa using hlen,fun n=>roundIn_of_wpIn trivial ?_⟩
     rw [foldl_zip]
     have hF:IsWide (Fence.wide.inRound b) := .inr ⟨b,rfl⟩
     have hro:RoundOK (Fence.wide.inRound b) w:=fun l' hl'=>by cases hl';exact ⟨rr,h3⟩
     have g1:=hg _ _ _ _ _ _ has hlo
     have g2:=setLoop_grows hsl
     refine wpIn_mono (hcode mu _ _ hcA _ _ _ _ _ has hlo _ n hF 0 G w _ hw hv0 (Nat.zero_le _) trivial hro) (fun x a1 w1 hp=>?_)
     obtain ⟨G1,hw1,hx1,he1,ht1,hd1⟩:=hp
     simp only [ExR] at he1
     subst he1
     have ht1:=ht1.resolve_left id
     have hb1:=hx1.pres.be hb
     obtain ⟨-,r1,k1,k2,k3,k4⟩:=setLoop_ok hw1 hb1 hsl
     obtain ⟨hw2,hx2⟩:=k4 .busy r1.pending rfl k3
     simp only [LStR] at k2
     refine ⟨_,run_beginRound k1 k2,?_⟩
     have glo2:st2.lo≤st2.heap.length:=g2.hlo (g1.hlo hlo)
     have hx12:=hx1.transMin hx2 g2.1
     have body:∀ {e:Ex} {tm3:List PV} {st3:St},rec.code bd tm1 st2=some (e,tm3,st3)→∀ {ls:LSt} {pj:Option Jump} {lst:LoopState} {jc:Option Code} {v:Bool},
       (setLoop st3 l ls fun _=>pj).map (fun r=>(CR.ret (.bool v),r.2.2))=some (r,st')→LStR ls lst→JumpR pj jc→v=jc.isNone→lst=(if jc.isNone then .ready else .done) →
       ∀ {Q:Exit→Act→World→Prop},(∀ G3 w3 x a3,ExR G3 w3 e x→(∃ v w4,(Instr.endRound b jc).run P w3 = .ok v w4∧CallR P B0 w0 G st w r st' (.returned v) w4)→Q x a3 w3) →
       rr.body.wpIn (Fence.wide.inRound b) n P Q a1 (w1.putObj b (.loop { r1 with state := .busy })):=by
      intro e tm3 st3 hbody ls pj lst jc v hend hls hpj hv hlst Q hQ
      obtain ⟨⟨q1,q2,st4⟩,hq1,hq2⟩:=Option.map_eq_some_iff.1 hend
      cases hq2
      have g3:=hg _ _ _ _ _ _ hbody glo2
      have g4:=setLoop_grows hq1
      refine wpIn_mono (hcode mu _ _ hcB _ _ _ _ _ hbody glo2 _ n hF 0 G1 _ _ hw2 (VRL.mono hx2.pres ht1) (Nat.zero_le _) ((hd1.ext hx2 (Nat.le_refl _)).le hx2.size) (hro.ext hx12)) (fun x a3 w3 hp=>?_)
      obtain ⟨G3,hw3,hx3,he3,-,-⟩:=hp
      refine hQ G3 w3 x a3 he3 ?_
      obtain ⟨-,r3,m1,m2,m3,m4⟩:=setLoop_ok hw3 (hx3.pres.be hb1) hq1
      obtain ⟨hw4,hx4⟩:=m4 lst jc hls hpj
      subst hlst
      refine ⟨_,_,run_endRound jc m1,G3,hw4,(hx12.transMin hx3 g3.1).transMin hx4 g4.1,_,rfl,?_⟩
      subst hv
      simp only [VR]
     split at hs
     ·rename_i hbd
      refine body hbd hs (lst := .ready) (jc:=none) rfl rfl rfl rfl (fun G3 w3 x a3 he hr=>?_)
      simp only [ExR] at he;subst he
      exact hr
     ·rename_i hbd
      refine body hbd hs (lst := .done) (jc:=some .ret) rfl rfl rfl rfl (fun G3 w3 x a3 he hr=>?_)
      simp only [ExR] at he;subst he
      exact hr
     ·rename_i id _ _ hbd
      refine body hbd hs (lst := .done) (jc:=some (.exit id)) rfl rfl rfl rfl (fun G3 w3 x a3 he hr=>?_)
      simp only [ExR] at he;subst he
      exact hr
     ·cases hs
    ·cases hs
   ·cases hs
 ·cases hs
def resSem (tv:Array Value):ResultVar→Sem Value
 | .tmp t=>pure (tv.getD t Go.undef)
 | .cell a t=>do loadVar t (← asAddr (tv.getD a Go.undef))
theorem rdRes_ok (hw:WR P B0 w0 G st.heap w) {tv:Array Value} (ht:VRL G w tm tv.toList) {rv:ResultVar} {d:DRes} (hc:resC P rv=some d) {p:PV} (hr:rdRes tm st.heap d=some p) :
  ∃ v,(resSem tv rv).run P w = .ok v w∧VR G w p v:=by
 cases rv with
 | tmp t =>
  simp only [resC] at hc;cases hc
  simp only [rdRes] at hr;cases hr
  refine ⟨tv.getD t Go.undef,by simp [resSem],?_⟩
  have:=ht.getD t
  simpa using this
 | cell a t =>
  simp only [resC] at hc
  split at hc
  ·rename_i hok
   obtain ⟨s,hs,hd⟩:=Option.map_eq_some_iff.1 hc
   cases hd
   simp only [rdRes] at hr
   have hx:=ht.getD a
   split at hr
   ·rename_i l off hev
    rw [hev] at hx
    simp only [VR] at hx
    obtain ⟨b,h1,h2⟩:=hx
    split at hr
    ·rename_i cs hh
     split at hr
     ·obtain ⟨arr,T,h5,h6⟩:=hw.row h1 hh
      obtain ⟨v,h7,h8⟩:=loadVar_ok hok hs (VRC.of_row (off:=off) h5 (h6.drop off) (fun j u hj=>by simpa using hj)) hr
      refine ⟨v,?_,h8⟩
      have h2':tv.getD a Go.undef = .pointer (some ⟨b,off,none⟩):=by simpa using h2
      simp [resSem,h2',asAddr,h7]
     ·cases hr
    ·cases hr
   ·cases hr
  ·cases hc
theorem rdResL_ok (hw:WR P B0 w0 G st.heap w) {tv:Array Value} (ht:VRL G w tm tv.toList):∀ {rvs:List ResultVar} {ds:List DRes} {ps:List PV},ressC P rvs=some ds→rdResL tm st.heap ds=some ps →
  ∃ vs:List Value,(rvs.mapM (resSem tv)).run P w = .ok vs w∧VRL G w ps vs
 | [],ds,ps,hc,hr=>by
  simp only [ressC] at hc;cases hc
  simp only [rdResL] at hr;cases hr
  exact ⟨[],by simp,VRL.nil_iff.2 rfl⟩
 | rv::rvs,ds,ps,hc,hr=>by
  simp only [ressC] at hc
  split at hc
  ·rename_i d ds' h1 h2
   cases hc
   simp only [rdResL] at hr
   split at hr
   ·rename_i p ps' h3 h4
    cases hr
    obtain ⟨v,h5,h6⟩:=rdRes_ok hw ht h1 h3
    obtain ⟨vs,h7,h8⟩:=rdResL_ok hw ht h2 h4
    refine ⟨v::vs,?_,VRL.cons h6 h8⟩
    rw [List.mapM_cons,Sem.run_bind,h5,Result.andThen_ok,Sem.run_bind,h7,Result.andThen_ok,Sem.run_pure]
   ·cases hr
  ·cases hc
theorem results_ok (hw:WR P B0 w0 G st.heap w) {tv:Array Value} (ht:VRL G w tm tv.toList) {fn:Func} {ds:List DRes} {p:PV} (hc:ressC P fn.results.toList=some ds) (hr:results tm st.heap ds=some p) :
  ∃ v,(Go.results fn tv).run P w = .ok v w∧VR G w p v:=by
 unfold results at hr
 have fin:∀ ps,rdResL tm st.heap ds=some ps→∃ vs:List Value,(Go.results fn tv).run P w = .ok (if h:vs.toArray.size=1 then vs.toArray[0] else .tuple vs.toArray) w∧VRL G w ps vs:=by
  intro ps hps
  obtain ⟨vs,h1,h2⟩:=rdResL_ok hw ht hc hps
  refine ⟨vs,?_,h2⟩
  unfold Go.results
  rw [Sem.run_bind,Array.mapM_eq_mapM_toList,Sem.run_map]
  erw [h1]
  rfl
 split at hr
 ·rename_i v hv
  cases hr
  obtain ⟨vs,h1,h2⟩:=fin _ hv
  obtain ⟨u,us,rfl,h3,h4⟩:=VRL.cons_iff.1 h2
  rw [VRL.nil_iff.1 h4] at h1
  exact ⟨u,by simpa using h1,h3⟩
 ·rename_i ps hne hv
  cases hr
  obtain ⟨vs,h1,h2⟩:=fin _ hv
  have hl:=h2.length
  have hlen:¬ vs.toArray.size=1:=by
   intro h
   have:ps.length=1:=by rw [← hl];simpa using h
   obtain ⟨x,hx⟩:=List.length_eq_one_iff.1 this
   exact hne x hx
  rw [dif_neg hlen] at h1
  exact ⟨_,h1,by simp only [VR];exact ⟨_,rfl,h2⟩⟩
 ·cases hr
theorem DefsOK.put {B:Nat} {r:Nat} {o:Obj}:∀ {ds:List Deferred} {N:Nat},N≤r→DefsOK B G w ds N→DefsOK B G (w.putObj r o) ds N
 | [],_,_,_=>trivial
 | d::ds,N,hN,h=>by
  obtain ⟨r',h1,h2,h3,h4,h5,h6,h7⟩:=h
  refine ⟨r',h1,h2,?_,h4,h5,h6,h7.put (by omega)⟩
  rw [World.putObj_heap_other (by omega)]
  exact h3
theorem leaves_ok {F:Fence} {n:Nat} {fn:Func} {tmps:Array Value} {R:Ending→World→Prop} {u:FrameMode} (hu:u ≠ .run) {G0:Gh} {h0 h1:List HObj} {wS:World} {lo:Nat} (hB:B0≤wS.heap.size):∀ {ds:List Deferred} {N:Nat} {w1:World},DefsOK wS.heap.size G w1 ds N→WR P B0 w0 G h1 w1→Ext G0 h0 wS G h1 w1 lo →
  (∀ w2,WR P B0 w0 G h1 w2→Ext G0 h0 wS G h1 w2 lo→Pres G w1 G w2→LeavesIn F n P fn tmps R [] u w2)→LeavesInM F n P fn tmps R ds u w1
 | [],N,w1,hd,hw,hx,hk=>hk w1 hw hx (.refl _ _)
 | d::ds,N,w1,hd,hw,hx,hk=>by
  obtain ⟨r,h1,h2,h3,h4,h5,h6,h7⟩:=hd
  subst h1
  have hr:r<w1.heap.size:=(Array.getElem?_eq_some_iff.1 h3).1
  obtain ⟨p1,p2,p3⟩:=put_raw hw hx (.deferred none) hr h2.1 (by omega) h4 h5 h6 ⟨_,h3⟩
  exact ⟨hu,.inl ⟨r,_,rfl,run_takeDeferred h3,leaves_ok hu hB (h7.put (Nat.le_refl _)) p1 p2 (fun w2 q1 q2 q3=>hk w2 q1 q2 (p3.trans q3))⟩⟩
structure EnvFn (P:Program) (E:Env):Prop where
 fn:∀ g df,E.fn g=some df→∃ fn mu,P.funcs[g]? = some fn∧funcC P mu fn=some df∧(fn.name== "runtime.NumGoroutine")=false
def PrimOK (P:Program) (B0:Nat) (w0:World) (E:Env):Prop:=∀ g rec args st r st',GrowCall rec→GrowCode rec→SoundCall P B0 w0 rec→SoundCode P B0 w0 rec→E.prim g rec args st=some (some (r,st'))→st.lo≤st.heap.length →
  ∀ G w avs,WR P B0 w0 G st.heap w→VRL G w args avs→Enterable P g∧∀ n,CallsIn Fence.wide n P g avs.toArray w (CallR P B0 w0 G st w r st')
theorem enter_ok (hE:EnvFn P E) (hP:PrimOK P B0 w0 E) (hgc:GrowCall rec) (hg:GrowCode rec) (hcall:SoundCall P B0 w0 rec) (hcode:SoundCode P B0 w0 rec) {g:Nat} {args:List PV} {r:CR} {st':St} (hs:enter E rec g args st=some (r,st')) (hlo:st.lo≤st.heap.length)
  {avs:List Value} (hw:WR P B0 w0 G st.heap w) (ha:VRL G w args avs):Enterable P g∧∀ n,CallsIn Fence.wide n P g avs.toArray w (CallR P B0 w0 G st w r st'):=by
 unfold enter at hs
 split at hs
 ·rename_i hpr
  subst hs
  exact hP g rec args st r st' hgc hg hcall hcode hpr hlo G w avs hw ha
 ·split at hs
  ·cases hs
  ·rename_i df hdf
   obtain ⟨fn,mu,hf,hfc,hname⟩:=hE.fn g df hdf
   unfold funcC at hfc
   split at hfc
   ·rename_i bc hbody
    split at hfc
    ·rename_i dc rs hc1 hc2
     cases hfc
     refine ⟨⟨fn,hf,hname,by rw [hbody];rfl⟩,fun n=>?_⟩
     have ht0:VRL G w (args++List.replicate (fn.ntmps - args.length) undef) (avs.toArray++Array.replicate (fn.ntmps - avs.toArray.size) Go.undef).toList:=by
      have hl:=ha.length
      simp only [Array.toList_append,List.size_toArray,Array.toList_replicate,hl]
      exact ha.append (VRL.replicate VR.undef _)
     have fin:∀ {e:Ex} {tm1:List PV} {st1:St},rec.code dc (args++List.replicate (fn.ntmps - args.length) undef) { st with lo:=st.heap.length }=some (e,tm1,st1) →
       (∀ G1 w1 x a1,ExR G1 w1 e x→(isPanic e∨VRL G1 w1 tm1 a1.tmps.toList)→WR P B0 w0 G1 st1.heap w1→Ext G st.heap w G1 st1.heap w1 st1.lo→DefsOK w.heap.size G1 w1 a1.defers w1.heap.size→st1.lo≤st.heap.length→bodyPostM Fence.wide n P fn (CallR P B0 w0 G st w r st') x a1 w1) →
       CallsIn Fence.wide n P g avs.toArray w (CallR P B0 w0 G st w r st'):=by
      intro e tm1 st1 hrun hk
      refine callsIn_of_wp_marks hf hbody trivial ?_
      have hg1:=hg _ _ _ _ _ _ hrun (Nat.le_refl _)
      refine wpIn_mono (hcode mu _ _ hc1 _ _ _ _ _ hrun (Nat.le_refl _) Fence.wide n (.inl rfl) w.heap.size G w _ hw ht0 (Nat.le_refl _) trivial RoundOK.wide) (fun x a1 w1 hp=>?_)
      obtain ⟨G1,hw1,hx1,he1,ht1,hd1⟩:=hp
      exact hk G1 w1 x a1 he1 ht1 hw1 hx1 hd1 hg1.1
     have retn:∀ {tm1:List PV} {st1:St} {v v':PV} {st2:St},results tm1 st1.heap rs=some v→finishCall st st1 v=(v',st2)→CR.ret v'=r→st2=st'→∀ (G1:Gh) (w1:World) (a1:Act),VRL G1 w1 tm1 a1.tmps.toList→WR P B0 w0 G1 st1.heap w1→Ext G st.heap w G1 st1.heap w1 st1.lo→DefsOK w.heap.size G1 w1 a1.defers w1.heap.size→st1.lo≤st.heap.length →
       LeavesInM Fence.wide n P fn a1.tmps (CallR P B0 w0 G st w r st') a1.defers .returning w1:=by
      intro tm1 st1 v v' st2 hres hfin hr hst G1 w1 a1 ht1 hw1 hx1 hd1 hl1
      refine leaves_ok (by simp) hw.low.1 hd1 hw1 hx1 (fun w2 q1 q2 q3=>?_)
      obtain ⟨u,h5,h6⟩:=results_ok q1 (VRL.mono q3 ht1) hc2 hres
      obtain ⟨G2,m1,m2,m3,m4⟩:=finish_ok hw q1 q2 hl1 h6 hfin hlo
      refine ⟨u,h5,?_⟩
      subst hr;subst hst
      exact ⟨G2,m1,m2,u,rfl,m3⟩
     split at hs
     ·rename_i hrun
      split at hs
      ·rename_i hres
       split at hs
       rename_i hfin
       cases hs
       refine fin hrun (fun G1 w1 x a1 he ht hw1 hx1 hd1 hl1=>?_)
       simp only [ExR] at he;subst he
       exact retn hres hfin rfl rfl G1 w1 a1 (ht.resolve_left id) hw1 hx1 hd1 hl1
      ·cases hs
     ·rename_i hrun
      split at hs
      ·rename_i hres
       split at hs
       rename_i hfin
       cases hs
       refine fin hrun (fun G1 w1 x a1 he ht hw1 hx1 hd1 hl1=>?_)
       simp only [ExR] at he;subst he
       exact retn hres hfin rfl rfl G1 w1 a1 (ht.resolve_left id) hw1 hx1 hd1 hl1
      ·cases hs
     ·rename_i hrun
      cases hs
      refine fin hrun (fun G1 w1 x a1 he ht hw1 hx1 hd1 hl1=>?_)
      obtain ⟨u,rfl,hu⟩:=he
      refine leaves_ok (by simp) hw.low.1 hd1 hw1 hx1 (fun w2 q1 q2 q3=>?_)
      exact ⟨G1,q1,q2.lo (Nat.min_le_right _ _),u,rfl,VR.mono q3 hu⟩
     ·cases hs
    ·cases hfc
   ·cases hfc
end
end Go.Den
end
section
namespace Go.Den
section
variable {P:Program} {B0:Nat} {w0:World} {G:Gh} {st:St} {w:World} {tm:List PV} {a:Act} {E:Env} {rec:Rec}
def SoundDraw (P:Program) (B0:Nat) (w0:World) (E:Env) (rec:Rec):Prop :=
 ∀ mu id ops ds free,codeC P mu (.region id ops true)=some (.dregion ds free)→∀ tm st e tm' st' fs,stepOpsD E rec ds tm st=some (e,tm',st',fs)→footOk fs free=true→st.lo≤st.heap.length →
  ∀ F n,IsWide F→∀ B G w a,WR P B0 w0 G st.heap w→VRL G w tm a.tmps.toList→DefsOK B G w a.defers w.heap.size→(Code.region id ops true).wpIn F n P (Post P B0 w0 B G st w e tm' st') a w
theorem then_of_ne {G:Gh} {w:World} {e:Ex} {x:Exit} {K:Act→World→Prop} {Q:Exit→Act→World→Prop} {a:Act} {w':World} (h:ExR G w e x) (hn:e ≠ .normal) (hq:Q x a w'):Exit.then K Q x a w':=by
 cases e with
 | normal=>exact absurd rfl hn
 | ret=>simp only [ExR] at h;subst h;exact hq
 | exit id=>simp only [ExR] at h;subst h;exact hq
 | panic v=>obtain ⟨u,rfl,_⟩:=h;exact hq
theorem noGoto_of {G:Gh} {w:World} {e:Ex} {x:Exit} {Q:Exit→Act→World→Prop} {a:Act} {w':World} (h:ExR G w e x) (hq:Q x a w'):Exit.noGoto Q x a w':=by
 cases e with
 | normal=>simp only [ExR] at h;subst h;exact hq
 | ret=>simp only [ExR] at h;subst h;exact hq
 | exit id=>simp only [ExR] at h;subst h;exact hq
 | panic v=>obtain ⟨u,rfl,_⟩:=h;exact hq
theorem loop_ok (mu:TypeId→Bool) {c:Code} {dc:DCode} (hc:codeC P mu c=some dc) (N:Nat) (ih:∀ j,j<N→SoundCode P B0 w0 (run E j)) (hg:∀ j,GrowCode (run E j)) {e:Ex} {tm':List PV} {st':St} (hs:(run E N).code (.loop dc) tm st=some (e,tm',st')) (hlo:st.lo≤st.heap.length)
  {F:Fence} {n:Nat} (hF:IsWide F) {B:Nat} (hw:WR P B0 w0 G st.heap w) (ht:VRL G w tm a.tmps.toList) (hB:B≤w.heap.size) (hd:DefsOK B G w a.defers w.heap.size) (hro:RoundOK F w) :
  (Code.loop c).wpIn F n P (Post P B0 w0 B G st w e tm' st') a w:=by
 refine wpIn_loop_idx (J:=fun i a1 w1=>i≤N∧∃ tm1 st1 G1,(run E i).code (.loop dc) tm1 st1=some (e,tm',st')∧st1.lo≤st1.heap.length∧Grows st st1∧WR P B0 w0 G1 st1.heap w1∧Ext G st.heap w G1 st1.heap w1 st1.lo∧VRL G1 w1 tm1 a1.tmps.toList∧DefsOK B G1 w1 a1.defers w1.heap.size) N
  ⟨Nat.le_refl _,tm,st,G,hs,hlo,.refl _,hw,.refl _ _ _ _,ht,hd⟩ (fun i a1 w1 hJ=>?_)
 obtain ⟨hi,tm1,st1,G1,hs1,hlo1,hg1,hw1,hx1,ht1,hd1⟩:=hJ
 cases i with
 | zero=>simp [run] at hs1
 | succ j =>
  simp only [run,stepCode] at hs1
  have hBw:B≤w1.heap.size:=Nat.le_trans hB hx1.size
  split at hs1
  ·rename_i tm2 st2 hb
   have g2:=hg j _ _ _ _ _ _ hb hlo1
   refine wpIn_mono (ih j (by omega) mu _ _ hc _ _ _ _ _ hb hlo1 F n hF B G1 w1 a1 hw1 ht1 hBw hd1 (hro.ext hx1)) (fun x a2 w2 hp=>?_)
   obtain ⟨G2,hw2,hx2,he2,ht2,hd2⟩:=hp
   simp only [ExR] at he2;subst he2
   exact ⟨j,Nat.lt_succ_self _,by omega,tm2,st2,G2,hs1,g2.hlo hlo1,hg1.trans g2,hw2,hx1.transMin hx2 g2.1,ht2.resolve_left id,hd2⟩
  ·rename_i hne
   have g2:=hg j _ _ _ _ _ _ hs1 hlo1
   refine wpIn_mono (ih j (by omega) mu _ _ hc _ _ _ _ _ hs1 hlo1 F n hF B G1 w1 a1 hw1 ht1 hBw hd1 (hro.ext hx1)) (fun x a2 w2 hp=>?_)
   obtain ⟨G2,hw2,hx2,he2,ht2,hd2⟩:=hp
   exact then_of_ne he2 (fun he=>by subst he;exact hne _ _ hs1) ⟨G2,hw2,hx1.transMin hx2 g2.1,he2,ht2,hd2⟩
theorem rangeFunc_ok (mu:TypeId→Bool) {f:Operand} {d:Opd} {ps:Array Tmp} {as bd:Code} {das dbd:DCode} (hf:opd f=some d) (hcA:codeC P mu as=some das) (hcB:codeC P mu bd=some dbd) (hgc:GrowCall rec) (hcall:SoundCall P B0 w0 rec)
  {e:Ex} {tm':List PV} {st':St} (hs:stepCode E rec (.rangeFunc d ps.toList das dbd) tm st=some (e,tm',st')) (hlo:st.lo≤st.heap.length)
  {F:Fence} {n:Nat} (hF:IsWide F) {B:Nat} (hw:WR P B0 w0 G st.heap w) (ht:VRL G w tm a.tmps.toList) (hB:B≤w.heap.size) (hd:DefsOK B G w a.defers w.heap.size) (hro:RoundOK F w) :
  (Code.rangeFunc f ps as bd).wpIn F n P (Post P B0 w0 B G st w e tm' st') a w:=by
 simp only [stepCode] at hs
 split at hs
 ·rename_i g fa fc hev
  split at hs
  ·rename_i v st1 hr
   have hx:=opd_ok ht hf
   rw [hev] at hx
   have hx0:=hx
   simp only [VR] at hx
   obtain ⟨fi,ca,hfv,_,_⟩:=hx
   have hlo0:st.lo≤(st.heap++[HObj.loop tm ps.toList das dbd .ready none]).length:=by simp;omega
   have g1:Grows { st with heap:=st.heap++[.loop tm ps.toList das dbd .ready none] } st1:=hgc _ _ _ _ _ hr hlo0
   have main:∀ (fn:FuncId) (l:Nat) (mark:List Deferred) (w1:World) (G1:Gh),(Instr.enterLoop fn a.tmps ps as bd F.round).run P w = .ok (l,mark) w1→G1.be st.heap.length=some l→WR P B0 w0 G1 (st.heap++[.loop tm ps.toList das dbd .ready none]) w1 →
     Ext G st.heap w G1 (st.heap++[.loop tm ps.toList das dbd .ready none]) w1 st.lo→DefsOK B G1 w1 (mark++a.defers) w1.heap.size →
     ∃ (l:Nat) (mark:List Deferred) (w₁:World) (d:Deferred) (w₁':World) (f':FuncId) (args:Array Value) (w₂:World),
      (Instr.enterLoop fn a.tmps ps as bd F.round).run P w = .ok (l,mark) w₁ ∧
      (resolve a.eval (rangeCall f l) 0).run P w₁ = .ok d w₁' ∧
      (∀ f',Target.leads P w₁' d.target d.args=some f'→F.fn f') ∧
      (invoke d.target d.args).run P w₁' = .ok (.enter f' args) w₂ ∧
      (F.depth.isSome=true→1≤n) ∧
      CallsIn F (n - 1) P f' args w₂ (rangePost F n P l (Post P B0 w0 B G st w e tm' st') { a with defers:=mark++a.defers }):=by
    intro fn l mark w1 G1 hent hbe hw1 hx1 hd1
    have hy:VR G1 w1 (.yield st.heap.length) (.func (.yield l) #[] #[]):=by simp only [VR];exact ⟨l,hbe,rfl⟩
    obtain ⟨_,hok⟩:=hcall _ _ _ _ _ hr hlo0
    obtain ⟨h4,h5⟩:=hok G1 w1 _ _ hw1 (VR.mono hx1.pres (hfv ▸ hx0)) (VRL.cons hy (VRL.nil_iff.2 rfl)) fi ca rfl
    refine ⟨l,mark,w1,{ target := .fn (.func g) ca,args:=fi++#[.func (.yield l) #[] #[]] },w1,g,fi++#[.func (.yield l) #[] #[]]++ca,w1,hent,?_,fun f' _=>hF.fn f',?_,fun h=>(by rw [hF.depth] at h;cases h),?_⟩
    ·have hy':a.eval (.const (.func (.yield l) #[] #[])) = .func (.yield l) #[] #[]:=rfl
     simp [resolve,rangeCall,hfv,Deferred.ofValue,hy']
    ·simp only [invoke,callFunc_run h4]
    ·refine (hF.calls (h5 0)).mono (fun en w3 hR=>?_)
     obtain ⟨G2,hw2,hx2,hvv⟩:=hR
     obtain ⟨u,rfl,_⟩:=hvv
     have fin:∀ {s0:LSt} {p0:Option Jump} {st2:St},setLoop st1 st.heap.length .over id=some (s0,p0,st2)→∃ r2:Loop,(Instr.endLoop l).run P w3 = .ok r2.pending (w3.putObj l (.loop { r2 with state := .exhausted }))∨s0 = .busy:=by
      intro s0 p0 st2 hsl
      obtain ⟨-,r2,m1,m2,m3,m4⟩:=setLoop_ok hw2 (hx2.pres.be hbe) hsl
      cases s0 with
      | busy=>exact ⟨r2,.inr rfl⟩
      | ready=>simp only [LStR] at m2;exact ⟨r2,.inl (run_endLoop m1 (by rw [m2];simp))⟩
      | done=>simp only [LStR] at m2;exact ⟨r2,.inl (run_endLoop m1 (by rw [m2];simp))⟩
      | over=>simp only [LStR] at m2;exact ⟨r2,.inl (run_endLoop m1 (by rw [m2];simp))⟩
     have post:∀ {s0:LSt} {p0:Option Jump} {st2:St} {e2:Ex} {x:Exit},setLoop st1 st.heap.length .over id=some (s0,p0,st2)→s0 ≠ .busy→(∀ G w,ExR G w e2 x)→(e2,tm,st2)=(e,tm',st') →
       ∃ r2:Loop,JumpR p0 r2.pending∧(Instr.endLoop l).run P w3 = .ok r2.pending (w3.putObj l (.loop { r2 with state := .exhausted }))∧Post P B0 w0 B G st w e tm' st' x { a with defers:=mark++a.defers } (w3.putObj l (.loop { r2 with state := .exhausted })):=by
      intro s0 p0 st2 e2 x hsl hnb hex heq
      cases heq
      obtain ⟨g2,r2,m1,m2,m3,m4⟩:=setLoop_ok hw2 (hx2.pres.be hbe) hsl
      obtain ⟨hw4,hx4⟩:=m4 .exhausted r2.pending rfl m3
      have hrs:r2.state ≠ .busy:=by
       cases s0 <;> simp only [LStR] at m2 <;> rw [m2] <;> first|exact absurd rfl hnb|simp
      have hx:Ext G st.heap w G2 _ _ _:=(hx1.transMin hx2 g1.1).transMin hx4 g2.1
      have hp4:Pres G1 w1 G2 (w3.putObj l (.loop { r2 with state := .exhausted })):=hx2.pres.trans hx4.pres
      refine ⟨r2,m3,run_endLoop m1 hrs,G2,hw4,hx,hex _ _,.inr (VRL.mono hx.pres ht),?_⟩
      have hd2:=(hd1.ext hx2 (Nat.le_refl _)).le hx2.size
      exact (hd2.ext hx4 (Nat.le_refl _)).le hx4.size
     split at hs
     ·rename_i st2 hsl
      obtain ⟨r2,m1,m2,m3⟩:=post (e2 := .normal) (x := .normal) hsl (by simp) (fun _ _=>rfl) (Option.some.inj hs)
      simp only [JumpR] at m1
      rw [m1] at m2 m3
      exact ⟨none,_,m2,m3⟩
     ·rename_i st2 hsl
      obtain ⟨r2,m1,m2,m3⟩:=post (e2 := .ret) (x := .ret) hsl (by simp) (fun _ _=>rfl) (Option.some.inj hs)
      simp only [JumpR] at m1
      rw [m1] at m2 m3
      exact ⟨some .ret,_,m2,wpIn_ret m3⟩
     ·rename_i id st2 hsl
      obtain ⟨r2,m1,m2,m3⟩:=post (e2 := .exit id) (x := .exit id) hsl (by simp) (fun _ _=>rfl) (Option.some.inj hs)
      simp only [JumpR] at m1
      rw [m1] at m2 m3
      exact ⟨some (.exit id),_,m2,wpIn_exit m3⟩
     ·cases hs
   refine wpIn_rangeFunc (fun fn hfn=>?_)
   have lay:∀ (wa:World) (hwa:WR P B0 w0 G st.heap wa) (hxa:Ext G st.heap w G st.heap wa st.lo) (r:Loop),r.tmps=a.tmps→r.params=ps→r.assign=as→r.body=bd→r.state = .ready→r.pending=none →
     WR P B0 w0 { G with be:=upd G.be st.heap.length (some wa.heap.size) } (st.heap++[.loop tm ps.toList das dbd .ready none]) (wa.alloc (.loop r)) ∧
     Ext G st.heap w { G with be:=upd G.be st.heap.length (some wa.heap.size) } (st.heap++[.loop tm ps.toList das dbd .ready none]) (wa.alloc (.loop r)) st.lo:=by
    intro wa hwa hxa r h1 h2 h3 h4 h5 h6
    obtain ⟨k1,k2⟩:=alloc_obj hwa (.loop tm ps.toList das dbd .ready none) (.loop r) (fun G' w' hp hh hb=>by
     refine ⟨r,hh,?_,by rw [h2],⟨mu,by rw [h3];exact hcA,by rw [h4];exact hcB⟩,h5,h6⟩
     rw [h1]
     exact VRL.mono (hxa.pres.trans hp) ht)
    exact ⟨k1,hxa.trans (k2 _)⟩
   rcases hF with rfl|⟨l0,rfl⟩
   ·obtain ⟨a1,a2⟩:=alloc_raw (lo:=st.lo) hw (.deferred (some []))
    obtain ⟨b1,b2⟩:=lay _ a1 a2 { state := .ready,pending:=none,fn,tmps:=a.tmps,params:=ps,assign:=as,body:=bd,defers:=w.heap.size } rfl rfl rfl rfl rfl rfl
    refine main fn _ _ _ _ (run_enterLoop_outer _ _ _ _ _) ?_ b1 b2 ?_
    ·show upd _ _ _ _=_
     rw [upd_same,size_alloc]
    ·have hne:∀ l,(upd G.be st.heap.length (some (w.alloc (.deferred (some []))).heap.size)) l≠some w.heap.size:=by
      intro l hl
      by_cases h:l=st.heap.length
      ·subst h;rw [upd_same,size_alloc] at hl;simp at hl
      ·rw [upd_ne _ _ h] at hl;have:=(hw.obj hl).2.1;omega
     refine ⟨w.heap.size,rfl,⟨hB,by rw [size_alloc,size_alloc];omega⟩,?_,hne,fun t e he=>?_,?_,?_⟩
     ·rw [heap_alloc_lt _ _ (by rw [size_alloc];omega)]
      exact World.alloc_heap_new _ _
     ·have:=(hw.tag he).2.1;omega
     ·cases hcm:G.cm w.heap.size with
      | none=>rfl
      | some k=>have:=hw.cmLt hcm;omega
     ·exact hd.ext b2 (Nat.le_refl _)
   ·obtain ⟨r0,hr0⟩:=hro l0 rfl
    obtain ⟨b1,b2⟩:=lay _ hw (.refl _ _ _ _) { state := .ready,pending:=none,fn,tmps:=a.tmps,params:=ps,assign:=as,body:=bd,defers:=r0.defers } rfl rfl rfl rfl rfl rfl
    refine main fn _ _ _ _ (run_enterLoop_inner hr0 _ _ _ _ _) ?_ b1 b2 ?_
    ·show upd _ _ _ _=_
     rw [upd_same]
    ·exact (hd.ext b2 (Nat.le_refl _)).le b2.size
  ·cases hs
 ·cases hs
end
end Go.Den
end
section
namespace Go.Den
section
variable {P:Program} {B0:Nat} {w0:World} {G:Gh} {st:St} {w:World} {tm:List PV} {a:Act} {E:Env}
theorem post_refl {B:Nat} {e:Ex} {x:Exit} (hw:WR P B0 w0 G st.heap w) (ht:VRL G w tm a.tmps.toList) (hd:DefsOK B G w a.defers w.heap.size) (he:ExR G w e x):Post P B0 w0 B G st w e tm st x a w :=
 ⟨G,hw,.refl _ _ _ _,he,.inr ht,hd⟩
theorem code_step (hE:EnvOK P E) (N:Nat) (ih:∀ j,j≤N→SoundCode P B0 w0 (run E j)) (hgc:∀ j,GrowCall (run E j)) (hg:∀ j,GrowCode (run E j)) (hcall:SoundCall P B0 w0 (run E N)) (hdraw:SoundDraw P B0 w0 E (run E N)):SoundCode P B0 w0 (run E (N+1)):=by
 intro mu c dc hc tm st e tm' st' hs hlo F n hF B G w a hw ht hB hd hro
 have ihN:=ih N (Nat.le_refl _)
 cases c with
 | skip =>
  simp only [codeC] at hc;cases hc
  simp only [run,stepCode] at hs;cases hs
  exact wpIn_skip (post_refl hw ht hd rfl)
 | label l =>
  simp only [codeC] at hc;cases hc
  simp only [run,stepCode] at hs;cases hs
  exact wpIn_label (post_refl hw ht hd rfl)
 | exit id =>
  simp only [codeC] at hc;cases hc
  simp only [run,stepCode] at hs;cases hs
  exact wpIn_exit (post_refl hw ht hd rfl)
 | ret =>
  simp only [codeC] at hc;cases hc
  simp only [run,stepCode] at hs;cases hs
  exact wpIn_ret (post_refl hw ht hd rfl)
 | region id ops draw =>
  have hc0:=hc
  simp only [codeC] at hc
  split at hc
  ·rename_i ds hds
   cases draw with
   | false =>
    simp only [Bool.false_eq_true,if_false] at hc;cases hc
    simp only [run,stepCode] at hs
    obtain ⟨_,h1⟩:=ops_ok hE hcall ops.toList 0 ds tm st e tm' st' rfl hds hs hlo
    refine wpIn_region ?_
    have:=h1 F n hF B G w a hw ht hd
    rw [List.range_eq_range']
    simpa using this
   | true =>
    simp only [if_true] at hc
    split at hc
    ·cases hc
     simp only [run,stepCode] at hs
     split at hs
     ·rename_i fs hs1
      split at hs
      ·rename_i hfo
       cases hs
       exact hdraw mu id ops _ _ hc0 tm st _ _ _ fs hs1 hfo hlo F n hF B G w a hw ht hd
      ·cases hs
     ·cases hs
    ·cases hc
  ·cases hc
 | seq x y =>
  simp only [codeC] at hc
  split at hc
  ·rename_i dx dy h1 h2
   cases hc
   simp only [run,stepCode] at hs
   refine wpIn_seq ?_
   split at hs
   ·rename_i tm1 st1 hb
    have g1:=hg N _ _ _ _ _ _ hb hlo
    refine wpIn_mono (ihN mu _ _ h1 _ _ _ _ _ hb hlo F n hF B G w a hw ht hB hd hro) (fun x1 a1 w1 hp=>?_)
    obtain ⟨G1,hw1,hx1,he1,ht1,hd1⟩:=hp
    simp only [ExR] at he1;subst he1
    have g2:=hg N _ _ _ _ _ _ hs (g1.hlo hlo)
    exact wpIn_mono (ihN mu _ _ h2 _ _ _ _ _ hs (g1.hlo hlo) F n hF B G1 w1 a1 hw1 (ht1.resolve_left id) (Nat.le_trans hB hx1.size) hd1 (hro.ext hx1)) (fun x2 a2 w2 hp2=>hp2.from hx1 rfl g2)
   ·rename_i hne
    refine wpIn_mono (ihN mu _ _ h1 _ _ _ _ _ hs hlo F n hF B G w a hw ht hB hd hro) (fun x1 a1 w1 hp=>?_)
    obtain ⟨G1,hw1,hx1,he1,ht1,hd1⟩:=hp
    exact then_of_ne he1 (fun he=>by subst he;exact hne _ _ hs) ⟨G1,hw1,hx1,he1,ht1,hd1⟩
  ·cases hc
 | cond c x y =>
  simp only [codeC] at hc
  split at hc
  ·rename_i dd dx dy h0 h1 h2
   cases hc
   have hx:=opd_ok ht h0
   simp only [run,stepCode] at hs
   split at hs
   ·rename_i hev
    rw [hev] at hx
    exact wpIn_cond_true hx.bool_inv (ihN mu _ _ h1 _ _ _ _ _ hs hlo F n hF B G w a hw ht hB hd hro)
   ·rename_i hev
    rw [hev] at hx
    exact wpIn_cond_false hx.bool_inv (ihN mu _ _ h2 _ _ _ _ _ hs hlo F n hF B G w a hw ht hB hd hro)
   ·cases hs
  ·cases hc
 | block id c =>
  simp only [codeC] at hc
  obtain ⟨dc',h1,h2⟩:=Option.map_eq_some_iff.1 hc
  cases h2
  simp only [run,stepCode] at hs
  refine wpIn_block ?_
  split at hs
  ·rename_i i tm1 st1 hb
   refine wpIn_mono (ihN mu _ _ h1 _ _ _ _ _ hb hlo F n hF B G w a hw ht hB hd hro) (fun x1 a1 w1 hp=>?_)
   obtain ⟨G1,hw1,hx1,he1,ht1,hd1⟩:=hp
   simp only [ExR] at he1;subst he1
   split at hs
   ·rename_i hi
    cases hs
    subst hi
    show (if _=_ then _ else _)
    rw [if_pos rfl]
    exact ⟨G1,hw1,hx1,rfl,.inr (ht1.resolve_left id),hd1⟩
   ·rename_i hi
    cases hs
    show (if _=_ then _ else _)
    rw [if_neg hi]
    exact ⟨G1,hw1,hx1,rfl,ht1,hd1⟩
  ·rename_i hne
   refine wpIn_mono (ihN mu _ _ h1 _ _ _ _ _ hs hlo F n hF B G w a hw ht hB hd hro) (fun x1 a1 w1 hp=>?_)
   have hp0:=hp
   obtain ⟨G1,hw1,hx1,he1,ht1,hd1⟩:=hp
   cases e with
   | normal=>simp only [ExR] at he1;subst he1;exact hp0
   | ret=>simp only [ExR] at he1;subst he1;exact hp0
   | exit i=>exact absurd hs (hne _ _ _)
   | panic v=>obtain ⟨u,rfl,_⟩:=he1;exact hp0
 | loop c =>
  simp only [codeC] at hc
  obtain ⟨dc',h1,h2⟩:=Option.map_eq_some_iff.1 hc
  cases h2
  exact loop_ok mu h1 (N+1) (fun j hj=>ih j (by omega)) hg hs hlo hF hw ht hB hd hro
 | scope c =>
  simp only [codeC] at hc
  obtain ⟨dc',h1,h2⟩:=Option.map_eq_some_iff.1 hc
  cases h2
  simp only [run,stepCode] at hs
  refine wpIn_scope (wpIn_mono (ihN mu _ _ h1 _ _ _ _ _ hs hlo F n hF B G w a hw ht hB hd hro) (fun x1 a1 w1 hp=>?_))
  obtain ⟨G1,hw1,hx1,he1,ht1,hd1⟩:=hp
  exact noGoto_of he1 ⟨G1,hw1,hx1,he1,ht1,hd1⟩
 | rangeFunc f ps as bd =>
  simp only [codeC] at hc
  split at hc
  ·rename_i d das dbd h0 h1 h2
   cases hc
   exact rangeFunc_ok (E:=E) mu h0 h1 h2 (hgc N) hcall hs hlo hF hw ht hB hd hro
  ·cases hc
 | _=>simp [codeC] at hc
theorem call_step (hE:EnvFn P E) (hP:PrimOK P B0 w0 E) (hPg:PrimGrows E) {rec:Rec} (hgc:GrowCall rec) (hg:GrowCode rec) (hcall:SoundCall P B0 w0 rec) (hcode:SoundCode P B0 w0 rec):SoundCall P B0 w0 ⟨stepCode E rec,stepCall E rec⟩:=by
 intro f args st r st' hs hlo
 refine ⟨stepCall_grows (E:=E) hPg hgc hg _ _ _ _ _ hs hlo,fun G w fv avs hw hf ha=>?_⟩
 simp only [stepCall] at hs
 split at hs
 ·rename_i g fa fc
  simp only [VR] at hf
  obtain ⟨a',c',rfl,hva,hvc⟩:=hf
  intro fi ca hfv
  cases hfv
  have:=enter_ok hE hP hgc hg hcall hcode hs hlo hw ((hva.append ha).append hvc)
  refine ⟨this.1,fun n=>?_⟩
  have h2:=this.2 n
  have he:(a'.toList++avs++c'.toList).toArray=a'++avs.toArray++c':=Array.ext' (by simp)
  rwa [he] at h2
 ·rename_i l
  simp only [VR] at hf
  obtain ⟨b,hb,rfl⟩:=hf
  intro b' hb'
  cases hb'
  exact round_ok hg hcode hs hlo hw ha hb
 ·cases hs
theorem run_sound (hE:EnvOK P E) (hF:EnvFn P E) (hP:PrimOK P B0 w0 E) (hPg:PrimGrows E) (hdraw:∀ rec,GrowCall rec→SoundCall P B0 w0 rec→SoundDraw P B0 w0 E rec):∀ N,SoundCall P B0 w0 (run E N)∧SoundCode P B0 w0 (run E N):=by
 have hgr:=run_grows hPg
 intro N
 induction N using Nat.strongRecOn with
 | _ N ih =>
  cases N with
  | zero=>exact ⟨fun _ _ _ _ _ h=>(by simp [run] at h),fun _ _ _ _ _ _ _ _ _ h=>(by simp [run] at h)⟩
  | succ N =>
   have h:=ih N (Nat.lt_succ_self _)
   exact ⟨call_step hF hP hPg (hgr N).1 (hgr N).2 h.1 h.2,
    code_step hE N (fun j hj=>(ih j (by omega)).2) (fun j=>(hgr j).1) (fun j=>(hgr j).2) h.1 (hdraw _ (hgr N).1 h.1)⟩
end
end Go.Den
end
section
namespace Go.Den
section
variable {E:Env} {rec:Rec} {tm tm2:List PV} {st:St}
def Agree (tm tm2:List PV) (ts:List Nat):Prop:=∀ t,t∈ts→tm[t]? = tm2[t]?
theorem Agree.append {a b:List Nat}:Agree tm tm2 (a++b)↔Agree tm tm2 a∧Agree tm tm2 b :=
 ⟨fun h=>⟨fun t ht=>h t (by simp [ht]),fun t ht=>h t (by simp [ht])⟩,fun h t ht=>by
  rcases List.mem_append.1 ht with h'|h'
  ·exact h.1 t h'
  ·exact h.2 t h'⟩
theorem Agree.ev {x:Opd} (h:Agree tm tm2 x.reads):x.ev tm=x.ev tm2:=by
 cases x with
 | t i =>
  have:=h i (by simp [Opd.reads])
  simp only [Opd.ev,List.getD_eq_getElem?_getD,this]
 | c v=>rfl
theorem Agree.evs {xs:List Opd} (h:Agree tm tm2 (lreads xs)):Den.evs tm xs=Den.evs tm2 xs:=by
 unfold Den.evs
 induction xs with
 | nil=>rfl
 | cons x xs ih =>
  simp only [lreads,Agree.append] at h
  simp only [List.map_cons]
  rw [h.1.ev,ih h.2]
theorem Agree.bound {x:Option Opd} (h:Agree tm tm2 (oreads x)) (d:Nat):Den.bound tm x d=Den.bound tm2 x d:=by
 cases x with
 | none=>rfl
 | some x =>
  simp only [oreads] at h
  simp only [Den.bound,h.ev]
theorem Agree.fill:∀ {ps:List (Nat×Nat×Opd)} {cs:List PV},Agree tm tm2 (preads ps)→fillD tm cs ps=fillD tm2 cs ps
 | [],cs,_=>rfl
 | (off,size,x)::ps,cs,h=>by
  simp only [preads,Agree.append] at h
  simp only [fillD]
  rw [h.1.ev]
  split
  ·exact Agree.fill h.2
  ·rfl
theorem stepOp_congr {d:DOp} (h:Agree tm tm2 d.reads):stepOp E rec tm st d=stepOp E rec tm2 st d:=by
 cases d <;> simp only [DOp.reads,Agree.append] at h <;> simp only [stepOp]
 case build=>rw [Agree.fill h]
 case buildSlice=>rw [Agree.fill h]
 case buildSliceS=>rw [Agree.fill h]
 case mkFunc=>rw [Agree.evs h.1,Agree.evs h.2]
 case slice=>rw [h.1.1.ev];simp only [Agree.bound h.1.2,Agree.bound h.2]
 case sliceStr=>rw [h.1.1.ev];simp only [Agree.bound h.1.2,Agree.bound h.2]
 case minmax=>rw [h.1.ev,Agree.evs h.2]
 case call=>rw [h.1.ev,Agree.evs h.2]
 case invoke=>rw [h.1.ev,Agree.evs h.2]
 case pick=>rw [h.1.1.ev,h.1.2.ev,h.2.ev]
 case mapUpdate=>rw [h.1.1.ev,h.1.2.ev,h.2.ev]
 case updateI=>rw [h.1.1.ev,h.1.2.ev,h.2.ev]
 case buildSliceA=>rw [Agree.fill h]
 all_goals first
  | rfl
  | (rw [h.ev];done)
  | (rw [h.1.ev,h.2.ev];done)
theorem wants_congr {g:Option (Nat×Bool)} (h:Agree tm tm2 (match g with|some (g,_)=>[g]|none=>[])):wants tm g=wants tm2 g:=by
 cases g with
 | none=>rfl
 | some p =>
  obtain ⟨i,b⟩:=p
  have:=h i (by simp)
  simp only [wants,this]
theorem light_val {d:DOp} (hw:weight d=0) {r:OpR} (h:stepOp E rec tm st d=some r):∃ v,r = .val v st∧∀ st2,stepOp E rec tm st2 d=some (.val v st2):=by
 cases d <;> simp only [weight] at hw <;> first|(cases hw;done)|skip
 all_goals
  simp only [stepOp] at h ⊢
  repeat' (split at h)
  all_goals first
   | (cases h;done)
   | (cases h;exact ⟨_,rfl,fun _=>by simp_all⟩)
   | (obtain ⟨v,h1,h2⟩:=Option.map_eq_some_iff.1 h;cases h2;exact ⟨_,rfl,fun _=>by simp_all⟩)
theorem look_val {d:DOp} (hw:weight d=1) {r:OpR} (h:stepOp E rec tm st d=some r):∃ v,r = .val v st∧∀ st2,(∀ l m lo,footOf tm d m lo = .ld l→st2.heap[l]? = st.heap[l]?)→stepOp E rec tm st2 d=some (.val v st2):=by
 cases d <;> simp only [weight] at hw <;> first|(cases hw;done)|skip
 all_goals
  simp only [stepOp,footOf] at h ⊢
  repeat' (split at h)
  all_goals first
   | (cases h;done)
   | (cases h;exact ⟨_,rfl,fun _ hh=>by simp_all⟩)
   | (obtain ⟨v,h1,h2⟩:=Option.map_eq_some_iff.1 h;cases h2;exact ⟨_,rfl,fun _ hh=>by simp_all⟩)
theorem foot_ld {d:DOp} {m lo l:Nat} (h:footOf tm d m lo = .ld l):weight d=1:=by
 cases d <;> simp only [footOf] at h <;> (try rfl) <;> (repeat' (split at h)) <;> cases h
mutual
theorem same_eq:∀ {p q:PV},p.same q=true→p=q
 | .bool _,q,h=>by cases q <;> simp_all [PV.same]
 | .int _ _,q,h=>by cases q <;> simp_all [PV.same]
 | .str s,q,h=>by
  cases q <;> simp only [PV.same,Bool.false_eq_true,decide_eq_true_eq] at h
  rename_i s'
  obtain ⟨d⟩:=s
  obtain ⟨d'⟩:=s'
  simp only at h
  rw [h]
 | .ptr _ _,q,h=>by cases q <;> simp_all [PV.same]
 | .cptr cs,q,h=>by
  cases q <;> simp only [PV.same,Bool.false_eq_true] at h
  rw [sameL_eq h]
 | .nilptr,q,h=>by cases q <;> simp_all [PV.same]
 | .slice (.tag t z) n cs,q,h=>by
  cases q <;> simp only [PV.same,Bool.false_eq_true] at h
  rename_i o n' ds
  cases o <;> simp only [Bool.false_eq_true,Bool.and_eq_true,decide_eq_true_eq] at h
  obtain ⟨⟨⟨h1,h2⟩,h3⟩,h4⟩:=h
  rw [h1,h2,h3,sameL_eq h4]
 | .slice .shared n cs,q,h=>by
  cases q <;> simp only [PV.same,Bool.false_eq_true] at h
  rename_i o n' ds
  cases o <;> simp only [Bool.false_eq_true,Bool.and_eq_true,decide_eq_true_eq] at h
  obtain ⟨h3,h4⟩:=h
  rw [h3,sameL_eq h4]
 | .nilslice,q,h=>by cases q <;> simp_all [PV.same]
 | .hslice _ _ _,q,h=>by cases q <;> simp_all [PV.same]
 | .vslice _ _ _,q,h=>by cases q <;> simp_all [PV.same]
 | .aptr _ _,q,h=>by cases q <;> simp_all [PV.same]
 | .map _,q,h=>by cases q <;> simp_all [PV.same]
 | .nilmap,q,h=>by cases q <;> simp_all [PV.same]
 | .func f a c,q,h=>by
  cases q <;> simp only [PV.same,Bool.false_eq_true,Bool.and_eq_true,decide_eq_true_eq] at h
  obtain ⟨⟨h1,h2⟩,h3⟩:=h
  rw [h1,sameL_eq h2,sameL_eq h3]
 | .nilfunc,q,h=>by cases q <;> simp_all [PV.same]
 | .yield _,q,h=>by cases q <;> simp_all [PV.same]
 | .iface t v,q,h=>by
  cases q <;> simp only [PV.same,Bool.false_eq_true,Bool.and_eq_true,decide_eq_true_eq] at h
  rw [h.1,same_eq h.2]
 | .niliface,q,h=>by cases q <;> simp_all [PV.same]
 | .agg cs,q,h=>by
  cases q <;> simp only [PV.same,Bool.false_eq_true] at h
  rw [sameL_eq h]
 | .tuple cs,q,h=>by
  cases q <;> simp only [PV.same,Bool.false_eq_true] at h
  rw [sameL_eq h]
theorem sameL_eq:∀ {p q:List PV},sameL p q=true→p=q
 | [],q,h=>by cases q <;> simp_all [sameL]
 | v::vs,q,h=>by
  cases q <;> simp only [sameL,Bool.false_eq_true,Bool.and_eq_true] at h
  rw [same_eq h.1,sameL_eq h.2]
end
theorem sameO_eq {a b:Option HObj} (h:sameO a b=true):a=b:=by
 unfold sameO at h
 split at h
 ·rw [sameL_eq h]
 ·cases h
theorem foot_sound0 {d:DOp} (hw:weight d=2) (hg:GrowCall rec) {r:OpR} (h:stepOp E rec tm { st with lo:=st.heap.length } d=some r) {l:Nat} (hl:l<st.heap.length) (hc:clash l (footOf tm d st.heap.length r.nst.lo)=false):r.nst.heap[l]? = st.heap[l]? := by
 have hgr:=stepOp_grows hg (Nat.le_refl _) h
 have gen:(footOf tm d st.heap.length r.nst.lo=if st.heap.length≤r.nst.lo then .quiet else .wr r.nst.lo)→r.nst.heap[l]? = st.heap[l]? := by
  intro hf
  refine hgr.2.2 l ?_ hl
  rw [hf] at hc
  split at hc
  ·omega
  ·simpa [clash] using hc
 cases d <;> simp only [weight] at hw <;> first|(cases hw;done)|skip
 case store sz a x =>
  simp only [stepOp] at h
  split at h
  ·rename_i l' off hev
   simp only [footOf,hev,clash,beq_eq_false_iff_ne] at hc
   split at h
   ·split at h
    ·cases h
     simp only [OpR.nst,setVar]
     rw [List.getElem?_set_ne (Ne.symm hc)]
    ·cases h
   ·cases h
  ·rename_i l' off hev
   simp only [footOf,hev,clash,beq_eq_false_iff_ne] at hc
   split at h
   ·split at h
    ·cases h
     simp only [OpR.nst,setVar]
     rw [List.getElem?_set_ne (Ne.symm hc)]
    ·cases h
   ·cases h
  ·cases h
 all_goals exact gen rfl
theorem foot_sound {d:DOp} (hw:weight d=2) (hg:GrowCall rec) {r:OpR} (h:stepOp E rec tm { st with lo:=st.heap.length } d=some r) {l:Nat} (hl:l<st.heap.length) (hc:clash l (fineOf d (footOf tm d st.heap.length r.nst.lo) st.heap r.nst.heap)=false):r.nst.heap[l]? = st.heap[l]? := by
 cases h0:clash l (footOf tm d st.heap.length r.nst.lo) with
 | false=>exact foot_sound0 hw hg h hl h0
 | true =>
  unfold fineOf at hc
  split at hc
  ·rename_i lo heq
   rw [heq] at h0
   simp only [clash] at h0 hc
   rw [h0] at hc
   exact (sameO_eq (by simpa using hc)).symm
  ·rename_i lo heq
   rw [heq] at h0
   simp only [clash] at h0 hc
   rw [h0] at hc
   exact (sameO_eq (by simpa using hc)).symm
  ·rw [h0] at hc;cases hc
end
theorem foldl_bits (acc:List Nat):∀ (ps:List Nat) (m i:Nat),(ps.foldl (fun m p=>m ||| 2 ^ p ||| acc.getD p 0) m).testBit i=true→m.testBit i=true∨∃ p,p∈ps∧(i=p∨(acc.getD p 0).testBit i=true)
 | [],m,i,h => .inl h
 | p::ps,m,i,h=>by
  simp only [List.foldl_cons] at h
  rcases foldl_bits acc ps _ i h with h1|⟨q,h1,h2⟩
  ·simp only [Nat.testBit_or,Bool.or_eq_true] at h1
   rcases h1 with (h1|h1)|h1
   ·exact .inl h1
   ·rw [Nat.testBit_two_pow] at h1
    exact .inr ⟨p,by simp,.inl (by simpa using h1:p=i).symm⟩
   ·exact .inr ⟨p,by simp,.inr h1⟩
  ·exact .inr ⟨q,by simp [h1],h2⟩
def Closed (pl:List (List Nat)) (S:Nat→Prop):Prop:=∀ j,S j→∀ p,p∈pl.getD j []→S p
theorem masks_spec (S:Nat→Prop) (pl:List (List Nat)) (hS:Closed pl S):∀ (r:List (List Nat)) (acc:List Nat),(∀ k,r.getD k []=pl.getD (acc.length+k) [])→(∀ j i,(acc.getD j 0).testBit i=true→(∀ p,p∈pl.getD j []→S p)→S i) →
  ∀ j i,((masks r acc).getD j 0).testBit i=true→(∀ p,p∈pl.getD j []→S p)→S i
 | [],acc,_,h,j,i,hb,hp=>h j i (by simpa [masks] using hb) hp
 | ps::r,acc,hr,h,j,i,hb,hp=>by
  simp only [masks] at hb
  refine masks_spec S pl hS r _ (fun k=>?_) (fun j i hb hp=>?_) j i hb hp
  ·have:=hr (k+1)
   simp only [List.getD_eq_getElem?_getD,List.getElem?_cons_succ,List.length_append,List.length_cons,List.length_nil] at this ⊢
   rw [this]
   congr 2
   omega
  ·by_cases hj:j<acc.length
   ·rw [List.getD_eq_getElem?_getD,List.getElem?_append_left hj,← List.getD_eq_getElem?_getD] at hb
    exact h j i hb hp
   ·by_cases hj':j=acc.length
    ·subst hj'
     have h0:=hr 0
     simp only [List.getD_eq_getElem?_getD,List.getElem?_cons_zero,Option.getD_some,Nat.add_zero] at h0
     rw [List.getD_eq_getElem?_getD,List.getElem?_append_right (Nat.le_refl _)] at hb
     simp only [Nat.sub_self,List.getElem?_cons_zero,Option.getD_some] at hb
     have hp':∀ p,p∈ps→S p:=fun p hq=>hp p (by rw [List.getD_eq_getElem?_getD,← h0];exact hq)
     rcases foldl_bits acc ps 0 i hb with h1|⟨p,h1,h2⟩
     ·simp at h1
     ·have hSp:=hp' p h1
      rcases h2 with h2|h2
      ·rw [h2];exact hSp
      ·exact h p i h2 (fun q hq=>hS p hSp q hq)
    ·rw [List.getD_eq_getElem?_getD,List.getElem?_eq_none (by simp;omega)] at hb
     simp at hb
theorem ordered_closed {S:Nat→Prop} {pl:List (List Nat)} (hS:Closed pl S) {i j:Nat} (h:ordered (masks pl []) i j=true) (hp:∀ p,p∈pl.getD j []→S p):S i :=
 masks_spec S pl hS pl [] (fun k=>by simp) (fun j i hb=>by simp at hb) j i h hp
theorem ordered_in {S:Nat→Prop} {pl:List (List Nat)} (hS:Closed pl S) {i j:Nat} (h:ordered (masks pl []) i j=true) (hj:S j):S i:=ordered_closed hS h (hS j hj)
end Go.Den
end

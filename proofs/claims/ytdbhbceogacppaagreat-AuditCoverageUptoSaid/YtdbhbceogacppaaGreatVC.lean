/- The abstract interpreter VI, part C. -/
import Derived.Test.YtdbhbceogacppaaGreatVB
import Derived.LoopNIn
import Derived.RangeFuncRecord
import Derived.ChangeArms
import Derived.ChangeSame
import Derived.ChangeBears
import Derived.ReadAgain
import Derived.ChangeOld
import Derived.ChangeReads
import Derived.RowKit3
import Derived.DataReads
import Derived.Test.YtdbhbceogacppaaGreatVA
import GoSem.ClaimJoined
import Derived.Lib.LaidTab
namespace Go.VI
variable {g:PG} {callE:CallE} {yieldE:Nm→List PV→Heap→Option (PV × Heap)} {rd:Bool} {os:Array Oper} {its:List DPO} {mxd:Nat} {md:Region.Mode}
variable {c0 c:Ctx} {w0 w:World} {pre past rest:List DPO} {listed:Array Bool} {F F1 Ff:Fr} {a:Act}
theorem DI.mem_its (h:DI g os its mxd md c0 w0 pre past rest listed F c w a) {x:DPO} (hx:x∈past):x∈its∧x∈pre∧x.isC=false:=by
  obtain ⟨h1,h2⟩:=(h.mem x).1 hx
  exact ⟨by rw [h.split];exact List.mem_append_left _ h1,h1,h2⟩
theorem pre_pair {x:DPO} {r:List DPO} (hS:Stat g rd os its mxd) (hsp:its=pre++x::r) {y:DPO} (hy:y∈pre):pairOK y x=true:=by
  obtain ⟨p1,p2,rfl⟩:=List.append_of_mem hy
  exact Yi hS.pairs (pre:=p1) (post:=p2++x::r) (by rw [hsp];simp) (by simp)
theorem DI.take (hS:Stat g rd os its mxd) {x:DPO} {r:List DPO} (h:DI g os its mxd md c0 w0 pre past (x::r) listed F c w a) (hx:x.isC=false) (hf:freshSlot F x.o=true) (hs:stepPO g.E callE yieldE x.o F=some F1) :
    ∃ c',DI g os its mxd md c0 w0 (pre++[x]) (x::past) r listed F1 c' w a:=by
  have hxi:x∈its:=by rw [h.split];simp
  obtain ⟨hR,d,hd,hu,hdm⟩:=hS.R hxi hx
  have hdl:d<F.tmps.length:=Nat.lt_of_lt_of_le hdm h.len
  obtain ⟨h1,v,rfl,hle,hcase,hst⟩:=stepR hd hR hs hdl hu hf
  have hunl:∀ i,¬ unl listed (x::past) i→¬ unl listed past i∧i≠d:=by
    intro i hi
    refine ⟨fun ⟨y,hy,h2⟩=>hi ⟨y,List.mem_cons_of_mem _ hy,h2⟩,fun e=>hi ⟨x,List.mem_cons_self ..,h.rl x (List.mem_cons_self ..),by rw [hd,e]⟩⟩
  have hget:∀ i,i≠d→(({ F with heap:=h1 }:Fr).put (some d) v).tmps.getD i .junk=F.tmps.getD i .junk:=by
    intro i hi
    rw [Ye,if_neg fun hx=>hi hx.1.symm]
  have others:∀ (c':Ctx),(∀ n:Nm,(∀ s,x.o.op.slot=some s→n≠F.nm s)→c'.obj n=c.obj n∧c'.gen n=c.gen n)→∀ y∈past,listed.getD y.ix false=false→∃ d,y.o.dst=some d∧Stable g.E c0 c' (({ F with heap:=h1 }:Fr).put (some d) v |> fun _=>(({ F with heap:=h1 }:Fr).put x.o.dst v)) y.o d:=by
    intro c' hc' y hy hyl
    obtain ⟨hyi,hyp,hyc⟩:=h.mem_its hy
    obtain ⟨dy,hdy,hsy⟩:=h.st y hy hyl
    obtain ⟨hRy,_⟩:=hS.R hyi hyc
    have hpair:=pre_pair hS h.split hyp
    obtain ⟨q1,q2⟩:=pair_yR hpair hx hd
    refine ⟨dy,hdy,?_⟩
    rw [hd]
    refine Stable.to hsy hRy rfl (by rw [put_len]) (fun i hi=>hget i fun e=>q1 (e ▸ hi)) (hget dy fun e=>q2 (e ▸ hdy)) (.inl hle) fun s hs=>?_
    exact hc' (F.nm s) fun s' hs' e=>pair_slots hpair hyc hx hs (by rw [hs'];congr 1;simpa [Fr.nm] using e.symm)
  have common:∀ c',FrU g c' w (({ F with heap:=h1 }:Fr).put (some d) v) (unl listed (x::past)) a→Step N0 c0 w0 c' w→(∀ n:Nm,(∀ s,x.o.op.slot=some s→n≠F.nm s)→c'.obj n=c.obj n∧c'.gen n=c.gen n) →
      (∀ s,x.o.op.slot=some s→guardE F.tmps x.o.guard=some true→c'.obj (F.nm s)=none∧c0.gen (F.nm s)<c'.gen (F.nm s))→DI g os its mxd md c0 w0 (pre++[x]) (x::past) r listed (({ F with heap:=h1 }:Fr).put (some d) v) c' w a:=by
    intro c' hfr hstep hc' hp
    refine ⟨by rw [h.split];simp,fun y=>?_,h.size,h.closed,fun y hy hyc=>?_,fun y hy=>h.rl y (List.mem_cons_of_mem _ hy),by rw [put_len];exact h.len,hfr,fun y hy hyl=>?_,hstep⟩
    · rw [List.mem_cons,h.mem y,List.mem_append,List.mem_singleton]
      constructor
      · rintro (rfl|⟨h2,h3⟩)
        · exact ⟨.inr rfl,hx⟩
        · exact ⟨.inl h2,h3⟩
      · rintro ⟨h2|h2,h3⟩
        · exact .inr ⟨h2,h3⟩
        · exact .inl h2
    · rcases List.mem_append.1 hy with hy|hy
      · exact h.cl y hy hyc
      · rw [List.mem_singleton.1 hy,hx] at hyc
        cases hyc
    · rcases List.mem_cons.1 hy with rfl|hy
      · exact ⟨d,hd,hst c0 c' hp⟩
      · obtain ⟨dy,hdy,hsy⟩:=others c' hc' y hy hyl
        rw [hd] at hsy
        exact ⟨dy,hdy,hsy⟩
  rcases hcase with ⟨rfl,hns⟩|⟨s,ob,hsl,hg,hlen',rfl,hgen⟩
  · refine ⟨c,common c ⟨by rw [put_len];exact h.fr.size,fun i hi=>?_,by rw [Yh];exact h.fr.hs,by rw [put_defers];exact h.fr.defs⟩ h.step (fun n _=>⟨rfl,rfl⟩) fun s hs hg=>?_⟩
    · obtain ⟨h2,h3⟩:=hunl i hi
      rw [hget i h3]
      exact h.fr.tmps i h2
    · rw [hns hg] at hs
      cases hs
  · have hM:=h.fr.mask
    have hlt:c.gen (F.nm s)<ob.gen:=by
      rw [hgen]
      exact hM.next (F.nm s)
    have hFl:FrRel g (c.lay (F.nm s) ob.gen none) w { F.mask (unl listed past) with heap:=hset F.heap (F.nm s) ob } a:=by
      refine FrRel.lay (ob:=ob) hM ⟨Nat.le_of_lt hlt,fun e=>by omega⟩ hlen' (More.refl w) (p:=none) (fun q b hq=>by cases hq) ?_
      have h0:∀ p,(c.lay (F.nm s) ob.gen none).obj (F.nm s)=some p→False:=fun p hp=>by rw [Ctx.lay_obj_self] at hp;cases hp
      have hg0:=Ctx.lay_gen_self c (F.nm s) ob.gen none
      cases ob with
      | mem=>exact ⟨hg0,fun p hp=>(h0 p hp).elim⟩
      | map=>exact ⟨hg0,fun p hp=>(h0 p hp).elim⟩
      | iter=>exact ⟨hg0,fun p hp=>(h0 p hp).elim⟩
      | loop=>exact ⟨hg0,fun p hp=>(h0 p hp).elim⟩
      | dead=>exact hg0
    have hstep:Step N0 c0 w0 (c.lay (F.nm s) ob.gen none) w:=h.step.trans (step_lay0 (More.refl w) hlt (fun q b hq=>by cases hq))
    refine ⟨_,common _ ⟨by rw [put_len];exact h.fr.size,fun i hi=>?_,by rw [Yh];exact hFl.hs,by rw [put_defers];exact hFl.defs⟩ hstep (fun n hn=>?_) fun s' hs' _=>?_⟩
    · obtain ⟨h2,h3⟩:=hunl i hi
      rw [hget i h3]
      have:=hFl.tmps i
      rwa [show ({ F.mask (unl listed past) with heap:=hset F.heap (F.nm s) ob }:Fr).tmps=maskU (unl listed past) F.tmps from rfl,maskU_out h2] at this
    · have hne:=hn s hsl
      exact ⟨Ctx.lay_obj c _ _ hne,Ctx.lay_gen c _ _ hne⟩
    · rw [hsl] at hs'
      simp only [Option.some.injEq] at hs'
      subst hs'
      refine ⟨Ctx.lay_obj_self ..,?_⟩
      rw [Ctx.lay_gen_self]
      exact Nat.lt_of_le_of_lt (h.step.gen _) hlt
theorem DI.advance (hS:Stat g rd os its mxd):∀ (rest pre past:List DPO) (F:Fr) (c:Ctx),DI g os its mxd md c0 w0 pre past rest listed F c w a→runD g.E callE yieldE past rest F=some Ff →
    ∃ pre' past' rest' F' c',DI g os its mxd md c0 w0 pre' past' rest' listed F' c' w a∧runD g.E callE yieldE past' rest' F'=some Ff∧∀ x r,rest'=x::r→x.isC=true
  | [],pre,past,F,c,h,hr=>⟨pre,past,[],F,c,h,hr,fun x r e=>by cases e⟩
  | x::r,pre,past,F,c,h,hr=>by
    cases hx:x.isC with
    | true=>exact ⟨pre,past,x::r,F,c,h,hr,fun y q e=>by simp only [List.cons.injEq] at e;rw [← e.1];exact hx⟩
    | false =>
      simp only [runD,hx,Bool.false_eq_true,if_false] at hr
      split at hr
      case isFalse=>cases hr
      rename_i hf
      split at hr
      · cases hr
      rename_i F1 hs
      obtain ⟨c',h'⟩:=h.take hS hx hf hs
      exact DI.advance hS r _ _ F1 c' h' hr
theorem Z7 {l:Array Bool} {i j:Nat}:(l.setIfInBounds i true).getD j false=true↔l.getD j false=true∨(i=j∧i<l.size):=by
  simp only [Array.getD_eq_getD_getElem?,Array.getElem?_setIfInBounds]
  by_cases h:i=j
  · subst h
    by_cases hl:i<l.size
    · simp [hl]
    · simp [hl]
  · simp [h]
theorem getD_set_false {l:Array Bool} {i j:Nat} (h:(l.setIfInBounds i true).getD j false=false):l.getD j false=false:=by
  cases hl:l.getD j false with
  | false=>rfl
  | true=>rw [Z7.2 (.inl hl)] at h;cases h
theorem closed_set {listed:Array Bool} (hc:ClosedL md os listed) {i:Nat} {o:Oper} (ho:os[i]?=some o) (hr:∀ e∈o.after,Region.binds md e=true→listed.getD e.on false=true):ClosedL md os (listed.setIfInBounds i true):=by
  intro k o' e hk ho' he hb
  rcases Z7.1 hk with h|⟨rfl,_⟩
  · exact Z7.2 (.inl (hc k o' e h ho' he hb))
  · rw [ho] at ho'
    simp only [Option.some.injEq] at ho'
    subst ho'
    exact Z7.2 (.inl (hr e he hb))
theorem DI.sees (hS:Stat g rd os its mxd) (h:DI g os its mxd md c0 w0 pre past rest listed F c w a) {x:DPO} (hx:x∈its) (hanc:∀ j∈x.anc,listed.getD j false=true) (hself:∀ d,x.isC=false→x.o.dst=some d→d ∉ x.o.uses) :
    ∀ i∈x.o.uses,¬ unl listed past i:=by
  rintro i hi ⟨y,hy,hyl,hyd⟩
  obtain ⟨hyi,_,hyc⟩:=h.mem_its hy
  rcases pairs_or hS.pairs hyi hx with e|hp|hp
  · subst e;exact hself i hyc hyd hi
  · have:=hanc _ ((pair_xR hp hyc hyd).1 hi)
    rw [hyl] at this
    cases this
  · exact (pair_yR hp hyc hyd).1 hi
theorem DI.sameMask {l:List Nat} (h:∀ i∈l,¬ unl listed past i):Same l F.tmps (F.mask (unl listed past)).tmps:=fun i hi=>maskU_out (h i hi) _
end Go.VI
namespace Go.VI
variable {g:PG} {callE:CallE} {yieldE:Nm→List PV→Heap→Option (PV × Heap)} {rd:Bool} {os:Array Oper} {its:List DPO} {mxd:Nat} {md:Region.Mode}
variable {c0 c:Ctx} {w0 w:World} {pre past rest:List DPO} {listed:Array Bool} {F F1 Ff:Fr} {a:Act} {Q:Exit→Act→World→Prop} {n:Nat} {ro:Option Nat}
theorem matchPO_spec {p:PPO} {o:Oper} (hm:g.matchPO rd os p o=true):p.dst=o.dst∧p.op.known=true∧(rd=true→p.op.isDefer=false)∧g.matchOp p.op o.op=true∧(match p.guard,o.guard with
    | none,none=>true
    | some (t,b),some (j,b')=>decide ((os[j]?).bind (·.dst)=some t)&&(b==b')
    | _,_=>false)=true:=by
  unfold PG.matchPO at hm
  simp only [Bool.and_eq_true,decide_eq_true_eq] at hm
  obtain ⟨⟨⟨⟨hd,hkn⟩,hdf⟩,hop⟩,hgd⟩:=hm
  refine ⟨hd,hkn,fun h=>?_,hop,hgd⟩
  subst h
  simpa using hdf
theorem unl_set {x:DPO} (hx:x∈past) (hS:∀ y∈past,y.ix=x.ix→y=x) {d:Nat} (hd:x.o.dst=some d) (hlt:x.ix<listed.size) {i:Nat} (hi:¬ unl (listed.setIfInBounds x.ix true) past i):i=d∨¬ unl listed past i:=by
  by_cases e:i=d
  · exact .inl e
  · refine .inr fun ⟨y,hy,hyl,hyd⟩=>?_
    by_cases hyx:x.ix=y.ix
    · have:=hS y hy hyx.symm
      subst this
      rw [hd] at hyd
      simp only [Option.some.injEq] at hyd
      exact e hyd.symm
    · refine hi ⟨y,hy,?_,hyd⟩
      cases hl:(listed.setIfInBounds x.ix true).getD y.ix false with
      | false=>rfl
      | true =>
        rcases Z7.1 hl with h|⟨h,_⟩
        · rw [hyl] at h;cases h
        · exact absurd h hyx
theorem DI.pickedR (hS:Stat g rd os its mxd) (h:DI g os its mxd md c0 w0 pre past rest listed F c w a) {x:DPO} (hx:x∈past) {o:Oper} (ho:os[x.ix]?=some o) (hr:∀ e∈o.after,Region.binds md e=true→listed.getD e.on false=true)
    {c':Ctx} {w':World} {a':Act} (hfr:FrU g c' w' F (unl (listed.setIfInBounds x.ix true) past) a') (hstep:Step N0 c0 w0 c' w') (hkeep:∀ y∈past,y≠x→∀ s,y.o.op.slot=some s→c.obj (F.nm s)=none→c'.gen (F.nm s)=c.gen (F.nm s)→c'.obj (F.nm s)=none) :
    DI g os its mxd md c0 w0 pre past rest (listed.setIfInBounds x.ix true) F c' w' a':=by
  obtain ⟨hxi,hxp,hxc⟩:=h.mem_its hx
  refine ⟨h.split,h.mem,by simpa using h.size,closed_set h.closed ho hr,fun y hy hyc=>Z7.2 (.inl (h.cl y hy hyc)),fun y hy=>?_,h.len,hfr,fun y hy hyl=>?_,hstep⟩
  · cases hl:(listed.setIfInBounds x.ix true).getD y.ix false with
    | false=>rfl
    | true =>
      rcases Z7.1 hl with h2|⟨h2,_⟩
      · rw [h.rl y hy] at h2;cases h2
      · have hyi:y∈its:=by rw [h.split];exact List.mem_append_right _ hy
        have e:=ix_inj hS.pairs hxi hyi h2
        subst e
        obtain ⟨p1,p2,e1⟩:=List.append_of_mem hy
        obtain ⟨q1,q2,e2⟩:=List.append_of_mem hxp
        have:=Yi hS.pairs (pre:=q1) (x:=x) (post:=q2++rest) (y:=x) (by rw [h.split,e2];simp) (by rw [e1];simp)
        exact absurd rfl (pairOK_ix this)
  · have hyx:y≠x:=by
      intro e
      subst e
      rw [Z7.2 (.inr ⟨rfl,by rw [h.size];exact (hS.item y hxi).1⟩)] at hyl
      cases hyl
    obtain ⟨d,hd,hst⟩:=h.st y hy (getD_set_false hyl)
    refine ⟨d,hd,?_⟩
    cases hst with
    | off hg hv=>exact .off hg hv
    | op hg hs v ce ye hh hv=>exact .op hg hs v ce ye hh hv
    | lay hg s ob v hs hob hl hv hp hlt =>
      have e1:=(h.fr.hs.heap _ _ hob).gen
      have e2:=(hfr.hs.heap _ _ hob).gen
      have e3:c'.gen (F.nm s)=c.gen (F.nm s):=e2.trans e1.symm
      exact .lay hg s ob v hs hob hl hv (hkeep y hy hyx s hs hp e3) (by rw [e3];exact hlt)
theorem DI.pickR (hcE:CallSound g callE) (hyE:YieldSound g yieldE) (hF:FnsOK g) (hrd:ro≠none→rd=true) (hS:Stat g rd os its mxd) (h:DI g os its mxd md c0 w0 pre past rest listed F c w a) {x:DPO} (hx:x∈past) (hl:listed.getD x.ix false=false) {o:Oper} (ho:os[x.ix]?=some o) (hr:∀ e∈o.after,Region.binds md e=true→listed.getD e.on false=true)
    {K:Act→World→Prop} (hK:∀ c' w' a',DI g os its mxd md c0 w0 pre past rest (listed.setIfInBounds x.ix true) F c' w' a'→K a' w'):wpOpIn (wR ro) n g.P os Q x.ix K a w:=by
  obtain ⟨hxi,hxp,hxc⟩:=h.mem_its hx
  obtain ⟨hR,d0,hd0,hu0,hdm⟩:=hS.R hxi hxc
  obtain ⟨o',ho',hmatch⟩:=hS.op hxi
  rw [ho] at ho'
  simp only [Option.some.injEq] at ho'
  subst ho'
  obtain ⟨d,hd,hst⟩:=h.st x hx hl
  rw [hd0] at hd
  simp only [Option.some.injEq] at hd
  subst hd
  have hanc:=ready_anc hS.anc h.closed hxi ho hr
  have hsees:=h.sees hS hxi hanc fun d _ hd=>by rw [hd0] at hd;simp only [Option.some.injEq] at hd;exact hd ▸ hu0
  have hsame:Same x.o.uses F.tmps (F.mask (unl listed past)).tmps:=DI.sameMask hsees
  have hdl:d0<F.tmps.length:=Nat.lt_of_lt_of_le hdm h.len
  have hlt:x.ix<listed.size:=by rw [h.size];exact (hS.item x hxi).1
  have hM:=h.fr.mask
  have hun:∀ {i},¬ unl (listed.setIfInBounds x.ix true) past i→i=d0∨¬ unl listed past i:=fun hi=>unl_set hx (fun y hy e=>ix_inj hS.pairs (h.mem_its hy).1 hxi e) hd0 hlt hi
  obtain ⟨hdst,hkn,hdf,hop,hgd⟩:=matchPO_spec hmatch
  have toU:∀ {c' w' a'} (v:PV),F.tmps.getD d0 .junk=v→FrRel g c' w' ((F.mask (unl listed past)).put (some d0) v) a'→FrU g c' w' F (unl (listed.setIfInBounds x.ix true) past) a':=by
    intro c' w' a' v hv hf
    refine FrU.of hf (by rw [put_len];exact (maskU_length F.tmps).symm) (by rw [Yh];rfl) (by rw [put_defers];rfl) fun i hi=>?_
    rw [Ye]
    split
    · rename_i e;rw [← e.1];exact hv
    · rename_i e
      rcases hun hi with rfl|h2
      · exact absurd ⟨rfl,by rw [show (F.mask (unl listed past)).tmps.length=F.tmps.length from maskU_length F.tmps];exact hdl⟩ e
      · exact (maskU_out h2 F.tmps).symm
  unfold wpOpIn
  rw [ho]
  cases hst with
  | off hg hv =>
    have hpo:stepPO g.E callE yieldE x.o (F.mask (unl listed past))=some ((F.mask (unl listed past)).put (some d0) (.tuple [])):=by
      unfold stepPO
      rw [Z9 hsame,hg,hd0]
    refine po_sound hcE hyE hF hM hrd hmatch hpo fun c' w' a' hs hf=>hK c' w' a' ?_
    exact h.pickedR hS hx ho hr (toU _ hv hf) (h.step.trans hs) fun y _ _ s _ hp hg=>(hs.obj _ (fun x=>x) hg).trans hp
  | op hg hs v ce ye hh hv =>
    have hst2:stepOp g.E callE yieldE x.o.dst x.o.op (F.mask (unl listed past))=some ((F.mask (unl listed past)).put (some d0) v):=by
      rw [hd0]
      have inj:∀ v',F.put (some d0) v=F.put (some d0) v'→v'=v:=by
        intro v' he
        have hle:(F.put (some d0) v).tmps.getD d0 .junk=(F.put (some d0) v').tmps.getD d0 .junk:=by rw [he]
        rw [Ye,Ye,if_pos ⟨rfl,hdl⟩,if_pos ⟨rfl,hdl⟩] at hle
        exact hle.symm
      by_cases hb:x.o.op.bare=true
      · obtain ⟨v',e1,h2⟩:=bare_same hb hh
        have:=inj v' e1
        subst this
        exact h2 _ callE yieldE (uses_op hsame)
      · have hr':x.o.op.reads=true:=by simpa [hs,hb] using hR
        obtain ⟨v',e1,h2⟩:=reads_same hr' hh
        have:=inj v' e1
        subst this
        exact h2 _ callE yieldE (uses_op hsame) (HLe.refl _)
    have hpo:stepPO g.E callE yieldE x.o (F.mask (unl listed past))=some ((F.mask (unl listed past)).put (some d0) v):=by
      unfold stepPO
      rw [Z9 hsame,hg]
      exact hst2
    refine po_sound hcE hyE hF hM hrd hmatch hpo fun c' w' a' hs' hf=>hK c' w' a' ?_
    exact h.pickedR hS hx ho hr (toU _ hv hf) (h.step.trans hs') fun y _ _ s _ hp hg=>(hs'.obj _ (fun x=>x) hg).trans hp
  | lay hg s ob v hs hob hlay hv hp hlt' =>
    have hgen:=(h.fr.hs.heap _ _ hob).gen
    have hRm:Room c (F.nm s) ob.gen:=⟨Nat.le_of_eq hgen,fun _=>hp⟩
    have hlay':layE (evX g.E (F.mask (unl listed past)).tmps) (F.nm s) x.o.op ob.gen=some (v,ob):=by rw [lay_same hs (uses_op hsame)];exact hlay
    obtain ⟨u,w',p,hrun,hMo,hfit,hobr,hv'⟩:=lay_op (o:=o) hM hRm hop hs hlay'
    have hFl:=FrRel.lay hM hRm (hget_lt hob) hMo hfit hobr
    have hheap:hset (F.mask (unl listed past)).heap (F.nm s) ob=F.heap:=hget_hset_same hob
    have hF2:FrRel g (c.lay (F.nm s) ob.gen (some p)) w' (F.mask (unl listed past)) a:=by
      have e:({ F.mask (unl listed past) with heap:=hset (F.mask (unl listed past)).heap (F.nm s) ob }:Fr)=F.mask (unl listed past):=by
        rw [hheap];rfl
      rw [e] at hFl
      exact hFl
    have hstep:Step N0 c0 w0 (c.lay (F.nm s) ob.gen (some p)) w':=h.step.trans' (Yg hMo hRm hfit) fun m hm=>.inr (by rw [hm.1];exact hlt')
    have hno:∀ cc,o.op≠.defer cc:=by
      intro cc hcc
      rw [hcc] at hop
      cases hpp:x.o.op<;>rw [hpp] at hop hs<;>simp [PG.matchOp,POp.slot] at hop hs
    have hw:Region.wanted o (yielded os a.tmps)=true:=guard_spec hM hgd (by rw [Z9 hsame];exact hg)
    simp only [hw,if_true]
    refine ⟨fun _ _=>trivial,?_⟩
    rw [show (wR ro).round=ro from rfl,Oper.semAt_eq _ _ _ hno,hrun,Oper.uponIn_value]
    refine hK _ _ _ (h.pickedR hS hx ho hr (toU v hv ?_) hstep fun y hy hyx s' hs' hp' _=>?_)
    · rw [← hdst,hd0]
      exact hF2.put (some d0) hv'
    · have hne:F.nm s'≠F.nm s:=by
        intro e
        have e2:s'=s:=by simpa [Fr.nm] using e
        subst e2
        obtain ⟨hyi,_,hyc⟩:=h.mem_its hy
        rcases pairs_or hS.pairs hyi hxi with e|hpq|hpq
        · exact hyx e
        · exact pair_slots hpq hyc hxc hs' hs
        · exact pair_slots hpq hxc hyc hs hs'
      rw [Ctx.lay_obj c _ _ hne]
      exact hp'
end Go.VI
namespace Go.VI
variable {g:PG} {callE:CallE} {yieldE:Nm→List PV→Heap→Option (PV × Heap)} {rd:Bool} {os:Array Oper} {its:List DPO} {mxd:Nat} {md:Region.Mode}
variable {c0 c:Ctx} {w0 w:World} {pre past rest:List DPO} {listed:Array Bool} {F F1 Ff:Fr} {a:Act} {Q:Exit→Act→World→Prop} {n:Nat} {ro:Option Nat}
theorem quiet_heap {o:PPO} {h1:Heap} {v:PV} (hq:quiet g.E o F.tmps=true) (hs:stepOp g.E callE yieldE o.dst o.op F=some (({ F with heap:=h1 }:Fr).put o.dst v)):h1=F.heap:=by
  unfold quiet at hq
  split at hq
  case h_2=>cases hq
  rename_i f args hop
  split at hq
  case h_2=>cases hq
  rename_i k p q hf
  split at hq
  case h_2=>cases hq
  rename_i pf hpf
  rw [hop] at hs
  simp only [stepOp] at hs
  split at hs
  case h_2=>cases hs
  rename_i v1 h2 hc
  simp only [Option.some.injEq] at hs
  have e:h2=h1:=by
    have:=congrArg Fr.heap hs
    rwa [Yh,Yh] at this
  subst e
  unfold callV at hc
  rw [hf] at hc
  simp only [doCall,hpf,hq,if_true] at hc
  split at hc
  · split at hc
    case h_2=>cases hc
    split at hc<;>simp only [Option.some.injEq,Prod.mk.injEq,reduceCtorEq] at hc
    exact hc.2.symm
  · split at hc
    case h_1=>cases hc
    split at hc
    case h_2=>cases hc
    split at hc
    case h_2=>cases hc
    split at hc<;>simp only [Option.some.injEq,Prod.mk.injEq,reduceCtorEq] at hc
    exact hc.2.symm
theorem DI.pickC (hcE:CallSound g callE) (hyE:YieldSound g yieldE) (hF:FnsOK g) (hrd:ro≠none→rd=true) (hS:Stat g rd os its mxd) {x:DPO} {r:List DPO} (h:DI g os its mxd md c0 w0 pre past (x::r) listed F c w a) (hxc:x.isC=true) (hrun:runD g.E callE yieldE past (x::r) F=some Ff) {o:Oper} (ho:os[x.ix]?=some o) (hr:∀ e∈o.after,Region.binds md e=true→listed.getD e.on false=true)
    {K:Act→World→Prop} (hK:∀ F1 c' w' a',DI g os its mxd md c0 w0 (pre++[x]) past r (listed.setIfInBounds x.ix true) F1 c' w' a'→runD g.E callE yieldE past r F1=some Ff→K a' w'):wpOpIn (wR ro) n g.P os Q x.ix K a w:=by
  have hxi:x∈its:=by rw [h.split];simp
  obtain ⟨o',ho',hmatch⟩:=hS.op hxi
  rw [ho] at ho'
  simp only [Option.some.injEq] at ho'
  subst ho'
  have hanc:=ready_anc hS.anc h.closed hxi ho hr
  have hsees:=h.sees hS hxi hanc fun d hc=>by rw [hxc] at hc;cases hc
  have hsame:Same x.o.uses F.tmps (F.mask (unl listed past)).tmps:=DI.sameMask hsees
  have hlt:x.ix<listed.size:=by rw [h.size];exact (hS.item x hxi).1
  have hM:=h.fr.mask
  have hfix:=hS.C hxi hxc
  obtain ⟨hdst,hkn,hdf,hop,hgd⟩:=matchPO_spec hmatch
  simp only [runD,hxc,if_true] at hrun
  split at hrun
  · cases hrun
  rename_i F1 hs
  split at hrun
  case isFalse=>cases hrun
  rename_i hchk
  obtain ⟨h1,v,e1,hs2,hq⟩:∃ h1 v,F1=({ F with heap:=h1 }:Fr).put x.o.dst v∧stepPO g.E callE yieldE x.o (F.mask (unl listed past))=some (({ F.mask (unl listed past) with heap:=h1 }:Fr).put x.o.dst v)∧(quiet g.E x.o F.tmps=true→h1=F.heap):=by
    unfold stepPO at hs
    split at hs
    · cases hs
    · rename_i hg
      simp only [Option.some.injEq] at hs
      refine ⟨F.heap,.tuple [],hs.symm,?_,fun _=>rfl⟩
      unfold stepPO
      rw [Z9 hsame,hg]
      rfl
    · rename_i hg
      obtain ⟨v,h1,q1,q2⟩:=fixed_same hfix hs
      refine ⟨h1,v,q1,?_,fun hq=>quiet_heap hq (by rw [hs,q1])⟩
      unfold stepPO
      rw [Z9 hsame,hg]
      exact q2 _ (uses_op hsame)
  unfold wpOpIn
  rw [ho]
  refine po_sound hcE hyE hF hM hrd hmatch hs2 fun c' w' a' hstep hf=>hK F1 c' w' a' ?_ hrun
  have hgt:∀ i,(∀ d,x.o.dst=some d→i≠d)→F1.tmps.getD i .junk=F.tmps.getD i .junk:=by
    intro i hi
    rw [e1]
    cases hd:x.o.dst with
    | none=>rfl
    | some d =>
      rw [Ye,if_neg fun hx=>hi d hd hx.1.symm]
  have hunl:∀ i,¬ unl (listed.setIfInBounds x.ix true) past i→¬ unl listed past i:=by
    rintro i hi ⟨y,hy,hyl,hyd⟩
    refine hi ⟨y,hy,?_,hyd⟩
    cases hl:(listed.setIfInBounds x.ix true).getD y.ix false with
    | false=>rfl
    | true =>
      rcases Z7.1 hl with h2|⟨h2,_⟩
      · rw [hyl] at h2;cases h2
      · have:=ix_inj hS.pairs hxi (h.mem_its hy).1 h2
        subst this
        rw [(h.mem_its hy).2.2] at hxc
        cases hxc
  have hfr:FrU g c' w' F1 (unl (listed.setIfInBounds x.ix true) past) a':=by
    refine FrU.of hf (by rw [e1,put_len,put_len];exact (maskU_length F.tmps).symm) (by rw [e1,Yh,Yh]) (by rw [e1,put_defers,put_defers];rfl) fun i hi=>?_
    rw [e1]
    cases hd:x.o.dst with
    | none=>exact (maskU_out (hunl i hi) F.tmps).symm
    | some d =>
      rw [Ye,Ye]
      have hlen:({ F.mask (unl listed past) with heap:=h1 }:Fr).tmps.length=F.tmps.length:=maskU_length F.tmps
      rw [hlen]
      split
      · rfl
      · exact (maskU_out (hunl i hi) F.tmps).symm
  refine ⟨by rw [h.split];simp,fun y=>?_,by simpa using h.size,closed_set h.closed ho hr,fun y hy hyc=>?_,fun y hy=>?_,by rw [e1,put_len];exact h.len,hfr,fun y hy hyl=>?_,h.step.trans hstep⟩
  · rw [h.mem y,List.mem_append,List.mem_singleton]
    constructor
    · rintro ⟨h2,h3⟩;exact ⟨.inl h2,h3⟩
    · rintro ⟨h2|h2,h3⟩
      · exact ⟨h2,h3⟩
      · rw [h2,hxc] at h3;cases h3
  · rcases List.mem_append.1 hy with hy|hy
    · exact Z7.2 (.inl (h.cl y hy hyc))
    · rw [List.mem_singleton.1 hy]
      exact Z7.2 (.inr ⟨rfl,hlt⟩)
  · cases hl:(listed.setIfInBounds x.ix true).getD y.ix false with
    | false=>rfl
    | true =>
      rcases Z7.1 hl with h2|⟨h2,_⟩
      · rw [h.rl y (List.mem_cons_of_mem _ hy)] at h2;cases h2
      · exact absurd h2 (pairOK_ix (Yi hS.pairs h.split hy))
  · have hyl0:=getD_set_false hyl
    obtain ⟨hyi,hyp,hyc⟩:=h.mem_its hy
    obtain ⟨hR,d,hd,hu,_⟩:=hS.R hyi hyc
    obtain ⟨d',hd',hst⟩:=h.st y hy hyl0
    rw [hd] at hd'
    simp only [Option.some.injEq] at hd'
    subst hd'
    refine ⟨d,hd,?_⟩
    have hpair:=pre_pair hS h.split hyp
    obtain ⟨hck,hwr⟩:=pair_chk hpair hyc hxc
    have hnanc:y.ix ∉ x.anc:=fun hm=>by have:=hanc _ hm;rw [hyl0] at this;cases this
    have huse:Same y.o.uses F.tmps F1.tmps:=fun i hi=>hgt i fun dx hdx e=>hnanc (hwr dx hdx (e ▸ hi))
    have hdd:F1.tmps.getD d .junk=F.tmps.getD d .junk:=hgt d fun dx hdx e=>(pair_xR hpair hyc hd).2 (e ▸ hdx)
    have hph:∀ s,y.o.op.slot=some s→c'.gen (F.nm s)=c.gen (F.nm s)→c'.obj (F.nm s)=c.obj (F.nm s):=fun s _ hg=>hstep.obj _ (fun x=>x) hg
    by_cases hqt:quiet g.E x.o F.tmps=true
    · have hh:=hq hqt
      have hgen:∀ nm ob,hget F.heap nm=some ob→c'.gen nm=c.gen nm:=fun nm ob hob=>by
        have e2:=(h.fr.hs.heap nm ob hob).gen
        have e3:=(hfr.hs.heap nm ob (by rw [e1,Yh,hh];exact hob)).gen
        exact e3.trans e2.symm
      cases hst with
      | lay hg s ob v' hs' hob hl hv hp hlt' =>
        have e3:=hgen _ _ hob
        have hst2:Stable g.E c0 c F y.o d:=.lay hg s ob v' hs' hob hl hv hp hlt'
        refine hst2.to hR (by rw [e1,put_lvl]) (by rw [e1,put_len]) huse hdd (.inl (by rw [e1,Yh,hh];exact HLe.refl _)) fun s2 hs2=>?_
        rw [hs'] at hs2
        simp only [Option.some.injEq] at hs2
        subst hs2
        exact ⟨hph s hs' e3,e3⟩
      | off hg hv=>exact .off ((Z9 huse).trans hg) (hdd.trans hv)
      | op hg hs' v' ce ye hh' hv =>
        have hst2:Stable g.E c0 c F y.o d:=.op hg hs' v' ce ye hh' hv
        exact hst2.to hR (by rw [e1,put_lvl]) (by rw [e1,put_len]) huse hdd (.inl (by rw [e1,Yh,hh];exact HLe.refl _)) fun s2 hs2=>by rw [hs'] at hs2;cases hs2
    · rcases hck with hk|⟨hb,hn⟩|hk
      · exact absurd hk hnanc
      · exact hst.to hR (by rw [e1,put_lvl]) (by rw [e1,put_len]) huse hdd (.inr ⟨hb,hn⟩) fun s2 hs2=>by rw [hn] at hs2;cases hs2
      · have hall:past.all (fun z=>!x.chk.contains z.ix||stable g.E callE yieldE F1 z.o)=true:=by simpa [hqt] using hchk
        have h2:=List.all_eq_true.1 hall y hy
        have hkc:x.chk.contains y.ix=true:=by simpa using hk
        rw [hkc] at h2
        have hstb:stable g.E callE yieldE F1 y.o=true:=by simpa using h2
        refine stable_spec hd hR hstb fun s k hs' hg1 hob1 hl1=>?_
        have hnm:F1.nm s=F.nm s:=by rw [e1];simp [Fr.nm,put_lvl]
        rw [hnm] at hob1 hl1 ⊢
        cases hst with
        | off hg hv=>rw [Z9 huse,hg] at hg1;cases hg1
        | op hg hs2 v' ce ye hh' hv=>rw [hs'] at hs2;cases hs2
        | lay hg s2 ob v' hs2 hob hl hv hp hlt' =>
          rw [hs'] at hs2
          simp only [Option.some.injEq] at hs2
          subst hs2
          obtain ⟨ob1,hob1,hk1⟩:=hob1
          obtain ⟨ev1,ob2,hl1⟩:=hl1
          rw [hdd,hv] at hl1
          have hkk:=layE_gen hl hl1
          have e2:=(h.fr.hs.heap _ _ hob).gen
          have e3:=(hfr.hs.heap _ _ hob1).gen
          have e4:c'.gen (F.nm s)=c.gen (F.nm s):=by rw [e3,e2,hk1,hkk]
          exact ⟨(hph s hs' e4).trans hp,by rw [e4];exact hlt'⟩
end Go.VI
namespace Go.VI
variable {g:PG} {callE:CallE} {yieldE:Nm→List PV→Heap→Option (PV × Heap)} {rd:Bool} {os:Array Oper} {its:List DPO} {mxd:Nat} {md:Region.Mode}
variable {c0 c:Ctx} {w0 w:World} {pre past rest:List DPO} {listed:Array Bool} {F F1 Ff fr fr':Fr} {a:Act} {Q:Exit→Act→World→Prop} {n:Nat} {ro:Option Nat}
theorem drop_sound:∀ (its:List DPO) (F:Fr) (c:Ctx),FrRel g c w F a→∃ c',Step N0 c w c' w∧FrRel g c' w (dropSl its F) a∧(dropSl its F).tmps=F.tmps
  | [],F,c,h=>⟨c,Step.refl c w,h,rfl⟩
  | it::r,F,c,h=>by
    unfold dropSl
    split
    · rename_i s _
      split
      · rename_i ob hob
        have hg:=(h.heap _ _ hob).gen
        have hlt:c.gen (F.nm s)<ob.gen+1:=by omega
        have h1:FrRel g (c.lay (F.nm s) (ob.gen+1) none) w { F with heap:=hset F.heap (F.nm s) (.dead (ob.gen+1)) } a :=
          FrRel.lay h ⟨Nat.le_of_lt hlt,fun e=>by omega⟩ (hget_lt hob) (More.refl w) (p:=none) (fun q b hq=>by cases hq) (Ctx.lay_gen_self c _ _ _)
        obtain ⟨c',h2,h3,h4⟩:=drop_sound r _ _ h1
        exact ⟨c',(step_lay0 (More.refl w) hlt (fun q b hq=>by cases hq)).trans h2,h3,h4⟩
      · exact drop_sound r F c h
    · exact drop_sound r F c h
theorem filter_less {p q:Nat→Bool} (hpq:∀ x,q x=true→p x=true) {e:Nat} (hp:p e=true) (hq:q e=false):∀ (l:List Nat),e∈l→(l.filter q).length<(l.filter p).length
  | [],h=>by cases h
  | x::l,h=>by
    have hle:∀ l:List Nat,(l.filter q).length≤(l.filter p).length:=by
      intro l
      induction l with
      | nil=>simp
      | cons y l ih =>
        simp only [List.filter_cons]
        cases hqy:q y with
        | true=>simp [hpq y hqy,ih]
        | false=>cases p y<;>simp<;>omega
    rcases List.mem_cons.1 h with rfl|h
    · have:=hle l
      simp only [List.filter_cons,hp,hq,if_true,Bool.false_eq_true,if_false,List.length_cons]
      omega
    · have:=filter_less hpq hp hq l h
      simp only [List.filter_cons]
      cases hqx:q x with
      | true=>simp [hpq x hqx];omega
      | false=>cases p x<;>simp<;>omega
def left (os:Array Oper) (listed:Array Bool):Nat:=((List.range os.size).filter fun i=>!listed.getD i false).length
theorem any_sound (hcE:CallSound g callE) (hyE:YieldSound g yieldE) (hF:FnsOK g) (hrd:ro≠none→rd=true) (hS:Stat g rd os its mxd) {L:List Nat} (hL:orderOK md os [] L=true) (hLs:∀ i∈L,i<os.size) (hLa:∀ i,i<os.size→i∈L)
    (hixs:∀ i,i<os.size→∃ x∈its,x.ix=i) (hQ:∀ c' w' a',Step N0 c0 w0 c' w'→FrRel g c' w' Ff a'→Q .normal a' w') :
    ∀ (fuel:Nat) (pre past rest:List DPO) (listed:Array Bool) (F:Fr) (c:Ctx) (w:World) (a:Act),DI g os its mxd md c0 w0 pre past rest listed F c w a→(∀ x r,rest=x::r→x.isC=true)→runD g.E callE yieldE past rest F=some Ff→left os listed≤fuel →
      wpAnyIn (wR ro) n g.P md os Q fuel listed a w:=by
  have fin:∀ (pre past rest:List DPO) (listed:Array Bool) (F:Fr) (c:Ctx) (w:World) (a:Act),DI g os its mxd md c0 w0 pre past rest listed F c w a→runD g.E callE yieldE past rest F=some Ff→(∀ i,i<os.size→listed.getD i false=true)→Q .normal a w:=by
    intro pre past rest listed F c w a h hrun hall
    have hrest:rest=[]:=by
      cases hr:rest with
      | nil=>rfl
      | cons x r =>
        have hx:x∈its:=by rw [h.split,hr];simp
        have h1:=h.rl x (by rw [hr];simp)
        rw [hall _ (hS.item x hx).1] at h1
        cases h1
    subst hrest
    simp only [runD,Option.some.injEq] at hrun
    subst hrun
    refine hQ c w a h.step (h.fr.rel ?_)
    rintro i ⟨y,hy,hyl,_⟩
    rw [hall _ (hS.item y (h.mem_its hy).1).1] at hyl
    cases hyl
  intro fuel
  induction fuel with
  | zero =>
    intro pre past rest listed F c w a h hhd hrun hleft
    have hall:∀ i,i<os.size→listed.getD i false=true:=by
      intro i hi
      have hnil:(List.range os.size).filter (fun i=>!listed.getD i false)=[]:=List.eq_nil_of_length_eq_zero (by unfold left at hleft;omega)
      have:=List.filter_eq_nil_iff.1 hnil i (List.mem_range.2 hi)
      simpa using this
    refine ⟨?_,fin _ _ _ _ _ _ _ _ h hrun hall⟩
    cases hr:Region.ready md os listed with
    | nil=>rfl
    | cons i l =>
      have hi:i∈Region.ready md os listed:=by rw [hr];simp
      obtain ⟨h1,o,ho,_⟩:=mem_ready.1 hi
      have hlt:=Zl ho
      have h2:=hall i hlt
      rw [Array.getD_eq_getD_getElem?] at h1 h2
      have:i<listed.size:=by rw [h.size];exact hlt
      rw [Array.getElem?_eq_getElem this] at h1 h2
      simp at h1 h2
      rw [h1] at h2
      cases h2
  | succ fuel ih =>
    intro pre past rest listed F c w a h hhd hrun hleft
    refine ⟨fun hr=>fin _ _ _ _ _ _ _ _ h hrun fun i hi=>progress hr L [] hL (fun i hi=>by cases hi) hLs h.size i (hLa i hi),fun i hi=>?_⟩
    obtain ⟨h1,o,ho,hpre⟩:=mem_ready.1 hi
    have hlt:=Zl ho
    have hls:i<listed.size:=by rw [h.size];exact hlt
    have hun:listed.getD i false=false:=by
      rw [Array.getD_eq_getD_getElem?] at h1 ⊢
      rw [Array.getElem?_eq_getElem hls] at h1 ⊢
      simpa using h1
    have hless:left os (listed.setIfInBounds i true)≤fuel:=by
      have:=filter_less (p:=fun k=>!listed.getD k false) (q:=fun k=>!(listed.setIfInBounds i true).getD k false) (fun k hk=>by
        have:(listed.setIfInBounds i true).getD k false=false:=by simpa using hk
        simp [getD_set_false this]) (e:=i) (by simp [hun]) (by simp [Z7.2 (.inr ⟨rfl,hls⟩)]) (List.range os.size) (List.mem_range.2 hlt)
      unfold left at hleft ⊢
      omega
    obtain ⟨x,hx,rfl⟩:=hixs i hlt
    rw [h.split] at hx
    rcases List.mem_append.1 hx with hxp|hxr
    · have hxc:x.isC=false:=by
        cases hc:x.isC with
        | false=>rfl
        | true=>rw [h.cl x hxp hc] at hun;cases hun
      exact h.pickR hcE hyE hF hrd hS ((h.mem x).2 ⟨hxp,hxc⟩) hun ho hpre fun c' w' a' h'=>ih _ _ _ _ _ c' w' a' h' hhd hrun hless
    · cases hr:rest with
      | nil=>rw [hr] at hxr;cases hxr
      | cons z r =>
        have hzc:=hhd z r hr
        subst hr
        rcases List.mem_cons.1 hxr with e|hxr'
        · subst e
          refine h.pickC hcE hyE hF hrd hS hzc hrun ho hpre fun F1 c' w' a' h' hrun'=>?_
          obtain ⟨pre2,past2,rest2,F2,c2,h2,hrun2,hhd2⟩:=h'.advance hS _ _ _ _ _ hrun'
          exact ih _ _ _ _ _ c2 w' a' h2 hhd2 hrun2 hless
        · have hp:=Yi hS.pairs h.split hxr'
          have hxi:x∈its:=by rw [h.split];exact List.mem_append_right _ (List.mem_cons_of_mem _ hxr')
          have hanc:=ready_anc hS.anc h.closed hxi ho hpre
          have:=hanc _ (pair_xC hp hzc)
          rw [h.rl z (List.mem_cons_self ..)] at this
          cases this
theorem drew_ext (w:World):Ext c w c { w with drawn:=w.drawn+1 }:=⟨Nat.le_refl _,rfl,rfl,rfl,rfl,fun _ h=>h,fun _ h=>.inl h,fun _ _=>rfl⟩
theorem draw_sound (hcE:CallSound g callE) (hyE:YieldSound g yieldE) (hF:FnsOK g) (h:FrRel g c w fr a) (hrd:ro≠none→rd=true) {id:Nat} {gcL:List Nat} (hm:g.drawOK rd os its gcL mxd=true) (hlen:Nat.ble mxd fr.tmps.length=true) (hs:runD g.E callE yieldE [] its (dropSl its fr)=some fr') (hK:Goes g c w fr' (Q .normal)) :
    (Code.region id os true).wpIn (wR ro) n g.P Q a w:=by
  unfold PG.drawOK at hm
  simp only [Bool.and_eq_true] at hm
  obtain ⟨⟨⟨⟨⟨⟨⟨h1,h2⟩,h3⟩,h4⟩,h5⟩,h6⟩,h7⟩,h8⟩:=hm
  have hS:Stat g rd os its mxd:=by
    refine ⟨fun i hi=>?_,fun x hx=>?_,h3⟩
    · have:=List.all_eq_true.1 h1 i (List.mem_range.2 hi)
      obtain ⟨x,hx,he⟩:=List.any_eq_true.1 this
      exact ⟨x,hx,Zm he⟩
    · have:=List.all_eq_true.1 h2 x hx
      simp only [Bool.and_eq_true] at this
      refine ⟨by simpa using this.1.1,this.1.2,fun d hd=>?_⟩
      have h9:=this.2
      rw [hd] at h9
      simpa using h9
  have key:∀ (md:Region.Mode) (L:List Nat),orderOK md os [] L=true→(∀ i∈L,i<os.size)→(∀ i,i<os.size→i∈L)→∀ t,wpOpsIn (wR ro) n g.P os Q (Region.linearise md os t) a { w with drawn:=w.drawn+1 }:=by
    intro md L hL hLs hLa t
    have h0:=(drew_ext (c:=c) w).frRel h
    obtain ⟨c1,hst1,hF1,ht1⟩:=drop_sound its fr c h0
    have hDI:DI g os its mxd md c { w with drawn:=w.drawn+1 } [] [] its (Array.replicate os.size false) (dropSl its fr) c1 { w with drawn:=w.drawn+1 } a:=by
      have hfalse:∀ i,(Array.replicate os.size false).getD i false=false:=by
        intro i
        rw [Array.getD_eq_getD_getElem?,Array.getElem?_replicate]
        split<;>rfl
      refine ⟨rfl,fun x=>by simp,by simp,fun i o e hi=>?_,(fun x hx=>by cases hx),fun x _=>hfalse _,by rw [ht1];exact Nat.le_of_ble_eq_true hlen,?_,fun x hx=>(by cases hx),hst1⟩
      · rw [hfalse] at hi;cases hi
      · exact ⟨hF1.size,fun i _=>hF1.tmps i,hF1.hs,hF1.defs⟩
    obtain ⟨pre2,past2,rest2,F2,c2,h2',hrun2,hhd2⟩:=hDI.advance hS _ _ _ _ _ hs
    have:=any_sound (n:=n) (Q:=Q) hcE hyE hF hrd hS hL hLs hLa hS.all (fun c' w' a' hst hf=>hK c' w' a' ((drew_ext w).step.trans hst) hf) os.size pre2 past2 rest2 _ F2 c2 _ a h2' hhd2 hrun2 (by
      unfold left
      exact Nat.le_trans (List.length_filter_le _ _) (by simp))
    exact wpAnyIn_sound os.size t _ a _ this
  have hr1:∀ i∈List.range os.size,i<os.size:=fun i hi=>List.mem_range.1 hi
  have hr2:∀ i,i<os.size→i∈List.range os.size:=fun i hi=>List.mem_range.2 hi
  refine wpIn_region_draw fun t=>?_
  unfold Region.schedule
  split
  · exact key .any _ h4 hr1 hr2 t
  · split
    · exact key .text _ h5 hr1 hr2 _
    · exact key .gc gcL h6 (fun i hi=>by simpa using List.all_eq_true.1 h7 i hi) (fun i hi=>by simpa using List.all_eq_true.1 h8 i (List.mem_range.2 hi)) _
end Go.VI
namespace Go.VI
variable {g:PG} {c:Ctx} {w:World} {fr fr':Fr} {a:Act}
def PG.at (g:PG) (lo:Nat):PG:={ g with lo:=lo }
def PG.matchC (g:PG):Bool→PC→Code→Bool
  | _,.skip,.skip=>true
  | rd,.reg ops,.region _ os false=>g.matchOps rd os ops os.toList
  | rd,.regd its gcL mxd,.region _ os true=>g.drawOK rd os its gcL mxd
  | rd,.seq p q,.seq x y=>g.matchC rd p x&&g.matchC rd q y
  | rd,.cond t p q,.cond t' x y=>g.matchX t t'&&g.matchC rd p x&&g.matchC rd q y
  | rd,.block i p,.block j x=>Nat.beq i j&&g.matchC rd p x
  | rd,.loop p,.loop x=>g.matchC rd p x
  | _,.exit i,.exit j=>Nat.beq i j
  | _,.ret,.ret=>true
  | rd,.cln _ p,x=>g.matchC rd p x
  | rd,.rangef _ f ps p q,.rangeFunc f' ps' x y=>!rd&&g.matchX f f'&&decide (ps=ps'.toList)&&g.matchC true p x&&g.matchC true q y
  | _,_,_=>false
def exitOf:PEx→Exit
  | .norm=>.normal
  | .exit id=>.exit id
  | .ret=>.ret
def EvSound (g:PG) (k:Nat):Prop:=∀ (pc:PC) (fr:Fr) (ex:PEx) (fr':Fr),evN g.E k pc fr=some (ex,fr') →
  ∀ (rd:Bool) (ro:Option Nat) (n:Nat) (code:Code) (c:Ctx) (w:World) (a:Act) (Q:Exit→Act→World→Prop),g.matchC rd pc code=true→(ro≠none→rd=true)→g.lo≤w.heap.size→FrRel g c w fr a→Goes g c w fr' (Q (exitOf ex)) →
    code.wpIn (wR ro) n g.P Q a w
def LoopSound (g:PG) (k:Nat):Prop:=∀ (pc:PC) (fr:Fr) (ex:PEx) (fr':Fr),evN g.E k (.loop pc) fr=some (ex,fr') →
  ∀ (rd:Bool) (ro:Option Nat) (n:Nat) (code:Code) (c:Ctx) (w:World) (a:Act) (Q:Exit→Act→World→Prop),g.matchC rd pc code=true→(ro≠none→rd=true)→g.lo≤w.heap.size→FrRel g c w fr a→Goes g c w fr' (Q (exitOf ex)) →
    Code.roundsIn (wR ro) n g.P code Q k a w
theorem keepE_get:∀ (l:List PV) (ks:List Nat) (k i:Nat),(keepE k ks l).getD i .junk=l.getD i .junk∨(keepE k ks l).getD i .junk=.junk
  | [],ks,k,i=>.inl (by simp [keepE])
  | v::r,[],k,0=>.inr (by simp [keepE])
  | v::r,[],k,i+1=>by
    have:=keepE_get r [] (k+1) i
    simpa [keepE] using this
  | v::r,q::ks,k,0=>by
    unfold keepE
    split
    · exact .inl (by simp)
    · exact .inr (by simp)
  | v::r,q::ks,k,i+1=>by
    unfold keepE
    split
    · have:=keepE_get r ks (k+1) i
      simpa using this
    · have:=keepE_get r (q::ks) (k+1) i
      simpa using this
theorem keepE_len:∀ (l:List PV) (ks:List Nat) (k:Nat),(keepE k ks l).length=l.length
  | [],ks,k=>by simp [keepE]
  | v::r,[],k=>by simp [keepE,keepE_len r]
  | v::r,q::ks,k=>by
    unfold keepE
    split<;>simp [keepE_len r]
theorem FrRel.cln (h:FrRel g c w fr a) (ks:List Nat):FrRel g c w { fr with tmps:=keepE 0 ks fr.tmps } a:=by
  refine ⟨(keepE_len fr.tmps ks 0).trans h.size,fun i=>?_,h.heap,h.wf,h.defs,h.hn⟩
  show VRel c w ((keepE 0 ks fr.tmps).getD i .junk) _
  rcases keepE_get fr.tmps ks 0 i with e|e
  · rw [e];exact h.tmps i
  · rw [e];exact .i _ _ (.junk _)
theorem then_exit {K:Act→World→Prop} {Q:Exit→Act→World→Prop} {ex:PEx} (h:ex≠.norm):Exit.then K Q (exitOf ex)=Q (exitOf ex):=by
  cases ex with
  | norm=>exact absurd rfl h
  | exit id=>rfl
  | ret=>rfl
theorem loop_succ {k:Nat} (hE:EvSound g k) (hL:LoopSound g k):LoopSound g (k+1):=by
  intro pc fr ex fr' hs rd ro n code c w a Q hm hrd hlo h hK
  simp only [evN] at hs
  show code.wpIn (wR ro) n g.P (Exit.then (Code.roundsIn (wR ro) n g.P code Q k) Q) a w
  split at hs
  · rename_i fr1 h1
    refine hE pc fr .norm fr1 h1 rd ro n code c w a _ hm hrd hlo h fun c1 w1 a1 hS1 hF1=>?_
    exact hL pc fr1 ex fr' hs rd ro n code c1 w1 a1 Q hm hrd (Nat.le_trans hlo hS1.size) hF1 fun c2 w2 a2 hS2 hF2=>hK c2 w2 a2 (hS1.trans hS2) hF2
  · rename_i hne
    refine hE pc fr ex fr' hs rd ro n code c w a _ hm hrd hlo h ?_
    rw [then_exit (fun e=>by subst e;exact hne _ hs)]
    exact hK
theorem ev_succ {k:Nat} (hE:EvSound g k) (hL:LoopSound g k) (hcE:CallSound g (callN g.E k)) (hyE:YieldSound g (yieldN g.E k)) (hF:FnsOK g)
    (hR:∀ s f ps p q fr ex fr',evN g.E (k+1) (.rangef s f ps p q) fr=some (ex,fr')→∀ (n:Nat) (code:Code) (c:Ctx) (w:World) (a:Act) (Q:Exit→Act→World→Prop),g.matchC false (.rangef s f ps p q) code=true→g.lo≤w.heap.size→FrRel g c w fr a→Goes g c w fr' (Q (exitOf ex))→code.wpIn (wR none) n g.P Q a w) :
    EvSound g (k+1):=by
  intro pc fr ex fr' hs rd ro n code c w a Q hm hrd hlo h hK
  cases pc with
  | skip =>
    simp only [evN,Option.some.injEq,Prod.mk.injEq] at hs
    obtain ⟨rfl,rfl⟩:=hs
    cases code<;>simp only [PG.matchC,Bool.false_eq_true] at hm
    exact wpIn_skip (hK c w a (Step.refl c w) h)
  | reg ops =>
    simp only [evN] at hs
    split at hs<;>simp only [Option.some.injEq,reduceCtorEq,Prod.mk.injEq] at hs
    rename_i fr1 h1
    obtain ⟨rfl,rfl⟩:=hs
    cases code with
    | region id os draw =>
      cases draw with
      | true=>simp only [PG.matchC,Bool.false_eq_true] at hm
      | false=>exact region_sound hcE hyE hF h hrd hm h1 hK
    | _=>simp only [PG.matchC,Bool.false_eq_true] at hm
  | regd its gcL mxd =>
    simp only [evN] at hs
    split at hs
    case isFalse=>cases hs
    rename_i hlen
    split at hs<;>simp only [Option.some.injEq,reduceCtorEq,Prod.mk.injEq] at hs
    rename_i fr1 h1
    obtain ⟨rfl,rfl⟩:=hs
    cases code with
    | region id os draw =>
      cases draw with
      | false=>simp only [PG.matchC,Bool.false_eq_true] at hm
      | true=>exact draw_sound hcE hyE hF h hrd hm hlen h1 hK
    | _=>simp only [PG.matchC,Bool.false_eq_true] at hm
  | seq p q =>
    cases code<;>simp only [PG.matchC,Bool.false_eq_true,Bool.and_eq_true] at hm
    simp only [evN] at hs
    refine wpIn_seq ?_
    split at hs
    · rename_i fr1 h1
      exact hE p fr .norm fr1 h1 rd ro n _ c w a _ hm.1 hrd hlo h fun c1 w1 a1 hS1 hF1 =>
        hE q fr1 ex fr' hs rd ro n _ c1 w1 a1 Q hm.2 hrd (Nat.le_trans hlo hS1.size) hF1 fun c2 w2 a2 hS2 hF2=>hK c2 w2 a2 (hS1.trans hS2) hF2
    · rename_i hne
      refine hE p fr ex fr' hs rd ro n _ c w a _ hm.1 hrd hlo h ?_
      rw [then_exit (fun e=>by subst e;exact hne _ hs)]
      exact hK
  | cond t p q =>
    cases code<;>simp only [PG.matchC,Bool.false_eq_true,Bool.and_eq_true] at hm
    simp only [evN] at hs
    split at hs
    case h_2=>cases hs
    rename_i b hb
    have hx:=h.x hm.1.1
    rw [hb] at hx
    refine wpIn_cond hx.bool_inv ?_
    cases b with
    | true=>exact hE p fr ex fr' hs rd ro n _ c w a Q hm.1.2 hrd hlo h hK
    | false=>exact hE q fr ex fr' hs rd ro n _ c w a Q hm.2 hrd hlo h hK
  | block id p =>
    cases code<;>simp only [PG.matchC,Bool.false_eq_true,Bool.and_eq_true] at hm
    rename_i id2 x
    have:=Zm hm.1
    subst this
    simp only [evN] at hs
    refine wpIn_block ?_
    split at hs
    · rename_i id' fr1 h1
      split at hs<;>simp only [Option.some.injEq,Prod.mk.injEq] at hs
      · rename_i hid
        obtain ⟨rfl,rfl⟩:=hs
        refine hE p fr _ _ h1 rd ro n _ c w a _ hm.2 hrd hlo h fun c1 w1 a1 hS1 hF1=>?_
        simp only [exitOf,Exit.inBlock,hid,if_true]
        exact hK c1 w1 a1 hS1 hF1
      · rename_i hid
        obtain ⟨rfl,rfl⟩:=hs
        refine hE p fr _ _ h1 rd ro n _ c w a _ hm.2 hrd hlo h fun c1 w1 a1 hS1 hF1=>?_
        simp only [exitOf,Exit.inBlock,hid,if_false]
        exact hK c1 w1 a1 hS1 hF1
    · rename_i hne
      refine hE p fr ex fr' hs rd ro n _ c w a _ hm.2 hrd hlo h fun c1 w1 a1 hS1 hF1=>?_
      cases ex with
      | norm=>exact hK c1 w1 a1 hS1 hF1
      | ret=>exact hK c1 w1 a1 hS1 hF1
      | exit id'=>exact absurd hs (hne _ _)
  | loop p =>
    cases code<;>simp only [PG.matchC,Bool.false_eq_true] at hm
    exact wpIn_loop_rounds (k+1) (loop_succ hE hL p fr ex fr' hs rd ro n _ c w a Q hm hrd hlo h hK)
  | exit id =>
    cases code<;>simp only [PG.matchC,Bool.false_eq_true] at hm
    simp only [evN,Option.some.injEq,Prod.mk.injEq] at hs
    obtain ⟨rfl,rfl⟩:=hs
    have:=Zm hm
    subst this
    exact wpIn_exit (hK c w a (Step.refl c w) h)
  | ret =>
    cases code<;>simp only [PG.matchC,Bool.false_eq_true] at hm
    simp only [evN,Option.some.injEq,Prod.mk.injEq] at hs
    obtain ⟨rfl,rfl⟩:=hs
    exact wpIn_ret (hK c w a (Step.refl c w) h)
  | cln m p =>
    simp only [evN] at hs
    have hm':g.matchC rd p code=true:=by cases code<;>simpa only [PG.matchC] using hm
    exact hE p _ ex fr' hs rd ro n _ c w a Q hm' hrd hlo (h.cln m) hK
  | rangef s f ps p q =>
    have hrd':rd=false:=by
      cases code<;>simp only [PG.matchC,Bool.false_eq_true,Bool.and_eq_true] at hm
      simpa using hm.1.1.1.1
    subst hrd'
    have hro:ro=none:=by
      cases ro with
      | none=>rfl
      | some l=>exact absurd (hrd (by simp)) (by simp)
    subst hro
    exact hR s f ps p q fr ex fr' hs n code c w a Q hm hlo h hK
end Go.VI
namespace Go.VI
variable {g:PG} {c:Ctx} {w:World} {fr fr':Fr} {a:Act}
theorem hget_push (h:Heap) (k:Nat) (n:Nm):hget (h++[List.replicate k none]) n=hget h n:=by
  unfold hget
  rcases Nat.lt_trichotomy n.1 h.length with hl|hl|hl
  · rw [List.getElem?_append_left hl]
  · rw [List.getElem?_append_right (Nat.le_of_eq hl.symm),hl,Nat.sub_self,List.getElem?_eq_none (Nat.le_refl _)]
    simp only [List.getElem?_cons_zero,Option.bind_some,Option.bind_none,List.getElem?_replicate]
    split<;>rfl
  · rw [List.getElem?_append_right (Nat.le_of_lt hl),List.getElem?_eq_none (by simp;omega),List.getElem?_eq_none (Nat.le_of_lt hl)]
theorem HS.push {h:Heap} (hs:HS g c w h) (k:Nat):HS g c w (h++[List.replicate k none]) :=
  ⟨fun n o ho=>hs.heap n o (by rwa [hget_push] at ho),hs.wf,fun n hn=>hs.hn n (by rwa [hget_push] at hn)⟩
theorem getD_lrel {l:List PV} {vs:Array Value} (h:LRel c w l vs) (i:Nat) (hi:i<l.length):VRel c w (l.getD i .junk) (vs.getD i undef):=by
  have hi':i<vs.size:=h.1 ▸ hi
  have e1:l[i]?=some l[i]:=List.getElem?_eq_getElem hi
  have e2:vs[i]?=some vs[i]:=Array.getElem?_eq_getElem hi'
  rw [List.getD,e1,Array.getD_eq_getD_getElem?,e2]
  exact h.2 i _ _ e1 e2
theorem FrRel.start {h:Heap} (hs:HS g c w h) {args:List PV} {vs:Array Value} (hl:LRel c w args vs) (m k lvl:Nat) :
    FrRel g c w { lvl:=lvl,tmps:=args++List.replicate m (.tuple []),heap:=h++[List.replicate k none],defers:=[] } { tmps:=vs++Array.replicate m undef,defers:=[] }:=by
  have hs':=hs.push k
  refine ⟨by simp [hl.1],fun i=>?_,hs'.heap,hs'.wf,.nil,hs'.hn⟩
  show VRel c w ((args++List.replicate m (PV.tuple [])).getD i .junk) ((vs++Array.replicate m undef).getD i undef)
  by_cases hi:i<args.length
  · have:=getD_lrel hl i hi
    rw [List.getD,List.getElem?_append_left hi]
    rw [Array.getD_eq_getD_getElem?,Array.getElem?_append_left (hl.1 ▸ hi)]
    rw [List.getD,Array.getD_eq_getD_getElem?] at this
    exact this
  · rw [List.getD,List.getElem?_append_right (by omega),Array.getD_eq_getD_getElem?,Array.getElem?_append_right (by rw [← hl.1];omega),← hl.1,List.getElem?_replicate,Array.getElem?_replicate]
    split
    · exact undef_rel
    · exact .i _ _ (.junk _)
def resF (tmps:Array Value):ResultVar→Sem Value
  | .tmp t=>pure (tmps.getD t undef)
  | .cell a t=>do loadVar t (← asAddr (tmps.getD a undef))
theorem results_eq (fn:Func) (tmps:Array Value):results fn tmps=(do let vs ← fn.results.mapM (resF tmps);pure (if h:vs.size=1 then vs[0] else .tuple vs)):=rfl
def matchRs (P:Program):List RV→List ResultVar→Bool
  | [],[]=>true
  | r::rs,v::vs=>(match r.cell,v with
    | none,.tmp t=>Nat.beq r.t t
    | some k,.cell a ty=>Nat.beq r.t a&&kOK P ty k
    | _,_=>false)&&matchRs P rs vs
  | _,_=>false
theorem res1 {h:Heap} (hs:HS g c w h) {tmps:List PV} {us:Array Value} (ht:∀ i,VRel c w (tmps.getD i .junk) (us.getD i undef)) {r:RV} {x:ResultVar} (hm:(match r.cell,x with
    | none,.tmp t=>Nat.beq r.t t
    | some k,.cell a ty=>Nat.beq r.t a&&kOK g.P ty k
    | _,_=>false)=true) {v:PV} (hr:rvE h tmps r=some v):∃ u,(resF us x).run g.P w=.ok u w∧VRel c w v u:=by
  unfold rvE at hr
  cases hc:r.cell with
  | none =>
    rw [hc] at hm hr
    simp only [Option.some.injEq] at hr
    cases x with
    | cell a ty=>simp at hm
    | tmp t =>
      have:=Zm hm
      subst this
      exact ⟨_,rfl,hr ▸ ht _⟩
  | some k =>
    rw [hc] at hm hr
    cases x with
    | tmp t=>simp at hm
    | cell a ty =>
      simp only [Bool.and_eq_true] at hm
      obtain ⟨h1,hk⟩:=hm
      have:=Zm h1
      subst this
      have hv:=ht r.t
      simp only at hr
      split at hr
      · rename_i cs e
        rw [e] at hv
        obtain ⟨b,o',e1,hcc,_⟩:=cellsAt_ip hv.ip_inv
        obtain ⟨u,hu,hvu⟩:=loadFrom_v (hcc.mono fun _ _ h=>VRel.i _ _ h) hk hr
        exact ⟨u,by simp [resF,e1,asAddr,hu],hvu⟩
      · rename_i n gg i off e
        split at hr
        case h_2=>cases hr
        rename_i el g' cl osz hob
        split at hr
        case isFalse=>cases hr
        rename_i hgg
        split at hr
        case h_2=>cases hr
        rename_i e' he'
        rw [e] at hv
        subst hgg
        obtain ⟨p,b,hp,hb,e1,hM⟩:=ptr_live (fr:={ lvl:=0,tmps:=[],heap:=h,defers:=[] }) hs.heap hv hob
        obtain ⟨u,hu,hvu⟩:=loadFrom_v (((hM.cellsAt hb he').drop off).mono fun _ _ h=>h.v) hk hr
        exact ⟨u,by simp [resF,e1,asAddr,hu],hvu⟩
      · cases hr
theorem resL {h:Heap} (hs:HS g c w h) {tmps:List PV} {us:Array Value} (ht:∀ i,VRel c w (tmps.getD i .junk) (us.getD i undef)):∀ (rs:List RV) (xs:List ResultVar) (l:List PV),matchRs g.P rs xs=true→mapO (rvE h tmps) rs=some l →
    ∃ vs:List Value,(xs.mapM (resF us)).run g.P w=.ok vs w∧l.length=vs.length∧∀ (i:Nat) v u,l[i]?=some v→vs[i]?=some u→VRel c w v u
  | [],[],l,_,hl=>by
    simp only [mapO,Option.some.injEq] at hl
    subst hl
    exact ⟨[],by simp,rfl,fun i v u hv=>by simp at hv⟩
  | r::rs,x::xs,l,hm,hl=>by
    simp only [matchRs,Bool.and_eq_true] at hm
    simp only [mapO] at hl
    split at hl
    · cases hl
    rename_i v0 hv0
    split at hl<;>simp only [Option.some.injEq,reduceCtorEq] at hl
    rename_i l' hl'
    subst hl
    obtain ⟨u0,h1,h2⟩:=res1 hs ht hm.1 hv0
    obtain ⟨vs,h3,h4,h5⟩:=resL hs ht rs xs l' hm.2 hl'
    refine ⟨u0::vs,by simp [List.mapM_cons,Sem.run_bind,h1,h3,Result.andThen],by simp [h4],fun i v u hv hu=>?_⟩
    cases i with
    | zero=>simp at hv hu;exact hv ▸ hu ▸ h2
    | succ i=>exact h5 i v u (by simpa using hv) (by simpa using hu)
  | [],_::_,_,hm,_=>by simp [matchRs] at hm
  | _::_,[],_,hm,_=>by simp [matchRs] at hm
theorem res_run {h:Heap} (hs:HS g c w h) {tmps:List PV} {us:Array Value} (ht:∀ i,VRel c w (tmps.getD i .junk) (us.getD i undef)) {rs:List RV} {fn:Func} (hm:matchRs g.P rs fn.results.toList=true) {v:PV} (hr:resultsE h tmps rs=some v) :
    ∃ u,(results fn us).run g.P w=.ok u w∧VRel c w v u:=by
  unfold resultsE at hr
  have key:∀ l,mapO (rvE h tmps) rs=some l→∃ vs:List Value,(results fn us).run g.P w=.ok (if h:vs.toArray.size=1 then vs.toArray[0] else .tuple vs.toArray) w∧l.length=vs.length∧∀ (i:Nat) v u,l[i]?=some v→vs[i]?=some u→VRel c w v u:=by
    intro l hl
    obtain ⟨vs,h1,h2,h3⟩:=resL hs ht rs _ l hm hl
    refine ⟨vs,?_,h2,h3⟩
    rw [results_eq,Array.mapM_eq_mapM_toList]
    simp [h1,Result.andThen]
  split at hr
  · rename_i v0 hl
    simp only [Option.some.injEq] at hr
    subst hr
    obtain ⟨vs,h1,h2,h3⟩:=key _ hl
    match vs,h2,h1,h3 with
    | [u],_,h1,h3=>exact ⟨u,by simpa using h1,h3 0 _ _ rfl rfl⟩
  · rename_i l hne hl
    simp only [Option.some.injEq] at hr
    subst hr
    obtain ⟨vs,h1,h2,h3⟩:=key _ hl
    have h4:vs.toArray.size≠1:=by
      intro h4
      have h5:l.length=1:=by rw [h2];simpa using h4
      match l,h5 with
      | [v],_=>exact hne v rfl
    refine ⟨.tuple vs.toArray,by rw [h1,dif_neg h4],?_⟩
    exact .tuple l vs.toArray (by simp [h2]) fun i v u hv hu=>h3 i v u hv (by simpa using hu)
  · cases hr
theorem VRel.same {w':World} (h:∀ b,c.imm b→w'.heap[b]?=w.heap[b]?) {v:PV} {u:Value} (hv:VRel c w v u):VRel c w' v u:=by
  induction hv with
  | i v u hi=>exact .i _ _ (hi.mono (fun _ h=>h) h)
  | agg cs us hl h1 _ ih=>exact .agg cs us hl h1 ih
  | tuple cs us hl _ ih=>exact .tuple cs us hl ih
  | fn f a b xs ys ha hb _ _ i1 i2=>exact .fn f a b xs ys ha hb i1 i2
  | slStale n g off len u hg h1=>exact .slStale n g off len u hg h1
  | slNil n g p hg hp hb=>exact .slNil n g p hg hp hb
  | sl n g off len p b hg hp hb hl=>exact .sl n g off len p b hg hp hb hl
  | slE n g off p A hg hp hl=>exact .slE n g off p A hg hp hl
  | ptrStale n g i off u hg h1=>exact .ptrStale n g i off u hg h1
  | ptr n g i off p b hg hp hb=>exact .ptr n g i off p b hg hp hb
  | mapStale n g u hg h1=>exact .mapStale n g u hg h1
  | map n g p b hg hp hb=>exact .map n g p b hg hp hb
  | yldStale n g u hg h1=>exact .yldStale n g u hg h1
  | yld n g p b hg hp hb=>exact .yld n g p b hg hp hb
theorem HS.same {w':World} {h:Heap} (hs:HS g c w h) (hz:w.heap.size≤w'.heap.size) (hi:∀ b,c.imm b→w'.heap[b]?=w.heap[b]?) (ho:∀ n p b,c.obj n=some p→p.blk=some b→w'.heap[b]?=w.heap[b]?):HS g c w' h:=by
  refine ⟨fun n ob hg=>?_,⟨fun n p b h1 h2=>Nat.lt_of_lt_of_le (hs.wf.lt n p b h1 h2) hz,hs.wf.inj,hs.wf.apart,fun b hb=>Nat.lt_of_lt_of_le (hs.wf.ilt b hb) hz,fun i v hv=>(hs.wf.glob i v hv).mono (fun _ h=>h) hi⟩,hs.hn⟩
  have hr:=hs.heap n ob hg
  cases ob with
  | mem el gg cl osz =>
    obtain ⟨h1,h2⟩:=hr
    refine ⟨h1,fun p hp=>?_⟩
    have hm:=h2 p hp
    refine ⟨hm.osz,hm.nil,hm.cap,hm.sz,fun b hb=>?_⟩
    obtain ⟨arr,E,h3,h4,h5⟩:=hm.row b hb
    refine ⟨arr,E,(ho n p b hp hb).trans h3,h4,fun i j e cv he hj=>?_⟩
    obtain ⟨u,h6,h7,h8⟩:=h5 i j e cv he hj
    refine ⟨u,h6,h7,?_⟩
    cases cl
    · exact VRel.same hi h8
    · exact IRel.mono (fun _ h=>h) hi h8
  | map es clock gg =>
    obtain ⟨h1,h2⟩:=hr
    refine ⟨h1,fun p hp=>?_⟩
    obtain ⟨b,arr,h3,h4,h5,h6⟩:=h2 p hp
    exact ⟨b,arr,h3,(ho n p b hp h3).trans h4,h5,fun i e x he hx=>⟨⟨(h6 i e x he hx).1.1.mono (fun _ h=>h) hi,(h6 i e x he hx).1.2.mono (fun _ h=>h) hi⟩,(h6 i e x he hx).2⟩⟩
  | iter m since seen gg =>
    obtain ⟨h1,h2⟩:=hr
    refine ⟨h1,fun p hp=>?_⟩
    obtain ⟨b,bm,h3,h4,h5⟩:=h2 p hp
    exact ⟨b,bm,h3,(ho n p b hp h3.1).trans h4,VRel.same hi h5⟩
  | loop tmps params assign body jump gg =>
    obtain ⟨h1,h2⟩:=hr
    refine ⟨h1,fun p hp=>?_⟩
    obtain ⟨b,h3,l,h4,h5,h6,h7,h8⟩:=h2 p hp
    exact ⟨b,h3,l,(ho n p b hp h3).trans h4,h5,h6,fun i=>VRel.same hi (h7 i),h8⟩
  | dead gg=>exact hr
theorem DefRel.put {lo r:Nat} {ob:Obj} (hi:¬ c.imm r) {ds:List (Option (Nat × List PV))} {xs:List Deferred} (h:DefRel lo c w ds xs) (hx:∀ d∈xs,d.target≠.collected r):DefRel lo c (w.putObj r ob) ds xs:=by
  have him:∀ b,c.imm b→(w.putObj r ob).heap[b]?=w.heap[b]?:=fun b hb=>World.putObj_heap_other fun e=>hi (e ▸ hb)
  induction h with
  | nil=>exact .nil
  | cons d x ds xs hd _ ih =>
    obtain ⟨caps,h1,h2,h3⟩:=hd.ex
    exact .cons d x ds xs ⟨caps,h1,h2,fun i v u hv hu=>(h3 i v u hv hu).same him⟩ (ih fun d hd=>hx d (List.mem_cons_of_mem _ hd))
  | mark r2 ds xs hlo hr ho hi2 hx2 _ ih =>
    refine .mark r2 ds xs hlo ((World.putObj_heap_other fun e=>?_).trans hr) ho hi2 hx2 (ih fun d hd=>hx d (List.mem_cons_of_mem _ hd))
    exact hx _ (List.mem_cons_self ..) (by rw [e])
theorem DefRel.lt {lo:Nat} {ds:List (Option (Nat × List PV))} {xs:List Deferred} (h:DefRel lo c w ds xs):∀ d∈xs,d.target≠.collected w.heap.size:=by
  induction h with
  | nil=>intro d hd;cases hd
  | cons d x ds xs hd _ ih =>
    intro y hy
    rcases List.mem_cons.1 hy with e|hy
    · obtain ⟨caps,h1,_⟩:=hd.ex
      rw [e,h1]
      intro h2
      cases h2
    · exact ih y hy
  | mark r ds xs hlo hr ho hi hx _ ih =>
    intro y hy
    rcases List.mem_cons.1 hy with e|hy
    · rw [e]
      intro h2
      simp only [Target.collected.injEq] at h2
      have:=Zl hr
      omega
    · exact ih y hy
def CD (g:PG):FuncId→Array Value→World→(Ending→World→Prop)→Prop:=fun f vs w R=>∀ n,CallsDIn Fence.wide n g.P f vs .returning w (fun e u' w'=>u'=.returning∧R e w')
theorem CD.mono {f:FuncId} {vs:Array Value} {R R':Ending→World→Prop} (h:CD g f vs w R) (hr:∀ e w',R e w'→R' e w'):CD g f vs w R' :=
  fun n=>(h n).mono fun e _ w' hx=>⟨hx.1,hr e w' hx.2⟩
def DefSound (g:PG) (k:Nat):Prop:=∀ (ds:List (Option (Nat × List PV))) (h h':Heap),defN g.E k ds h=some h'→∀ (lo n:Nat) (fn:Func) (tmps:Array Value) (R:Ending→World→Prop) (xs:List Deferred) (c:Ctx) (w:World),DefRel lo c w ds xs→HS g c w h →
  (∀ c' w',(∀ v u,VRel c w v u→VRel c' w' v u)→(∀ c0 (w0:World),w0.heap.size≤lo→Step N0 c0 w0 c w→Step N0 c0 w0 c' w')→HS g c' w' h'→∃ v,(results fn tmps).run g.P w'=.ok v w'∧R (.returned v) w') →
  LeavesInM Fence.wide n g.P fn tmps R xs .returning w
theorem step_put {c0:Ctx} {w0:World} {r lo:Nat} {ob:Obj} (hlo:lo≤r) (hz:w0.heap.size≤lo) (h:Step N0 c0 w0 c w):Step N0 c0 w0 c (w.putObj r ob) where
  size:=by rw [World.putObj_size];exact h.size
  os:=h.os
  out:=h.out
  gen:=h.gen
  obj:=h.obj
  phan:=h.phan
  imm:=h.imm
  immNew:=h.immNew
  objNew:=h.objNew
  frame b hb hno:=(World.putObj_heap_other (fun e=>by omega)).trans (h.frame b hb hno)
theorem def_succ {k:Nat} (hcD:CallSoundP (CD g) g (callD g.E k)) (hD:DefSound g k) (hF:FnsOK g):DefSound g (k+1):=by
  intro ds h h' hs lo n fn tmps R xs c w hdr hh hK
  cases hdr with
  | nil =>
    simp only [defN,Option.some.injEq] at hs
    subst hs
    obtain ⟨v,h1,h2⟩:=hK c w (fun _ _ h=>h) (fun _ _ _ h=>h) hh
    exact ⟨v,h1,h2⟩
  | mark r ds xs hlo hr ho hi hx t =>
    simp only [defN] at hs
    have him:∀ b,c.imm b→(w.putObj r (.deferred none)).heap[b]?=w.heap[b]?:=fun b hb=>World.putObj_heap_other fun e=>hi (e ▸ hb)
    refine ⟨by simp,.inl ⟨r,_,rfl,run_takeDeferred hr,?_⟩⟩
    refine hD ds h h' hs lo n fn tmps R xs c _ (t.put hi hx) (hh.same (by rw [World.putObj_size];exact Nat.le_refl _) him fun m p b hp hb=>World.putObj_heap_other fun e=>ho m p hp (e ▸ hb)) fun c' w' hv hst hs'=>?_
    exact hK c' w' (fun v u hvu=>hv v u (hvu.same him)) (fun c0 w0 hz h0=>hst c0 w0 hz (step_put hlo hz h0)) hs'
  | cons d x ds xs hd t =>
    obtain ⟨f,args⟩:=d
    simp only [defN] at hs
    split at hs
    case h_2=>cases hs
    rename_i v1 h1 hc1
    obtain ⟨caps,e1,hl⟩:=hd.ex
    have hcall:=doCall_soundP (C:=CD g) CD.mono hcD f args h v1 h1 hc1 c w (x.args++caps) hh hl
    have hpf:∃ pf,g.E.pf f=some pf:=by
      unfold doCall at hc1
      split at hc1
      · cases hc1
      · rename_i pf hpf;exact ⟨pf,hpf⟩
    obtain ⟨pf,hpf⟩:=hpf
    obtain ⟨fn',code,h2,h3,h4⟩:=hF f pf hpf
    refine ⟨by simp,.inr ⟨fun hx=>by simp [Fence.wide] at hx,.func f,caps,f,x.args++caps,e1,by rw [e1];simp [invoke,run_callFunc' h2 h3 h4],fun _ _=>trivial,?_⟩⟩
    refine (hcall (n - 1)).mono fun e u' w' hx=>?_
    obtain ⟨rfl,u,c',rfl,hS,hH,_⟩:=hx
    show LeavesInM Fence.wide n g.P fn tmps R xs .returning w'
    exact hD ds h1 h' hs lo n fn tmps R xs c' w' (DefRel.step hS hh.wf heap_lt t) hH fun c2 w2 hv hst hs2 =>
      hK c2 w2 (fun v u hvu=>hv v u (hvu.step hS hh.wf)) (fun c0 w0 hz h0=>hst c0 w0 hz (h0.trans hS)) hs2
def PG.fnOK (g:PG) (f:Nat) (pf:PFn):Bool :=
  match g.P.funcs[f]? with
  | some fn=>(match fn.body with
    | some code=>!(fn.name == "runtime.NumGoroutine")&&g.matchC false pf.body code&&Nat.beq fn.ntmps pf.ntmps&&matchRs g.P pf.results fn.results.toList
    | none=>false)
  | none=>false
def FnsM (g:PG):Prop:=∀ f pf,g.E.pf f=some pf→g.fnOK f pf=true
theorem PG.fnOK_spec {f:Nat} {pf:PFn} (h:g.fnOK f pf=true):∃ fn code,g.P.funcs[f]?=some fn∧fn.body=some code∧fn.name ≠ "runtime.NumGoroutine" ∧ g.matchC false pf.body code=true∧fn.ntmps=pf.ntmps∧matchRs g.P pf.results fn.results.toList=true:=by
  unfold PG.fnOK at h
  split at h
  case h_2=>cases h
  rename_i fn hfn
  split at h
  case h_2=>cases h
  rename_i code hb
  simp only [Bool.and_eq_true,Bool.not_eq_true',beq_eq_false_iff_ne] at h
  exact ⟨fn,code,hfn,hb,h.1.1.1,h.1.1.2,Zm h.1.2,h.2⟩
theorem FnsM.ok (h:FnsM g):FnsOK g:=fun f pf hp=>let ⟨fn,code,h1,h2,h3,_⟩:=PG.fnOK_spec (h f pf hp);⟨fn,code,h1,h2,h3⟩
def ExtSound (g:PG):Prop:=∀ f pf val,g.E.pf f=some pf→pf.ext=some val→∀ args v,val args=some v→∀ (h:Heap) (c:Ctx) (w:World) (vs:Array Value),HS g c w h→LRel c w args vs→Calls g.P f vs w (CallR g c w (h++[[]]) v)
theorem call_succ {k:Nat} (hX:ExtSound g) (hE:∀ lo,EvSound (g.at lo) k) (hD:DefSound g k) (hF:∀ lo,FnsM (g.at lo)):CallSound g (callN g.E (k+1)):=by
  intro f args h v h' hd c w vs hs hl
  simp only [callN] at hd
  split at hd
  · cases hd
  rename_i pf hpf
  split at hd
  · rename_i val hval
    split at hd<;>simp only [Option.some.injEq,reduceCtorEq,Prod.mk.injEq] at hd
    rename_i v' hv
    obtain ⟨rfl,rfl⟩:=hd
    exact hX f pf val hpf hval args v' hv h c w vs hs hl
  split at hd
  case isFalse=>cases hd
  rename_i hnp
  obtain ⟨fn,code,h1,h2,h3,h4,h5,h6⟩:=PG.fnOK_spec (hF w.heap.size f pf hpf)
  have hvs:vs.size=pf.nparams:=hl.1 ▸ hnp
  refine (callsIn_wide (n:=0)).1 (callsIn_of_wp_marks h1 h2 trivial ?_)
  rw [h5,hvs]
  have hst:FrRel (g.at w.heap.size) c w { lvl:=h.length,tmps:=args++List.replicate (pf.ntmps - pf.nparams) (.tuple []),heap:=h++[List.replicate pf.nobjs none],defers:=[] } { tmps:=vs++Array.replicate (pf.ntmps - pf.nparams) undef,defers:=[] } :=
    FrRel.start (g:=g.at w.heap.size) ⟨hs.heap,hs.wf,hs.hn⟩ hl _ _ _
  have fin:∀ (ex:PEx) (fr:Fr),evN g.E k pf.body { lvl:=h.length,tmps:=args++List.replicate (pf.ntmps - pf.nparams) (.tuple []),heap:=h++[List.replicate pf.nobjs none],defers:=[] }=some (ex,fr)→ex=.norm∨ex=.ret →
      (match defN g.E k fr.defers fr.heap with
        | some h'=>(match resultsE h' fr.tmps pf.results with
          | some v=>some (v,h')
          | none=>none)
        | none=>none)=some (v,h') →
      code.wpIn Fence.wide 0 g.P (bodyPostM Fence.wide 0 g.P fn (CallR g c w h' v)) { tmps:=vs++Array.replicate (pf.ntmps - pf.nparams) undef,defers:=[] } w:=by
    intro ex fr he hex hd
    split at hd
    case h_2=>cases hd
    rename_i h2' hdef
    split at hd<;>simp only [Option.some.injEq,reduceCtorEq,Prod.mk.injEq] at hd
    rename_i v' hres
    obtain ⟨rfl,rfl⟩:=hd
    have hQ:Goes (g.at w.heap.size) c w fr (fun a' w'=>LeavesInM Fence.wide 0 g.P fn a'.tmps (CallR g c w h2' v') a'.defers .returning w'):=by
      intro c1 w1 a1 hS1 hF1
      refine hD fr.defers fr.heap h2' hdef w.heap.size 0 fn a1.tmps _ a1.defers c1 w1 hF1.defs ⟨hF1.heap,hF1.wf,hF1.hn⟩ fun c2 w2 hv hstp hs2=>?_
      obtain ⟨u,hu,hvu⟩:=res_run (g:=g) hs2 (fun i=>hv _ _ (hF1.tmps i)) h6 hres
      exact ⟨u,hu,u,c2,rfl,hstp c w (Nat.le_refl _) hS1,hs2,hvu⟩
    refine hE w.heap.size pf.body _ ex fr he false none 0 code c w _ _ h4 (fun h=>absurd rfl h) (Nat.le_refl _) hst ?_
    rcases hex with rfl|rfl<;>exact hQ
  split at hd
  · rename_i fr he
    exact fin _ fr he (.inl rfl) hd
  · rename_i fr he
    exact fin _ fr he (.inr rfl) hd
  · cases hd
theorem callD_succ {k:Nat} (hE:∀ lo,EvSound (g.at lo) k) (hF:∀ lo,FnsM (g.at lo)):CallSoundP (CD g) g (callD g.E (k+1)):=by
  intro f args h v h' hd c w vs hs hl
  simp only [callD] at hd
  split at hd
  · cases hd
  rename_i pf hpf
  split at hd
  case isFalse=>cases hd
  rename_i hnp
  have hnp:=hnp.2
  obtain ⟨fn,code,h1,h2,h3,h4,h5,h6⟩:=PG.fnOK_spec (hF w.heap.size f pf hpf)
  have hvs:vs.size=pf.nparams:=hl.1 ▸ hnp
  intro n
  refine callsDIn_of_wp h1 h2 trivial ?_
  rw [h5,hvs]
  have hst:FrRel (g.at w.heap.size) c w { lvl:=h.length,tmps:=args++List.replicate (pf.ntmps - pf.nparams) (.tuple []),heap:=h++[List.replicate pf.nobjs none],defers:=[] } { tmps:=vs++Array.replicate (pf.ntmps - pf.nparams) undef,defers:=[] } :=
    FrRel.start (g:=g.at w.heap.size) ⟨hs.heap,hs.wf,hs.hn⟩ hl _ _ _
  have fin:∀ (ex:PEx) (fr:Fr),evN g.E k pf.body { lvl:=h.length,tmps:=args++List.replicate (pf.ntmps - pf.nparams) (.tuple []),heap:=h++[List.replicate pf.nobjs none],defers:=[] }=some (ex,fr)→ex=.norm∨ex=.ret →
      (if fr.defers.isEmpty then (match resultsE fr.heap fr.tmps pf.results with
          | some v=>some (v,fr.heap)
          | none=>none) else none)=some (v,h') →
      code.wpIn Fence.wide n g.P (bodyPost g.P fn (CallR g c w h' v)) { tmps:=vs++Array.replicate (pf.ntmps - pf.nparams) undef,defers:=[] } w:=by
    intro ex fr he hex hd
    split at hd
    case isFalse=>cases hd
    rename_i hemp
    split at hd<;>simp only [Option.some.injEq,reduceCtorEq,Prod.mk.injEq] at hd
    rename_i v' hres
    obtain ⟨rfl,rfl⟩:=hd
    have hQ:Goes (g.at w.heap.size) c w fr (fun a' w'=>a'.defers=[]∧∃ u,(results fn a'.tmps).run g.P w'=.ok u w'∧CallR g c w fr.heap v' (.returned u) w'):=by
      intro c1 w1 a1 hS1 hF1
      have hs1:HS g c1 w1 fr.heap:=⟨hF1.heap,hF1.wf,hF1.hn⟩
      obtain ⟨u,hu,hvu⟩:=res_run (g:=g) hs1 hF1.tmps h6 hres
      refine ⟨?_,u,hu,u,c1,rfl,hS1,hs1,hvu⟩
      have h7:=hF1.defs
      have h8:fr.defers=[]:=by simpa using hemp
      rw [h8] at h7
      generalize a1.defers=xs at h7
      cases h7
      rfl
    refine hE w.heap.size pf.body _ ex fr he false none n code c w _ _ h4 (fun h=>absurd rfl h) (Nat.le_refl _) hst ?_
    rcases hex with rfl|rfl<;>exact hQ
  split at hd
  · rename_i fr he
    exact fin _ fr he (.inl rfl) hd
  · rename_i fr he
    exact fin _ fr he (.inr rfl) hd
  · cases hd
end Go.VI
namespace Go.VI
variable {g:PG} {c:Ctx} {w:World} {fr fr':Fr} {a:Act}
theorem loop_of {h:Heap} (hs:HRel g.MC c h w) {nm:Nm} {tmps:List PV} {params:List Nat} {assign body:PC} {jump:Option PEx} {gg:Nat} (ho:hget h nm=some (.loop tmps params assign body jump gg)) {p:Place} {b:Nat} (hp:c.obj nm=some p) (hb:p.blk=some b) :
    c.gen nm=gg∧LoopRel c w b tmps params g.MC assign body jump:=by
  obtain ⟨h1,h2⟩:=hs nm _ ho
  obtain ⟨b',h3,h4⟩:=h2 p hp
  rw [hb] at h3
  simp only [Option.some.injEq] at h3
  exact ⟨h1,h3 ▸ h4⟩
theorem loopRel_put {c':Ctx} {b:Nat} {tmps:List PV} {params:List Nat} {assign body:PC} {jump jump':Option PEx} {MC:PC→Code→Prop} {l:Loop} (hb:w.heap[b]?=some (.loop l)) (h:LoopRel c w b tmps params MC assign body jump) {st:LoopState} {pn:Option Code}
    (hv:∀ v u,VRel c w v u→VRel c' (w.putObj b (.loop { l with state:=st,pending:=pn })) v u)
    (hj:match jump' with
     | none=>st=.ready∧pn=none
     | some .norm=>st=.busy
     | some (.exit id)=>st=.done∧pn=some (.exit id)
     | some .ret=>st=.done∧pn=some .ret) :
    LoopRel c' (w.putObj b (.loop { l with state:=st,pending:=pn })) b tmps params MC assign body jump':=by
  obtain ⟨l',h1,h2,h3,h4,h5,h6,_⟩:=h
  rw [hb] at h1
  simp only [Option.some.injEq,Obj.loop.injEq] at h1
  subst h1
  exact ⟨_,World.putObj_heap_same (Zl hb),h2,h3,fun i=>hv _ _ (h4 i),h5,h6,hj⟩
theorem put_redo {n:Nm} {p:Place} {b k:Nat} {x:Obj} (hp:c.obj n=some p) (hb:p.blk=some b) (hk:c.gen n≤k):Redo c w (w.putObj b x) n p p k:=setObj_redo hp hb hk
theorem rangef_sound {k:Nat} (hMC:∀ p x,g.matchC true p x=true→g.MC p x) (hcE:CallSound g (callN g.E k)) (hF:FnsOK g)
    (s:Nat) (f:PX) (ps:List Nat) (p q:PC) (fr:Fr) (ex:PEx) (fr':Fr) (hs:evN g.E (k+1) (.rangef s f ps p q) fr=some (ex,fr')) (n:Nat) (code:Code) (c:Ctx) (w:World) (a:Act) (Q:Exit→Act→World→Prop)
    (hm:g.matchC false (.rangef s f ps p q) code=true) (hlo:g.lo≤w.heap.size) (h:FrRel g c w fr a) (hK:Goes g c w fr' (Q (exitOf ex))):code.wpIn (wR none) n g.P Q a w:=by
  cases code with
  | rangeFunc f' ps' x y =>
    simp only [PG.matchC,Bool.and_eq_true,decide_eq_true_eq] at hm
    obtain ⟨⟨⟨⟨_,hfx⟩,hps⟩,hmx⟩,hmy⟩:=hm
    simp only [evN] at hs
    split at hs
    case isFalse=>cases hs
    rename_i hlen
    split at hs
    case h_2=>cases hs
    rename_i f0 pp qq hfe
    split at hs
    case h_2=>cases hs
    rename_i v h2 hcall
    split at hs
    case h_2=>cases hs
    rename_i tmps2 ps2 as2 bd2 j g2 hob2
    split at hs
    case isFalse=>cases hs
    rename_i hg2
    subst hg2
    generalize hG:nextGen fr.heap (fr.nm s)=G at hs hcall hob2
    have hgen:c.gen (fr.nm s)<G:=hG ▸ h.next (fr.nm s)
    refine wpIn_rangeFunc fun fn _=>?_
    obtain ⟨rec,hrec⟩:∃ rec:Loop,rec={ state:=.ready,pending:=none,fn,tmps:=a.tmps,params:=ps',assign:=x,body:=y,defers:=w.heap.size }:=⟨_,rfl⟩
    obtain ⟨w1,hw1⟩:∃ w1:World,w1=(w.alloc (.deferred (some []))).alloc (.loop rec):=⟨_,rfl⟩
    have hM:More w w1:=hw1 ▸ (More.alloc _ _).trans (More.alloc _ _)
    have hz1:w1.heap.size=w.heap.size+2:=by simp [hw1]
    have hl1:w1.heap[w.heap.size+1]?=some (.loop rec):=by
      have:=Z2 (w.alloc (.deferred (some []))) (.loop rec)
      rwa [World.size_alloc,← hw1] at this
    have hd1:w1.heap[w.heap.size]?=some (.deferred (some [])):=by
      have h3:=(More.alloc (w.alloc (.deferred (some []))) (.loop rec)).same w.heap.size (by simp)
      rw [← hw1] at h3
      exact h3.trans (Z2 _ _)
    have henter:(Instr.enterLoop fn a.tmps ps' x y none).run g.P w=.ok (w.heap.size+1,[{ target:=.collected w.heap.size,args:=#[] }]) w1:=by
      rw [hw1,hrec];exact run_enterLoop_outer ..
    let P0:Place:=⟨some (w.heap.size+1),0,0,0⟩
    have hFit:Fits w w1 (some P0):=by
      intro q' b hq hb
      simp only [Option.some.injEq] at hq
      subst hq
      simp only [P0,Option.some.injEq] at hb
      omega
    have hR:Room c (fr.nm s) G:=⟨Nat.le_of_lt hgen,fun e=>by omega⟩
    have hSl:=Yg hM hR hFit
    have hobj:(c.lay (fr.nm s) G (some P0)).obj (fr.nm s)=some P0:=Ctx.lay_obj_self ..
    have hF1:FrRel g (c.lay (fr.nm s) G (some P0)) w1 { fr with heap:=hset fr.heap (fr.nm s) (.loop fr.tmps ps p q none G) } a:=by
      refine FrRel.lay h hR hlen hM hFit ⟨Ctx.lay_gen_self ..,fun p' hp'=>?_⟩
      rw [hobj] at hp'
      simp only [Option.some.injEq] at hp'
      subst hp'
      exact ⟨w.heap.size+1,rfl,rec,hl1,by rw [hrec];exact hps.symm,by rw [hrec];exact h.size,fun i=>by rw [hrec];exact (h.tmps i).step hSl h.wf,by rw [hrec];exact hMC _ _ hmx,by rw [hrec];exact hMC _ _ hmy,by rw [hrec],by rw [hrec]⟩
    have hS1:Step N0 c w (c.lay (fr.nm s) G (some P0)) w1:=step_lay0 hM hgen hFit
    have hfv:=hF1.x hfx
    simp only [hfe] at hfv
    obtain ⟨xs,ys,e1,hx,hy⟩:=hfv.fn_inv
    have hyl:LRel (c.lay (fr.nm s) G (some P0)) w1 [.yld (fr.nm s) G] #[.func (.yield (w.heap.size+1)) #[] #[]]:=by
      refine ⟨rfl,fun i v u hv hu=>?_⟩
      cases i with
      | zero =>
        simp at hv hu
        subst hv hu
        exact .yld _ _ P0 _ (by rw [Ctx.lay_gen_self];exact Nat.le_refl _) hobj rfl
      | succ i=>simp at hv
    have hpf:∃ pf,g.E.pf f0=some pf:=by
      unfold doCall at hcall
      split at hcall
      · cases hcall
      · rename_i pf hpf;exact ⟨pf,hpf⟩
    obtain ⟨pf,hpf⟩:=hpf
    obtain ⟨fn',code',h3,h4,h5⟩:=hF f0 pf hpf
    have hC:=doCall_sound hcE f0 (pp++[.yld (fr.nm s) G]++qq) _ v h2 hcall _ w1 (xs++#[.func (.yield (w.heap.size+1)) #[] #[]]++ys) hF1.hs ((hx.append hyl).append hy)
    have hres:(resolve a.eval (rangeCall f' (w.heap.size+1)) 0).run g.P w1=.ok { target:=.fn (.func f0) ys,args:=xs++#[.func (.yield (w.heap.size+1)) #[] #[]] } w1:=by
      have e2:a.eval (.const (.func (.yield (w.heap.size+1)) #[] #[]))=.func (.yield (w.heap.size+1)) #[] #[]:=rfl
      simp [resolve,Deferred.ofValue,e1,e2]
    have hinv:(invoke (.fn (.func f0) ys) (xs++#[.func (.yield (w.heap.size+1)) #[] #[]])).run g.P w1=.ok (.enter f0 (xs++#[.func (.yield (w.heap.size+1)) #[] #[]]++ys)) w1:=by
      simp [invoke,run_callFunc' h3 h4 h5]
    refine ⟨_,_,w1,_,w1,_,_,w1,henter,hres,fun _ _=>trivial,hinv,(fun hx=>by simp [wR] at hx),callsIn_wR (callsMono hC fun e w2 hR2=>?_)⟩
    obtain ⟨u,c2,rfl,hS2,hH2,_⟩:=hR2
    have hg2:=(hH2.heap _ _ hob2).gen
    simp only [Ob.gen] at hg2
    have hobj2:c2.obj (fr.nm s)=some P0:=(hS2.obj _ (fun x=>x) (by rw [hg2,Ctx.lay_gen_self])).trans hobj
    obtain ⟨_,lr,hlr,_,_,_,_,_,hst⟩:=loop_of (g:=g) hH2.heap hob2 hobj2 rfl
    have hjn:j≠some .norm:=by
      intro e
      subst e
      simp at hs
    have hnb:lr.state≠.busy:=by
      cases j with
      | none=>simp only at hst;rw [hst.1];simp
      | some e=>cases e<;>simp_all
    obtain ⟨w4,hw4⟩:∃ w4,w4=w2.putObj (w.heap.size+1) (.loop { lr with state:=.exhausted }):=⟨_,rfl⟩
    have hend:=run_endLoop (P:=g.P) hlr hnb
    rw [← hw4] at hend
    refine ⟨lr.pending,w4,hend,?_⟩
    have noR:∀ m p',(c.lay (fr.nm s) G (some P0)).obj m=some p'→p'.blk≠some w.heap.size:=by
      intro m p' hp' hb'
      by_cases hmn:m=fr.nm s
      · subst hmn
        rw [hobj] at hp'
        simp only [Option.some.injEq] at hp'
        subst hp'
        simp [P0] at hb'
      · rw [Ctx.lay_obj _ _ _ hmn] at hp'
        have:=h.wf.lt m p' _ hp' hb'
        omega
    have hF2:FrRel g c2 w2 { fr with heap:=h2,defers:=none::fr.defers } { a with defers:=[{ target:=.collected w.heap.size,args:=#[] }]++a.defers }:=by
      refine ⟨h.size,fun i=>(hF1.tmps i).step hS2 hF1.wf,hH2.heap,hH2.wf,?_,hH2.hn⟩
      refine .mark w.heap.size fr.defers a.defers hlo ((hS2.frame _ (by rw [hz1];omega) noR).trans hd1) (fun m p' hp' hb'=>?_) (fun hi=>?_) h.defs.lt (DefRel.step hS2 hF1.wf heap_lt hF1.defs)
      · rcases hS2.objNew m p' _ hp' hb' with h6|⟨m',q',h6,h7⟩
        · omega
        · exact noR m' q' h6 h7
      · rcases hS2.immNew _ hi with h6|h6|⟨m',q',h6,h7⟩
        · have:c.imm w.heap.size:=h6
          have:=h.wf.ilt _ this
          omega
        · omega
        · exact noR m' q' h6 h7
    have hredo:Redo c2 w2 w4 (fr.nm s) P0 P0 (G+1):=hw4 ▸ put_redo hobj2 rfl (by rw [hg2];exact Nat.le_succ _)
    have hF3:=hF2.redo hredo hob2 (ob:=.dead (G+1)) (Ctx.lay_gen_self ..)
    have hfin:=(hS1.trans hS2).trans hredo.step
    cases j with
    | none =>
      simp only [Option.some.injEq,Prod.mk.injEq] at hs
      obtain ⟨rfl,rfl⟩:=hs
      simp only at hst
      simp only [hst.2]
      exact hK _ _ _ hfin hF3
    | some e =>
      cases e with
      | norm=>exact absurd rfl hjn
      | exit id =>
        simp only [Option.some.injEq,Prod.mk.injEq] at hs
        obtain ⟨rfl,rfl⟩:=hs
        simp only at hst
        simp only [hst.2]
        exact wpIn_exit (hK _ _ _ hfin hF3)
      | ret =>
        simp only [Option.some.injEq,Prod.mk.injEq] at hs
        obtain ⟨rfl,rfl⟩:=hs
        simp only at hst
        simp only [hst.2]
        exact wpIn_ret (hK _ _ _ hfin hF3)
  | _=>simp only [PG.matchC,Bool.false_eq_true] at hm
theorem foldl_set {f:List PV→Nat × PV→List PV} (hf:f=fun t p=>t.set p.1 p.2):∀ (ps:List Nat) (args:List PV) (vs:List Value) (t:List PV) (tm:Array Value),args.length=vs.length→(∀ (i:Nat) v u,args[i]?=some v→vs[i]?=some u→VRel c w v u) →
    t.length=tm.size→(∀ i,VRel c w (t.getD i .junk) (tm.getD i undef)) →
    ((ps.zip args).foldl f t).length=((ps.zip vs).foldl (fun t p=>t.setIfInBounds p.1 p.2) tm).size∧∀ i,VRel c w (((ps.zip args).foldl f t).getD i .junk) (((ps.zip vs).foldl (fun t p=>t.setIfInBounds p.1 p.2) tm).getD i undef)
  | [],args,vs,t,tm,_,_,h3,h4=>⟨h3,h4⟩
  | p::ps,[],[],t,tm,_,_,h3,h4=>⟨h3,h4⟩
  | p::ps,v::args,u::vs,t,tm,h1,h2,h3,h4=>by
    simp only [List.zip_cons_cons,List.foldl_cons]
    refine foldl_set hf ps args vs _ _ (by simpa using h1) (fun i v u hv hu=>h2 (i+1) v u (by simpa using hv) (by simpa using hu)) (by simp [hf,h3]) fun i=>?_
    rw [hf]
    rcases getD_set t tm p v u h3 i with ⟨e1,e2⟩|⟨e1,e2⟩
    · show VRel c w ((t.set p v).getD i .junk) _
      rw [e1,e2]
      exact h2 0 v u rfl rfl
    · show VRel c w ((t.set p v).getD i .junk) _
      rw [e1,e2]
      exact h4 i
  | _::_,[],_::_,_,_,h1,_,_,_=>by simp at h1
  | _::_,_::_,[],_,_,h1,_,_,_=>by simp at h1
theorem yield_succ {k:Nat} (hE:∀ lo,EvSound (g.at lo) k) (hMC:∀ p x,g.MC p x→∀ lo,(g.at lo).matchC true p x=true):YieldSound g (yieldN g.E (k+1)):=by
  intro nm args h v h' hd c w vs b p hs hl hp hb
  simp only [yieldN] at hd
  split at hd
  case h_2=>cases hd
  rename_i tmps ps as bd G hob
  split at hd
  case isFalse=>cases hd
  rename_i hlen
  split at hd
  case h_2=>cases hd
  rename_i fr1 he1
  split at hd
  case h_2=>cases hd
  rename_i tmps1 ps1 as1 bd1 g1 hob1
  split at hd
  case isFalse=>cases hd
  rename_i hg1
  subst hg1
  split at hd
  case h_2=>cases hd
  rename_i ex fr2 he2
  split at hd
  case h_2=>cases hd
  rename_i tmps2 ps2 as2 bd2 g2 hob2
  split at hd
  case isFalse=>cases hd
  rename_i hg2
  subst hg2
  generalize her:endRoundE ex=jr at hd
  obtain ⟨j,v'⟩:=jr
  simp only at hd
  split at hd<;>simp only [Option.some.injEq,reduceCtorEq,Prod.mk.injEq] at hd
  rename_i hlow
  obtain ⟨rfl,rfl⟩:=hd
  obtain ⟨hgen,l,hl1,hl2,hl3,hl4,hl5,hl6,hst⟩:=loop_of (g:=g) hs.heap hob hp hb
  have hsz:vs.size=l.params.size:=by
    rw [← hl.1,hlen,← hl2]
    simp
  refine ⟨l.fn,_,l.assign,l.body,run_yield hl1 hsz,fun n=>roundIn_of_wpIn trivial ?_⟩
  show l.assign.wpIn (wR (some b)) n g.P _ _ w
  have hs':=hs.push (h.getD nm.1 []).length
  have hF0:FrRel (g.at 0) c w { lvl:=h.length,tmps:=(ps.zip args).foldl (fun t p=>t.set p.1 p.2) tmps,heap:=h++[List.replicate (h.getD nm.1 []).length none],defers:=[] }
      { tmps:=(l.params.zip vs).foldl (fun tmps (t,a)=>tmps.setIfInBounds t a) l.tmps,defers:=[] }:=by
    have hfold:=foldl_set (c:=c) (w:=w) rfl ps args vs.toList tmps l.tmps (by rw [hl.1];simp) (fun i v u hv hu=>hl.2 i v u hv (by simpa using hu)) hl3 hl4
    have e:(l.params.zip vs).foldl (fun tmps (t,a)=>tmps.setIfInBounds t a) l.tmps=(ps.zip vs.toList).foldl (fun t p=>t.setIfInBounds p.1 p.2) l.tmps:=by
      rw [← Array.foldl_toList,Array.toList_zip,hl2]
    rw [e]
    exact ⟨hfold.1,hfold.2,hs'.heap,hs'.wf,.nil,hs'.hn⟩
  refine hE 0 as _ .norm fr1 he1 true (some b) n l.assign c w _ _ (hMC _ _ hl5 0) (fun _=>rfl) (Nat.zero_le _) hF0 fun c1 w1 a1 hS1 hF1=>?_
  have hgen1:=(hF1.heap _ _ hob1).gen
  simp only [Ob.gen] at hgen1
  have hp1:c1.obj nm=some p:=(hS1.obj _ (fun x=>x) (by rw [hgen1,hgen])).trans hp
  obtain ⟨_,l1,hl11,hrest⟩:=loop_of (g:=g.at 0) hF1.heap hob1 hp1 hb
  have hst1:l1.state=.ready:=hrest.2.2.2.2.2.1
  refine ⟨_,run_beginRound hl11 hst1,?_⟩
  have hr1:Redo c1 w1 (w1.putObj b (.loop { l1 with state:=.busy })) nm p p g2:=put_redo hp1 hb (Nat.le_of_eq hgen1)
  have hF1':FrRel (g.at 0) (c1.lay nm g2 (some p)) (w1.putObj b (.loop { l1 with state:=.busy })) { fr1 with heap:=hset fr1.heap nm (.loop tmps1 ps1 as1 bd1 (some .norm) g2) } a1:=by
    refine hF1.redo hr1 hob1 ⟨Ctx.lay_gen_self ..,fun p' hp'=>?_⟩
    rw [Ctx.lay_obj_self] at hp'
    simp only [Option.some.injEq] at hp'
    subst hp'
    exact ⟨b,hb,loopRel_put (jump:=none) hl11 ⟨l1,hl11,hrest⟩ (fun v u hv=>hv.step hr1.step hF1.wf) rfl⟩
  refine hE 0 bd _ ex fr2 he2 true (some b) n l.body _ _ a1 _ (hMC _ _ hl6 0) (fun _=>rfl) (Nat.zero_le _) hF1' fun c2 w2 a2 hS2 hF2=>?_
  have hgen2:=(hF2.heap _ _ hob2).gen
  simp only [Ob.gen] at hgen2
  have hp2:c2.obj nm=some p:=(hS2.obj _ (fun x=>x) (by rw [hgen2,Ctx.lay_gen_self])).trans (Ctx.lay_obj_self ..)
  obtain ⟨_,l2,hl21,hrest2⟩:=loop_of (g:=g.at 0) hF2.heap hob2 hp2 hb
  have fin:∀ (jc:Option Code),(match j with
      | none=>jc=none
      | some .norm=>False
      | some (.exit id)=>jc=some (.exit id)
      | some .ret=>jc=some .ret)→v'=.bool jc.isNone →
      ∃ v w',(Instr.endRound b jc).run g.P w2=.ok v w'∧CallR g c w ((hset fr2.heap nm (.loop tmps2 ps2 as2 bd2 j g2)).take h.length) v' (.returned v) w':=by
    intro jc hj hv'
    have hr2:Redo c2 w2 (w2.putObj b (.loop { l2 with state:=if jc.isNone then .ready else .done,pending:=jc })) nm p p g2:=put_redo hp2 hb (Nat.le_of_eq hgen2)
    have hF3:FrRel (g.at 0) (c2.lay nm g2 (some p)) (w2.putObj b (.loop { l2 with state:=if jc.isNone then .ready else .done,pending:=jc })) { fr2 with heap:=hset fr2.heap nm (.loop tmps2 ps2 as2 bd2 j g2) } a2:=by
      refine hF2.redo hr2 hob2 ⟨Ctx.lay_gen_self ..,fun p' hp'=>?_⟩
      rw [Ctx.lay_obj_self] at hp'
      simp only [Option.some.injEq] at hp'
      subst hp'
      refine ⟨b,hb,loopRel_put (jump:=some .norm) hl21 ⟨l2,hl21,hrest2⟩ (fun v u hv=>hv.step hr2.step hF2.wf) ?_⟩
      cases j with
      | none=>simp only at hj;subst hj;exact ⟨rfl,rfl⟩
      | some e =>
        cases e with
        | norm=>exact hj.elim
        | exit id=>simp only at hj;subst hj;exact ⟨rfl,rfl⟩
        | ret=>simp only at hj;subst hj;exact ⟨rfl,rfl⟩
    have hH:HS g (c2.lay nm g2 (some p)) _ (hset fr2.heap nm (.loop tmps2 ps2 as2 bd2 j g2)):=⟨hF3.heap,hF3.wf,hF3.hn⟩
    refine ⟨_,_,run_endRound jc hl21,_,(c2.lay nm g2 (some p)).upTo h.length,rfl,Step.upTo (((hS1.trans hr1.step).trans hS2).trans hr2.step) fun m hm=>hs.hn m (hget_ge hm),hH.upTo hlow,?_⟩
    rw [hv']
    exact .i _ _ (.bool _)
  cases ex with
  | norm =>
    simp only [endRoundE,Prod.mk.injEq] at her
    obtain ⟨rfl,rfl⟩:=her
    exact fin none rfl rfl
  | ret =>
    simp only [endRoundE,Prod.mk.injEq] at her
    obtain ⟨rfl,rfl⟩:=her
    exact fin (some .ret) rfl rfl
  | exit id =>
    simp only [endRoundE,Prod.mk.injEq] at her
    obtain ⟨rfl,rfl⟩:=her
    exact fin (some (.exit id)) rfl rfl
theorem CallSound.at {callE:CallE} (h:CallSound g callE) (lo:Nat):CallSound (g.at lo) callE:=by
  intro f args hp v h' he c w vs hs hl
  exact callsMono (h f args hp v h' he c w vs ⟨hs.heap,hs.wf,hs.hn⟩ hl) fun e w' ⟨u,c',h1,h2,h3,h4⟩=>⟨u,c',h1,h2,⟨h3.heap,h3.wf,h3.hn⟩,h4⟩
theorem YieldSound.at {yieldE:Nm→List PV→Heap→Option (PV × Heap)} (h:YieldSound g yieldE) (lo:Nat):YieldSound (g.at lo) yieldE:=by
  intro nm args hp v h' he c w vs b p hs hl hp' hb
  obtain ⟨f,tmps,as,bd,h1,h2⟩:=h nm args hp v h' he c w vs b p ⟨hs.heap,hs.wf,hs.hn⟩ hl hp' hb
  exact ⟨f,tmps,as,bd,h1,fun n=>(h2 n).mono fun e w' ⟨u,c',h1,h2,h3,h4⟩=>⟨u,c',h1,h2,⟨h3.heap,h3.wf,h3.hn⟩,h4⟩⟩
structure PG.OK (g:PG):Prop where
  fns:∀ lo,FnsM (g.at lo)
  mc:∀ p x,g.MC p x↔∀ lo,(g.at lo).matchC true p x=true
  ext:ExtSound g
  indep:∀ p x lo lo',(g.at lo).matchC true p x=true→(g.at lo').matchC true p x=true
theorem all_sound (hg:g.OK):∀ k,(∀ lo,EvSound (g.at lo) k)∧(∀ lo,LoopSound (g.at lo) k)∧CallSound g (callN g.E k)∧CallSoundP (CD g) g (callD g.E k)∧DefSound g k∧YieldSound g (yieldN g.E k):=by
  intro k
  induction k with
  | zero =>
    refine ⟨fun lo pc fr ex fr' h=>?_,fun lo pc fr ex fr' h=>?_,fun f args h v h' hd=>?_,fun f args h v h' hd=>?_,fun ds h h' hs=>?_,fun nm args h v h' hd=>?_⟩
    · simp [evN] at h
    · simp [evN] at h
    · simp [callN] at hd
    · simp [callD] at hd
    · simp [defN] at hs
    · simp [yieldN] at hd
  | succ k ih =>
    obtain ⟨h1,h2,h3,h4,h5,h6⟩:=ih
    have hF:FnsOK g:=(hg.fns g.lo).ok
    refine ⟨fun lo=>ev_succ (h1 lo) (h2 lo) (h3.at lo) (h6.at lo) hF fun s f ps p q fr ex fr' he n code c w a Q hm hlo hfr hK=>?_,fun lo=>loop_succ (h1 lo) (h2 lo),call_succ hg.ext h1 h5 hg.fns,callD_succ h1 hg.fns,def_succ h4 h5 hF,yield_succ h1 fun p x hp=>(hg.mc p x).1 hp⟩
    exact rangef_sound (g:=g.at lo) (fun p x hm=>(hg.mc p x).2 fun lo'=>hg.indep p x lo lo' hm) (h3.at lo) hF s f ps p q fr ex fr' he n code c w a Q hm hlo hfr hK
theorem callN_sound (hg:g.OK) (k:Nat):CallSound g (callN g.E k):=(all_sound hg k).2.2.1
end Go.VI
namespace Go.VI
def spoken:TypeDesc→Bool
  | .bool|.int _|.string|.pointer _|.slice _|.struct _|.array _ _=>true
  | _=>false
inductive HasTy (P:Program):TypeId→List PV→Prop
  | bool (t:TypeId) (b:Bool) (h:P.underlying t=some .bool):HasTy P t [.bool b]
  | int (t:TypeId) (k:IntKind) (n:Int) (h:P.underlying t=some (.int k)) (hw:(Lit.int k n).wf=true):HasTy P t [.int k n]
  | str (t:TypeId) (s:List UInt8) (h:P.underlying t=some .string) (hl:s.length≤maxLen):HasTy P t [.str s]
  | nilp (t e:TypeId) (h:P.underlying t=some (.pointer e)):HasTy P t [.nilp]
  | ip (t e:TypeId) (cs:List PV) (h:P.underlying t=some (.pointer e)) (hc:HasTy P e cs):HasTy P t [.ip cs]
  | zero (t e:TypeId) (h:P.underlying t=some (.pointer e)) (h0:P.cellsOf e=0):HasTy P t [.junk]
  | nils (t e:TypeId) (h:P.underlying t=some (.slice e)):HasTy P t [.vs .nil []]
  | sl (t e:TypeId) (L:List PV) (h:P.underlying t=some (.slice e)) (hl:L.length≤maxLen) (hL:∀ v∈L,HasTy P e v.cells) (hA:∀ v∈L,∃ d,P.underlying e=some d∧v.isAgg=isA d):HasTy P t [.vs .nn L]
  | struct (t:TypeId) (fs:Array Field) (Ls:List (List PV)) (h:P.underlying t=some (.struct fs)) (hl:Ls.length=fs.size) (hf:∀ (i:Nat) f L,fs[i]?=some f→Ls[i]?=some L→HasTy P f.type L):HasTy P t Ls.flatten
  | array (t e:TypeId) (n:Nat) (Ls:List (List PV)) (h:P.underlying t=some (.array n e)) (hl:Ls.length=n) (hf:∀ L∈Ls,HasTy P e L):HasTy P t Ls.flatten
  | other (t:TypeId) (d:TypeDesc) (h:P.underlying t=some d) (hA:spoken d=false):HasTy P t [.junk]
mutual
def pbulk:PV→Nat
  | .str s=>s.length+1
  | .ip cs=>pbulkL cs+1
  | .vs _ L=>pbulkL L+1
  | .agg cs=>pbulkL cs+1
  | _=>1
def pbulkL:List PV→Nat
  | []=>0
  | v::r=>pbulk v+pbulkL r
end
mutual
def dbulk {H:Type}:DataW H→Nat
  | .lit (.string bytes)=>bytes.length+1
  | .lit _=>1
  | .nil=>1
  | .ptr d=>dbulk d+1
  | .slice elems spare=>dbulkAll elems+dbulkAll spare+1
  | .agg parts=>dbulkAll parts+1
  | .iface _ d=>dbulk d+1
  | .map entries=>dbulkEntries entries+1
  | .held _=>1
def dbulkAll {H:Type}:List (DataW H)→Nat
  | []=>0
  | d::r=>dbulk d+dbulkAll r
def dbulkEntries {H:Type}:List (Lit × DataW H)→Nat
  | []=>0
  | x::r=>dbulkEntry x+dbulkEntries r
def dbulkEntry {H:Type}:Lit × DataW H→Nat
  | (.string bytes,d)=>bytes.length+dbulk d+1
  | (_,d)=>dbulk d+1
end
theorem Yn {H:Type} (d:DataW H):1≤dbulk d:=by
  cases d with
  | lit l=>cases l<;>simp [dbulk]
  | nil=>simp [dbulk]
  | ptr d=>simp [dbulk]
  | slice elems spare=>simp [dbulk]
  | agg parts=>simp [dbulk]
  | iface t d=>simp [dbulk]
  | map entries=>simp [dbulk]
  | held h=>simp [dbulk]
theorem pbulkL_append:∀ (l m:List PV),pbulkL (l++m)=pbulkL l+pbulkL m
  | [],m=>by simp [pbulkL]
  | v::l,m=>by simp [pbulkL,pbulkL_append l m];omega
theorem pbulkL_map_le {α:Type} {f:α→PV} {g:α→Nat}:∀ (l:List α),(∀ x∈l,pbulk (f x)≤g x)→pbulkL (l.map f)≤(l.map g).sum
  | [],_=>by simp [pbulkL]
  | x::l,h=>by
    have h1:=h x (List.mem_cons_self ..)
    have h2:=pbulkL_map_le (f:=f) (g:=g) l fun y hy=>h y (List.mem_cons_of_mem _ hy)
    simp only [List.map_cons,pbulkL,List.sum_cons]
    omega
theorem dbulkAll_eq {H:Type}:∀ (l:List (DataW H)),dbulkAll l=(l.map dbulk).sum
  | []=>rfl
  | d::l=>by simp [dbulkAll,dbulkAll_eq l]
inductive F2 {α β:Type} (R:α→β→Prop):List α→List β→Prop
  | nil:F2 R [] []
  | cons {a b l m} (h:R a b) (t:F2 R l m):F2 R (a::l) (b::m)
theorem F2.append {α β:Type} {R:α→β→Prop} {l l':List α} {m m':List β} (h:F2 R l m) (h':F2 R l' m'):F2 R (l++l') (m++m'):=by
  induction h with
  | nil=>exact h'
  | cons h _ ih=>exact .cons h ih
theorem F2.len {α β:Type} {R:α→β→Prop} {l:List α} {m:List β} (h:F2 R l m):l.length=m.length:=by
  induction h with
  | nil=>rfl
  | cons _ _ ih=>simp [ih]
theorem F2.get {α β:Type} {R:α→β→Prop} {l:List α} {m:List β} (h:F2 R l m):∀ (i:Nat) a b,l[i]?=some a→m[i]?=some b→R a b:=by
  induction h with
  | nil=>intro i a b h;simp at h
  | cons h _ ih =>
    intro i a b ha hb
    cases i with
    | zero=>simp at ha hb;exact ha ▸ hb ▸ h
    | succ i=>exact ih i a b (by simpa using ha) (by simpa using hb)
theorem F2.one {α β:Type} {R:α→β→Prop} {a:α} {b:β} (h:R a b):F2 R [a] [b]:=.cons h .nil
section
variable {H:Type} {enc:TypeId × Value→H} {P:Program} {w:World} {spare:Nat→Bool} {held:Bool} {T:TypeId→Prop} {imm:Nat→Prop}
def CellR (imm:Nat→Prop) (w:World) (v:PV) (u:Value):Prop:=IRel imm w v u∧u.oneCell'=true
theorem cells?_get {base:Nat} {a:Addr} {n:Nat} {cs:List Value} (h:w.cells? base a n=some cs):cs.length=n∧∀ i,i<n→w.cell? (a.add i)=cs[i]?:=by
  exact (World.cells?_some h).2
theorem add_block' (a:Addr) (n:Nat):(a.add n).block=a.block:=by unfold Addr.add;split<;>rfl
theorem add_off' (a:Addr) (n:Nat):(a.add n).off=a.off+n:=by
  unfold Addr.add
  split
  · subst_vars;rfl
  · rfl
theorem trod_cell {n:Nat} {t:TypeId} {cs:List Value} {x:DataW H × List MemPlace} (h:DataW.trod enc P w 0 spare held (n+1) t cs=some x) (hA:∀ fs,P.underlying t≠some (.struct fs)) (hB:∀ n e,P.underlying t≠some (.array n e)):∃ v,cs=[v]∧v.oneCell'=true:=by
  unfold DataW.trod at h
  split at h<;>first
    | exact ⟨_,rfl,rfl⟩
    | exact absurd ‹_› (hA _)
    | exact absurd ‹_› (hB _ _)
    | cases h
theorem structs_of {rd:TypeId→List Value→Nat→Prop} {Hs:TypeId→List PV→Prop} (hr:∀ t cs b,T t→rd t cs b→∃ L,Hs t L∧F2 (CellR imm w) L cs∧pbulkL L≤b) :
    ∀ (fs:List Field) (bs:List Nat) (o:Nat) (cs:List Value),(∀ f∈fs,T f.type)→(∀ (j:Nat) f,fs[j]?=some f→f.offset=o+((fs.take j).map fun f=>P.cellsOf f.type).sum)→bs.length=fs.length→(∀ (i:Nat) f b,fs[i]?=some f→bs[i]?=some b→rd f.type ((cs.drop f.offset).take (P.cellsOf f.type)) b) →
      ∃ Ls:List (List PV),Ls.length=fs.length∧(∀ (i:Nat) f L,fs[i]?=some f→Ls[i]?=some L→Hs f.type L)∧F2 (CellR imm w) Ls.flatten ((cs.drop o).take (fs.map fun f=>P.cellsOf f.type).sum)∧pbulkL Ls.flatten≤bs.sum
  | [],bs,o,cs,_,_,_,_=>⟨[],rfl,fun i f L h=>by simp at h,by simpa using F2.nil,by simp [pbulkL]⟩
  | f::fs,[],o,cs,_,_,hl,_=>by simp at hl
  | f::fs,b::bs,o,cs,hT,hoff,hl,hrd=>by
    have h0:f.offset=o:=by simpa using hoff 0 f rfl
    obtain ⟨L,h1,h2,hb1⟩:=hr f.type _ b (hT f (List.mem_cons_self ..)) (hrd 0 f b rfl rfl)
    rw [h0] at h2
    obtain ⟨Ls,h3,h4,h5,hb2⟩:=structs_of hr fs bs (o+P.cellsOf f.type) cs (fun g hg=>hT g (List.mem_cons_of_mem _ hg)) (fun j g hg=>by
      have:=hoff (j+1) g (by simpa using hg)
      simp only [List.take_succ_cons,List.map_cons,List.sum_cons] at this
      omega) (by simpa using hl) (fun i g b hg hb=>hrd (i+1) g b (by simpa using hg) (by simpa using hb))
    refine ⟨L::Ls,by simp [h3],fun i g M hg hM=>?_,?_,by simp [pbulkL_append];omega⟩
    · cases i with
      | zero=>simp at hg hM;exact hg ▸ hM ▸ h1
      | succ i=>exact h4 i g M (by simpa using hg) (by simpa using hM)
    · simp only [List.flatten_cons,List.map_cons,List.sum_cons]
      rw [List.take_add,List.drop_drop]
      exact h2.append h5
theorem arrays_of {rd:List Value→Nat→Prop} {Hs:List PV→Prop} {s:Nat} (hr:∀ cs b,rd cs b→∃ L,Hs L∧F2 (CellR imm w) L cs∧pbulkL L≤b) :
    ∀ (n o:Nat) (bs:List Nat) (cs:List Value),bs.length=n→(∀ i b,i<n→bs[i]?=some b→rd ((cs.drop (o+i*s)).take s) b)→∃ Ls:List (List PV),Ls.length=n∧(∀ L∈Ls,Hs L)∧F2 (CellR imm w) Ls.flatten ((cs.drop o).take (n*s))∧pbulkL Ls.flatten≤bs.sum
  | 0,o,bs,cs,_,_=>⟨[],rfl,fun L h=>(by cases h),by simpa using F2.nil,by simp [pbulkL]⟩
  | n+1,o,[],cs,hl,_=>by simp at hl
  | n+1,o,b::bs,cs,hl,h=>by
    obtain ⟨L,h1,h2,hb1⟩:=hr _ b (h 0 b (by omega) rfl)
    simp only [Nat.zero_mul,Nat.add_zero] at h2
    obtain ⟨Ls,h3,h4,h5,hb2⟩:=arrays_of hr n (o+s) bs cs (by simpa using hl) (fun i b hi hb=>by
      have:=h (i+1) b (by omega) (by simpa using hb)
      rwa [show o+(i+1)*s=o+s+i*s by rw [Nat.add_mul];omega] at this)
    refine ⟨L::Ls,by simp [h3],fun M hM=>?_,?_,by simp [pbulkL_append];omega⟩
    · rcases List.mem_cons.1 hM with rfl|hM
      · exact h1
      · exact h4 M hM
    · simp only [List.flatten_cons]
      rw [show (n+1)*s=s+n*s by rw [Nat.add_mul];omega,List.take_add,List.drop_drop]
      exact h2.append h5
theorem irel_of_trod (hall:∀ b,spare b=true) (K:Kids P T) (hz:∀ t e,T t→P.underlying t=some (.slice e)→0<P.cellsOf e) (hI:∀ b,b<w.heap.size→imm b) :
    ∀ (n:Nat) (t:TypeId) (cs:List Value) (x:DataW H × List MemPlace),T t→DataW.trod enc P w 0 spare held n t cs=some x→∃ L,HasTy P t L∧F2 (CellR imm w) L cs∧pbulkL L+(match P.underlying t with|some d=>if isA d then 1 else 0|none=>0)≤dbulk x.1:=by
  intro n
  induction n with
  | zero=>intro t cs x _ h;simp [DataW.trod] at h
  | succ n ih =>
    intro t cs x hT h
    have h0:=h
    have cellAt:∀ {a:Addr} {m:Nat} {cs':List Value},w.cells? 0 a m=some cs'→0<m→a=⟨a.block,a.off,none⟩∧cs'.length=m∧∀ j u,cs'[j]?=some u→imm a.block∧w.cell? ⟨a.block,a.off+j,none⟩=some u:=by
      intro a m cs' hc hm
      obtain ⟨h1,h2⟩:=cells?_get hc
      have hb:a.block<w.heap.size:=World.cells?_block hc hm
      have hsp:a.spot=none:=by
        have h3:=h2 0 hm
        cases hs:a.spot with
        | none=>rfl
        | some k =>
          have:w.cell? (a.add 0)=none:=by
            unfold World.cell?
            have:(a.add 0).spot=some k:=hs
            rw [this]
            split<;>rfl
          rw [this] at h3
          have:cs'[0]?=some cs'[0]:=List.getElem?_eq_getElem (by omega)
          rw [this] at h3
          cases h3
      have ha:a=⟨a.block,a.off,none⟩:=by
        cases a
        simp only at hsp
        subst hsp
        rfl
      refine ⟨ha,h1,fun j u hj=>⟨hI _ hb,?_⟩⟩
      have hjm:j<m:=h1 ▸ Zb hj
      have h3:=h2 j hjm
      rw [hj,ha,add_none] at h3
      exact h3
    have isAgg_len:∀ {e:TypeId} {L:List PV},HasTy P e L→(∃ d,P.underlying e=some d∧isA d=false)→∃ v,L=[v]∧v.isAgg=false:=by
      intro e L hL hd
      obtain ⟨d,hd,hA⟩:=hd
      cases hL with
      | other _ d' h hA'=>exact ⟨_,rfl,rfl⟩
      | struct _ fs Ls h=>rw [h] at hd;simp only [Option.some.injEq] at hd;subst hd;simp [isA] at hA
      | array _ e n Ls h=>rw [h] at hd;simp only [Option.some.injEq] at hd;subst hd;simp [isA] at hA
      | _=>exact ⟨_,rfl,rfl⟩
    cases hu:P.underlying t with
    | none =>
      unfold DataW.trod at h
      rw [hu] at h
      simp at h
    | some d =>
      cases d with
      | bool =>
        obtain ⟨b,rfl,_⟩:=DataW.trod_bool hu h
        exact ⟨_,.bool t b hu,.one ⟨.bool b,rfl⟩,by have:=Yn x.1;simpa [isA,pbulkL,pbulk] using this⟩
      | int k =>
        obtain ⟨m,rfl,_,hw⟩:=DataW.trod_int hu h
        exact ⟨_,.int t k m hu hw,.one ⟨.int k m,rfl⟩,by have:=Yn x.1;simpa [isA,pbulkL,pbulk] using this⟩
      | string =>
        obtain ⟨s,rfl,hx,hs⟩:=DataW.trod_string hu h
        refine ⟨_,.str t s.data.toList hu ?_,.one ⟨.str s,rfl⟩,by rw [hx];simp [isA,pbulkL,pbulk,dbulk]⟩
        simpa using hs
      | pointer e =>
        rcases DataW.trod_pointer hu h with ⟨rfl,_⟩|⟨a,cs',y,m,hm,rfl,hx,hc,hy⟩
        · exact ⟨_,.nilp t e hu,.one ⟨.nilp,rfl⟩,by have:=Yn x.1;simpa [isA,pbulkL,pbulk] using this⟩
        · simp only [Nat.add_right_cancel_iff] at hm
          subst hm
          obtain ⟨L,hL,hF,hbk⟩:=ih e cs' y (K.pointer hT hu) hy
          rcases Nat.eq_zero_or_pos (P.cellsOf e) with h0|hpos
          · exact ⟨_,.zero t e hu h0,.one ⟨.junk _,rfl⟩,by have:=Yn x.1;simpa [isA,pbulkL,pbulk] using this⟩
          obtain ⟨ha,h1,h2⟩:=cellAt hc hpos
          refine ⟨_,.ip t e L hu hL,.one ⟨?_,rfl⟩,by rw [hx];simp [isA,pbulkL,pbulk,dbulk];omega⟩
          rw [ha]
          exact .ip L a.block a.off (fun j=>cs'.getD j undef) (fun j hj=>by
            have hj':j<cs'.length:=hF.len ▸ hj
            have e1:cs'[j]?=some cs'[j]:=List.getElem?_eq_getElem hj'
            have e2:L[j]?=some L[j]:=List.getElem?_eq_getElem hj
            obtain ⟨h3,h4⟩:=h2 j _ e1
            rw [List.getD,e1]
            exact ⟨h3,h4,(hF.get j _ _ e2 e1).2⟩) (fun j cv hj=>by
            have hj':j<cs'.length:=hF.len ▸ Zb hj
            have e1:cs'[j]?=some cs'[j]:=List.getElem?_eq_getElem hj'
            rw [List.getD,e1]
            exact (hF.get j _ _ hj e1).1)
      | slice e =>
        rcases DataW.trod_slice hu h with ⟨rfl,_⟩|⟨a,len,cap,elems,rest,m,hm,rfl,hx,_,hlc,hcm,hlen,hel,hrest,_⟩
        · exact ⟨_,.nils t e hu,.one ⟨.vsNone _ (by simp),rfl⟩,by have:=Yn x.1;simpa [isA,pbulkL,pbulk] using this⟩
        · simp only [Nat.add_right_cancel_iff] at hm
          subst hm
          have hpos:=hz t e hT hu
          obtain ⟨s,hs⟩:∃ s,s=P.cellsOf e:=⟨_,rfl⟩
          rw [← hs] at hel hpos
          rcases Nat.eq_zero_or_pos len with rfl|hl0
          · rcases Nat.eq_zero_or_pos cap with rfl|hc0
            · exact ⟨_,.sl t e [] hu (by simp) (fun v hv=>by cases hv) (fun v hv=>by cases hv),.one ⟨.vsE _ a (by simp),rfl⟩,by have:=Yn x.1;simpa [isA,pbulkL,pbulk] using this⟩
            · obtain ⟨hrl,hr⟩:=hrest (hall _)
              have h1:=hr 0 (by omega)
              obtain ⟨z,hz'⟩:∃ z,rest[0]?=some z:=⟨rest[0]'(by omega),List.getElem?_eq_getElem (by omega)⟩
              rw [hz',Option.bind_eq_some_iff] at h1
              obtain ⟨cs',hc,hy⟩:=h1
              rw [← hs] at hc
              have h2:=(cellAt hc hpos).1
              have hspt:a.spot=none:=by
                have:=congrArg Addr.spot h2
                simpa [Addr.add] using this
              have ha:a=⟨a.block,a.off,none⟩:=by
                cases a
                simp only at hspt
                subst hspt
                rfl
              refine ⟨_,.sl t e [] hu (by simp) (fun v hv=>by cases hv) (fun v hv=>by cases hv),.one ⟨?_,rfl⟩,by have:=Yn x.1;simpa [isA,pbulkL,pbulk] using this⟩
              rw [ha]
              exact .vs .nn [] a.block a.off cap 0 (fun _ _=>undef) (by simp) (Nat.zero_le _) (by simp) (fun i e he=>by simp at he) (fun i j hi=>by simp at hi) (fun i j e cv he=>by simp at he)
          have each:∀ i,i<len→∃ v:PV,pbulk v≤((elems.map fun z=>dbulk z.1)[i]?).getD 0∧HasTy P e v.cells∧(∃ d,P.underlying e=some d∧v.isAgg=isA d)∧v.cells.length=s∧∀ j u,(∃ cv,v.cells[j]?=some cv∧True)→w.cell? ⟨a.block,a.off+i*s+j,none⟩=some u→(imm a.block∧u.oneCell'=true∧∀ cv,v.cells[j]?=some cv→IRel imm w cv u):=by
            intro i hi
            have h1:=hel i hi
            obtain ⟨z,hz'⟩:∃ z,elems[i]?=some z:=⟨elems[i]'(by omega),List.getElem?_eq_getElem (by omega)⟩
            rw [hz',Option.bind_eq_some_iff] at h1
            obtain ⟨cs',hc,hy⟩:=h1
            obtain ⟨L,hL,hF,hbk⟩:=ih e cs' z (K.slice hT hu) hy
            have hzb:((elems.map fun z=>dbulk z.1)[i]?).getD 0=dbulk z.1:=by simp [hz']
            obtain ⟨_,h2,h3⟩:=cellAt hc hpos
            have hLl:L.length=s:=by rw [hF.len,h2]
            have fin:∀ v:PV,v.cells=L→∀ j u,(∃ cv,v.cells[j]?=some cv∧True)→w.cell? ⟨a.block,a.off+i*s+j,none⟩=some u→(imm a.block∧u.oneCell'=true∧∀ cv,v.cells[j]?=some cv→IRel imm w cv u):=by
              intro v hv j u ⟨cv,hcv,_⟩ hu'
              rw [hv] at hcv ⊢
              have hj:j<cs'.length:=by rw [h2,← hLl];exact Zb hcv
              have e1:cs'[j]?=some cs'[j]:=List.getElem?_eq_getElem hj
              obtain ⟨h4,h5⟩:=h3 j _ e1
              have h5':w.cell? ⟨a.block,a.off+i*s+j,none⟩=some cs'[j]:=by rw [add_block',add_off'] at h5;exact h5
              rw [hu'] at h5'
              simp only [Option.some.injEq] at h5'
              subst h5'
              rw [add_block'] at h4
              exact ⟨h4,(hF.get j _ _ hcv e1).2,fun cv hcv=>(hF.get j _ _ hcv e1).1⟩
            cases hue:P.underlying e with
            | none =>
              exfalso
              cases n with
              | zero=>simp [DataW.trod] at hy
              | succ n=>unfold DataW.trod at hy;rw [hue] at hy;simp at hy
            | some d =>
              cases hA:isA d with
              | true=>exact ⟨.agg L,by rw [hzb];rw [hue] at hbk;simpa [hA,pbulk] using hbk,hL,⟨d,rfl,by simp [PV.isAgg,hA]⟩,hLl,fin _ rfl⟩
              | false =>
                obtain ⟨v,rfl,hv⟩:=isAgg_len hL ⟨d,hue,hA⟩
                have hvc:v.cells=[v]:=by cases v<;>first|rfl|simp [PV.isAgg] at hv
                exact ⟨v,by rw [hzb];rw [hue] at hbk;simpa [hA,pbulkL] using hbk,by rw [hvc];exact hL,⟨d,rfl,by rw [hv,hA]⟩,by rw [hvc];exact hLl,fin v hvc⟩
          have hsp:a=⟨a.block,a.off,none⟩:=by
            have h1:=hel 0 hl0
            obtain ⟨z,hz'⟩:∃ z,elems[0]?=some z:=⟨elems[0]'(by omega),List.getElem?_eq_getElem (by omega)⟩
            rw [hz',Option.bind_eq_some_iff] at h1
            obtain ⟨cs',hc,hy⟩:=h1
            have h2:=(cellAt hc hpos).1
            have:a.spot=none:=by
              have:=congrArg Addr.spot h2
              simpa [Addr.add] using this
            cases a
            simp only at this
            subst this
            rfl
          have hcell:∀ i j,i<len→j<s→∃ u,w.cell? ⟨a.block,a.off+i*s+j,none⟩=some u:=by
            intro i j hi hj
            have h1:=hel i hi
            obtain ⟨z,hz'⟩:∃ z,elems[i]?=some z:=⟨elems[i]'(by omega),List.getElem?_eq_getElem (by omega)⟩
            rw [hz',Option.bind_eq_some_iff] at h1
            obtain ⟨cs',hc,hy⟩:=h1
            obtain ⟨_,h2,h3⟩:=cellAt hc hpos
            have h4:=(h3 j _ (List.getElem?_eq_getElem (show j<cs'.length by omega))).2
            rw [add_block',add_off'] at h4
            exact ⟨_,h4⟩
          have each':∀ i,∃ v:PV,i<len→pbulk v≤((elems.map fun z=>dbulk z.1)[i]?).getD 0∧HasTy P e v.cells∧(∃ d,P.underlying e=some d∧v.isAgg=isA d)∧v.cells.length=s∧∀ j u,(∃ cv,v.cells[j]?=some cv∧True)→w.cell? ⟨a.block,a.off+i*s+j,none⟩=some u→(imm a.block∧u.oneCell'=true∧∀ cv,v.cells[j]?=some cv→IRel imm w cv u):=by
            intro i
            by_cases hi:i<len
            · obtain ⟨v,hv⟩:=each i hi
              exact ⟨v,fun _=>hv⟩
            · exact ⟨.junk,fun h=>absurd h hi⟩
          obtain ⟨V,hV⟩:∃ V:Nat→PV,∀ i,i<len→pbulk (V i)≤((elems.map fun z=>dbulk z.1)[i]?).getD 0∧HasTy P e (V i).cells∧(∃ d,P.underlying e=some d∧(V i).isAgg=isA d)∧(V i).cells.length=s∧∀ j u,(∃ cv,(V i).cells[j]?=some cv∧True)→w.cell? ⟨a.block,a.off+i*s+j,none⟩=some u→(imm a.block∧u.oneCell'=true∧∀ cv,(V i).cells[j]?=some cv→IRel imm w cv u) :=
            ⟨fun i=>(each' i).choose,fun i hi=>(each' i).choose_spec hi⟩
          have hget:∀ i e',((List.range len).map V)[i]?=some e'→i<len∧e'=V i:=by
            intro i e' he
            have hi:i<len:=by have:=Zb he;simpa using this
            simp [hi] at he
            exact ⟨hi,he.symm⟩
          refine ⟨_,.sl t e ((List.range len).map V) hu (by simp;omega) (fun v hv=>?_) (fun v hv=>?_),.one ⟨?_,rfl⟩,?_⟩
          · obtain ⟨i,hi,rfl⟩:=List.mem_map.1 hv
            have hi:i<len:=List.mem_range.1 hi
            exact (hV i hi).2.1
          · obtain ⟨i,hi,rfl⟩:=List.mem_map.1 hv
            have hi:i<len:=List.mem_range.1 hi
            exact (hV i hi).2.2.1
          · rw [hsp]
            have:=IRel.vs (imm:=imm) (w:=w) .nn ((List.range len).map V) a.block a.off cap s (fun i j=>(w.cell? ⟨a.block,a.off+i*s+j,none⟩).getD undef) (by simp) (by simp;exact hlc) (by simp)
              (fun i e' he=>by
                obtain ⟨hi,rfl⟩:=hget i e' he
                exact (hV i hi).2.2.2.1)
              (fun i j hi hj=>by
                have hi:i<len:=by simpa using hi
                obtain ⟨u,hu'⟩:=hcell i j hi hj
                obtain ⟨_,_,_,h5,h6⟩:=hV i hi
                obtain ⟨h7,h8,_⟩:=h6 j u ⟨_,List.getElem?_eq_getElem (by omega),trivial⟩ hu'
                rw [hu']
                exact ⟨h7,rfl,h8⟩)
              (fun i j e' cv he hcv=>by
                obtain ⟨hi,rfl⟩:=hget i e' he
                obtain ⟨_,_,_,h5,h6⟩:=hV i hi
                have hj:j<s:=by rw [← h5];exact Zb hcv
                obtain ⟨u,hu'⟩:=hcell i j hi hj
                rw [hu']
                exact (h6 j u ⟨cv,hcv,trivial⟩ hu').2.2 cv hcv)
            simpa using this
          · rw [hx]
            have h1:=pbulkL_map_le (f:=V) (g:=fun i=>((elems.map fun z=>dbulk z.1)[i]?).getD 0) (List.range len) fun i hi=>(hV i (List.mem_range.1 hi)).1
            have h2:(List.range len).map (fun i=>((elems.map fun z=>dbulk z.1)[i]?).getD 0)=elems.map fun z=>dbulk z.1:=by
              apply List.ext_getElem?
              intro i
              by_cases hi:i<len
              · simp [hi,List.getElem?_eq_getElem (show i<elems.length by omega)]
              · rw [List.getElem?_eq_none (by simp;omega),List.getElem?_eq_none (by simp;omega)]
            rw [h2] at h1
            simp only [isA,Bool.false_eq_true,if_false,pbulkL,pbulk,dbulk,dbulkAll_eq,List.map_map]
            have h3:(List.map (dbulk ∘ fun z:DataW H × List MemPlace=>z.1) elems)=elems.map fun z=>dbulk z.1:=rfl
            rw [h3]
            omega
      | struct fs =>
        obtain ⟨xs,m,hm,hxx,hl,hx,hf⟩:=DataW.trod_struct hu h
        simp only [Nat.add_right_cancel_iff] at hm
        subst hm
        obtain ⟨k1,k2,k3⟩:=K.struct hT hu
        obtain ⟨Ls,h1,h2,h3,h4⟩:=structs_of (P:=P) (T:=T) (imm:=imm) (w:=w) (rd:=fun t cs b=>∃ x,DataW.trod enc P w 0 spare held n t cs=some x∧dbulk x.1=b) (Hs:=HasTy P) (fun t cs b hT ⟨x,hx,hb⟩=>by
            obtain ⟨L,q1,q2,q3⟩:=ih t cs x hT hx
            exact ⟨L,q1,q2,by omega⟩) fs.toList (xs.map fun z=>dbulk z.1) 0 cs k1 (fun j f hf=>by rw [Nat.zero_add];exact k3 j f hf) (by simp [hx])
          (fun i f b hf' hb=>by
            have e1:fs[i]?=some f:=by simpa using hf'
            have hi:i<xs.length:=by have:=Zl e1;omega
            rw [hf i f e1]
            refine ⟨xs[i],List.getElem?_eq_getElem hi,?_⟩
            simpa [List.getElem?_eq_getElem hi] using hb)
        refine ⟨_,.struct t fs Ls hu (by simpa using h1) (fun i f L hf hL=>h2 i f L (by simpa using hf) hL),?_,?_⟩
        · rw [List.drop_zero,← k2,← hl,List.take_length] at h3
          exact h3
        · rw [hxx]
          simp only [isA,if_true,dbulk,dbulkAll_eq,List.map_map]
          have h5:(List.map (dbulk ∘ fun z:DataW H × List MemPlace=>z.1) xs)=xs.map fun z=>dbulk z.1:=rfl
          rw [h5]
          omega
      | array m e =>
        obtain ⟨k1,k2⟩:=K.array hT hu
        unfold DataW.trod at h
        rw [hu] at h
        have hcs:cs.length=P.cellsOf t∧∃ xs,(List.range m).mapM (fun i=>DataW.trod enc P w 0 spare held n e ((cs.drop (i*P.cellsOf e)).take (P.cellsOf e)))=some xs∧x.1=.agg (xs.map (·.1)):=by
          split at h<;>simp_all
          obtain ⟨_,xs,h2,h3⟩:=h
          exact ⟨xs,h2,by rw [← h3]⟩
        obtain ⟨hl,xs,hxs,hxx⟩:=hcs
        have hxl:=mapM_some_length hxs
        simp only [List.length_range] at hxl
        obtain ⟨Ls,h1,h2,h3,h4⟩:=arrays_of (imm:=imm) (w:=w) (s:=P.cellsOf e) (rd:=fun cs b=>∃ x,DataW.trod enc P w 0 spare held n e cs=some x∧dbulk x.1=b) (Hs:=HasTy P e) (fun cs b ⟨x,hx,hb⟩=>by
            obtain ⟨L,q1,q2,q3⟩:=ih e cs x k1 hx
            exact ⟨L,q1,q2,by omega⟩) m 0 (xs.map fun z=>dbulk z.1) cs (by simp [hxl])
          (fun i b hi hb=>by
            rw [Nat.zero_add]
            have h5:=mapM_some_get hxs i i (by simp [hi])
            have hi':i<xs.length:=by omega
            refine ⟨xs[i],h5.trans (List.getElem?_eq_getElem hi'),?_⟩
            simpa [List.getElem?_eq_getElem hi'] using hb)
        refine ⟨_,.array t e m Ls hu h1 h2,?_,?_⟩
        · rw [List.drop_zero,← k2,← hl,List.take_length] at h3
          exact h3
        · rw [hxx]
          simp only [isA,if_true,dbulk,dbulkAll_eq,List.map_map]
          have h5:(List.map (dbulk ∘ fun z:DataW H × List MemPlace=>z.1) xs)=xs.map fun z=>dbulk z.1:=rfl
          rw [h5]
          omega
      | _ =>
        obtain ⟨v,rfl,h1⟩:=trod_cell h (by rw [hu];simp) (by rw [hu];simp)
        exact ⟨_,.other t _ hu rfl,.one ⟨.junk _,h1⟩,by have:=Yn x.1;simpa [isA,pbulkL,pbulk] using this⟩
end
end Go.VI
namespace Go.VI
section
variable {H:Type} {enc:TypeId × Value→H} {P:Program} {W W':World} {spare:Nat→Bool} {held:Bool}
structure Kept (W W':World):Prop where
  size:W.heap.size≤W'.heap.size
  os:W'.os=W.os
  out:W'.output=W.output
  same:∀ b,b<W.heap.size→W'.heap[b]?=W.heap[b]?
theorem Kept.of_step {imm:Nat→Prop} {c':Ctx} (h:Step N0 (Ctx.bare imm) W c' W'):Kept W W' :=
  ⟨h.size,h.os,h.out,fun b hb=>h.frame b hb fun n p hp=>by cases hp⟩
theorem Kept.but (h:Kept W W') (S:MemPlace→Prop):W.keptBut W' S:=by
  refine ⟨h.os,h.out,fun i hi=>?_⟩
  rw [h.same i hi]
  cases hw:W.heap[i]? with
  | none=>rfl
  | some o =>
    cases o with
    | cells c t fr=>exact ⟨rfl,rfl,rfl,fun _ _=>rfl⟩
    | map es clock=>exact .inr ⟨rfl,rfl⟩
    | _=>rfl
theorem Kept.at (h:Kept W W') {p:MemPlace} (hp:p.block<W.heap.size):W.sameAt W' p:=by
  cases p with
  | cell b off=>exact cell?_of_heap (h.same b hp)
  | map b=>exact h.same b hp
theorem TrodAll.carry {base:Nat} {ts:List TypeId}:∀ {vs:List Value} {ds:List (DataW H)} {ps:List MemPlace},DataW.TrodAll enc P W base spare held ts vs ds ps→(∀ p∈ps,W.sameAt W' p)→DataW.TrodAll enc P W' base spare held ts vs ds ps:=by
  induction ts with
  | nil =>
    intro vs ds ps h _
    obtain ⟨rfl,rfl,rfl⟩:=ChangeShapes.trodAll_nil h
    exact rfl
  | cons t ts ih =>
    intro vs ds ps h hs
    obtain ⟨v,vs,d,ds,p,q,rfl,rfl,rfl,⟨n,h1⟩,h2⟩:=ChangeShapes.trodAll_cons h
    exact ⟨p,q,⟨n,DataW.trod_carry n _ _ _ h1 fun x hx=>hs x (List.mem_append_left _ hx)⟩,ih h2 fun x hx=>hs x (List.mem_append_right _ hx),rfl⟩
theorem trod_true {base:Nat} {tb:TypeId} (hub:P.underlying tb=some .bool):DataW.TrodAll enc P W' base spare held [tb] [.bool true] [.lit (.bool true)] [] :=
  ⟨[],[],⟨1,by simp [DataW.trod,hub,Value.cells]⟩,rfl,rfl⟩
theorem post_true {f:Func} {s:ChangeSpec} {apart fresh handsOn again:Bool} {args:Array Value} {ds gs:List (DataW H)} {before:List MemPlace} {tb:TypeId} (hl:laidOutB P=true) (hm:mapsRowed P=true)
    (hz:∀ t e,t<P.types.size→P.underlying t=some (.slice e)→0<P.cellsOf e) (hT:∀ t∈f.params.toList,t<P.types.size) (hv:s.vars=[]) (hW:DataW.Whole enc P f.params.toList s.vars apart W args.toList ds gs before) (hk:Kept W W')
    (hres:(s.fn H (ds++gs)).results=[.lit (.bool true)]) (hargs:(s.fn H (ds++gs)).args=ds) (hvars:(s.fn H (ds++gs)).vars=[]) (htb:f.resultTypes=#[tb]) (hub:P.underlying tb=some .bool) :
    s.post enc P f apart fresh handsOn again W args (.bool true) W'∧W.keptBut W' (fun _=>False):=by
  refine ⟨?_,hk.but _⟩
  have hlt:=hW.lt
  have hW':=hW
  obtain ⟨p,q,hA,hV,rfl,hfz,hnd⟩:=hW
  rw [hv] at hV
  have hq:gs=[]∧q=[]:=by
    cases gs with
    | nil=>exact ⟨rfl,hV⟩
    | cons _ _=>exact hV.elim
  obtain ⟨rfl,rfl⟩:=hq
  simp only [List.append_nil] at *
  have again:∀ sp:Nat→Bool,(∀ x∈p,sp x.block=true)→DataW.TrodAll enc P W' 0 sp true f.params.toList args.toList ds p:=fun sp hsp =>
    TrodAll.carry (DataW.TrodAll.respare (kids_rows hl hm) hz hT hA hsp) fun x hx=>hk.at (hlt x hx)
  have hrl:(Value.bool true).resultList f.resultTypes.size=[.bool true]:=by rw [htb];rfl
  have hrt:f.resultTypes.toList=[tb]:=by rw [htb]
  refine ⟨ds,[],p,[],p,[],hW',?_,?_,?_,hk.but _,fun _=>⟨fun j t r hj hr=>?_,[.lit (.bool true)]++ds,[],p,⟨p,[],?_,?_,(by simp),fun b off hp=>?_,hnd⟩,fun x hx _=>hx⟩⟩
  · rw [List.append_nil,hres,hrl,hrt]
    exact trod_true hub
  · rw [List.append_nil,hargs]
    exact again _ fun x hx=>by simpa using hlt x hx
  · rw [List.append_nil,hvars,hv]
    rfl
  · rw [hrl] at hr
    rw [htb] at hj
    cases j with
    | zero =>
      simp at hj hr
      subst hj hr
      simp [Value.okWide,hub,Cell.okWide,Cell.ok]
    | succ j=>simp at hj
  · have:=ChangeShapes.trodAll_append (again (fun _=>true) fun _ _=>rfl) (trod_true (enc:=enc) (P:=P) (W':=W') (base:=0) (spare:=fun _=>true) (held:=true) hub)
    rw [hrl,hrt]
    simpa using this
  · rw [hv]
    rfl
  · have h1:=hfz b off hp
    have h2:=hk.same b (hlt _ hp)
    unfold World.frozen? at h1 ⊢
    simp only at h1 ⊢
    rw [h2]
    exact h1
end
end Go.VI
namespace Go.VI
def Evt (p:Nat→Prop):Prop:=∃ K,∀ k,K≤k→p k
theorem Evt.of {p:Nat→Prop} (h:∀ k,p k):Evt p:=⟨0,fun k _=>h k⟩
theorem Evt.mono {p q:Nat→Prop} (h:Evt p) (hq:∀ k,p k→q k):Evt q:=let ⟨K,h⟩:=h;⟨K,fun k hk=>hq k (h k hk)⟩
theorem Evt.and {p q:Nat→Prop} (h:Evt p) (h':Evt q):Evt fun k=>p k∧q k :=
  let ⟨K,h⟩:=h;let ⟨K',h'⟩:=h';⟨max K K',fun k hk=>⟨h k (by omega),h' k (by omega)⟩⟩
theorem Evt.succ {p:Nat→Prop} (h:Evt fun k=>p (k+1)):Evt p:=by
  obtain ⟨K,h⟩:=h
  refine ⟨K+1,fun k hk=>?_⟩
  have:=h (k - 1) (by omega)
  simp only at this
  rwa [show k - 1+1=k by omega] at this
theorem Evt.ex {p:Nat→Prop} (h:Evt p):∃ k,p k:=let ⟨K,h⟩:=h;⟨K,h K (Nat.le_refl _)⟩
theorem Evt.eq {α:Type} {f:Nat→Option α} {a b:α} (h:Evt fun k=>f k=some a) (h':Evt fun k=>f k=some b):a=b:=by
  obtain ⟨k,h1,h2⟩:=(h.and h').ex
  rw [h1] at h2
  exact Option.some.inj h2
section
variable (E:Env)
open Classical in
noncomputable def callR:CallE:=fun f args h=>if x:∃ r,Evt fun k=>callN E k f args h=some r then some x.choose else none
open Classical in
noncomputable def yieldR:Nm→List PV→Heap→Option (PV × Heap):=fun n args h=>if x:∃ r,Evt fun k=>yieldN E k n args h=some r then some x.choose else none
noncomputable def stepX (dst:Option Nat) (o:POp) (fr:Fr):Option Fr:=stepOp E (callR E) (yieldR E) dst o fr
noncomputable def guS (g:Option Bool) (o:PPO) (fr:Fr):Option Fr :=
  match g with
  | none=>none
  | some false=>some (fr.put o.dst (.tuple []))
  | some true=>stepX E o.dst o.op fr
def optQ (x:Option Fr) (Q:Fr→Prop):Prop:=match x with|some fr=>Q fr|none=>False
def regQ:List PPO→Fr→(Fr→Prop)→Prop
  | [],fr,Q=>Q fr
  | o::r,fr,Q=>optQ (guS E (guardE fr.tmps o.guard) o fr) fun fr'=>regQ r fr' Q
def loopQ (a:PC) (fr:Fr) (Q:PEx→Fr→Prop):Prop:=∃ ex fr',(Evt fun k=>evN E k (.loop a) fr=some (ex,fr'))∧Q ex fr'
def goOn (past:List DPO) (it:DPO) (fr fr':Fr):Prop :=
  (it.isC=true→it.chk=[]∨quiet E it.o fr.tmps=true∨(past.all fun x=>!it.chk.contains x.ix||stable E (callR E) (yieldR E) fr' x.o)=true)∧(it.isC=false→freshSlot fr it.o=true)
def pastOf (past:List DPO) (it:DPO):List DPO:=if it.isC then past else it::past
def itemsQ:List DPO→List DPO→Fr→(Fr→Prop)→Prop
  | _,[],fr,Q=>Q fr
  | past,it::r,fr,Q=>optQ (guS E (guardE fr.tmps it.o.guard) it.o fr) fun fr'=>goOn E past it fr fr'∧itemsQ (pastOf past it) r fr' Q
def thenQ (next:Fr→Prop) (Q:PEx→Fr→Prop):PEx→Fr→Prop
  | .norm,fr=>next fr
  | e,fr=>Q e fr
def blockQ (id:Nat) (Q:PEx→Fr→Prop):PEx→Fr→Prop
  | .exit id',fr=>if id'=id then Q .norm fr else Q (.exit id') fr
  | e,fr=>Q e fr
def condQ (v:PV) (a b:Prop):Prop :=
  match v with
  | .bool true=>a
  | .bool false=>b
  | _=>False
def wpE:PC→Fr→(PEx→Fr→Prop)→Prop
  | .skip,fr,Q=>Q .norm fr
  | .reg ops,fr,Q=>regQ E ops fr (Q .norm)
  | .regd its _ mxd,fr,Q=>mxd≤fr.tmps.length∧itemsQ E [] its (dropSl its fr) (Q .norm)
  | .seq a b,fr,Q=>wpE a fr (thenQ (fun fr1=>wpE b fr1 Q) Q)
  | .cond c a b,fr,Q=>condQ (evX E fr.tmps c) (wpE a fr Q) (wpE b fr Q)
  | .block id a,fr,Q=>wpE a fr (blockQ id Q)
  | .loop a,fr,Q=>loopQ E a fr Q
  | .exit id,fr,Q=>Q (.exit id) fr
  | .ret,fr,Q=>Q .ret fr
  | .cln m a,fr,Q=>wpE a { fr with tmps:=keepE 0 m fr.tmps } Q
  | .rangef s f ps p q,fr,Q=>∃ ex fr',(Evt fun k=>evN E k (.rangef s f ps p q) fr=some (ex,fr'))∧Q ex fr'
end
section
variable {E:Env}
theorem callR_spec {f:Nat} {args:List PV} {h:Heap} {r:PV × Heap} (hc:callR E f args h=some r):Evt fun k=>callN E k f args h=some r:=by
  unfold callR at hc
  split at hc
  · rename_i x
    simp only [Option.some.injEq] at hc
    exact hc ▸ x.choose_spec
  · cases hc
theorem callR_of {f:Nat} {args:List PV} {h:Heap} {r:PV × Heap} (hc:Evt fun k=>callN E k f args h=some r):callR E f args h=some r:=by
  unfold callR
  have x:∃ r,Evt fun k=>callN E k f args h=some r:=⟨r,hc⟩
  rw [dif_pos x]
  exact congrArg some (Evt.eq x.choose_spec hc)
theorem yieldR_spec {n:Nm} {args:List PV} {h:Heap} {r:PV × Heap} (hc:yieldR E n args h=some r):Evt fun k=>yieldN E k n args h=some r:=by
  unfold yieldR at hc
  split at hc
  · rename_i x
    simp only [Option.some.injEq] at hc
    exact hc ▸ x.choose_spec
  · cases hc
theorem doCall_evt {f:Nat} {args:List PV} {h:Heap} {r:PV × Heap} (hc:doCall E (callR E) f args h=some r):Evt fun k=>doCall E (callN E k) f args h=some r:=by
  unfold doCall at hc
  split at hc
  · cases hc
  rename_i pf hpf
  split at hc
  · rename_i hp
    split at hc
    · rename_i hl
      split at hc
      case h_2=>cases hc
      rename_i v h' he
      refine (callR_spec he).mono fun k hk=>?_
      simp only [doCall,hpf,hp,if_true,hl,hk]
      exact hc
    · rename_i hl
      split at hc
      · cases hc
      rename_i args' ha
      split at hc
      case h_2=>cases hc
      rename_i v h' he
      refine (callR_spec he).mono fun k hk=>?_
      simp only [doCall,hpf,hp,if_true,hl,Bool.false_eq_true,if_false,ha,hk]
      exact hc
  · rename_i hp
    split at hc
    case h_2=>cases hc
    rename_i v h' he
    refine (callR_spec he).mono fun k hk=>?_
    simp only [doCall,hpf,hp,Bool.false_eq_true,if_false,hk]
    exact hc
theorem callV_evt {f:PV} {args:List PV} {h:Heap} {r:PV × Heap} (hc:callV E (callR E) (yieldR E) f args h=some r):Evt fun k=>callV E (callN E k) (yieldN E k) f args h=some r:=by
  unfold callV at hc
  split at hc
  · exact doCall_evt hc
  · split at hc
    · rename_i hob
      split at hc
      · rename_i hg
        refine (yieldR_spec hc).mono fun k hk=>?_
        simp only [callV,hob,hg,if_true]
        exact hk
      · cases hc
    · cases hc
  · cases hc
theorem stepOp_nc {ce ce':CallE} {ye ye':Nm→List PV→Heap→Option (PV × Heap)} {dst:Option Nat} {o:POp} {fr:Fr} (h1:∀ f args,o≠.call f args) (h2:∀ s cl f args,o≠.calla s cl f args):stepOp E ce ye dst o fr=stepOp E ce' ye' dst o fr:=by
  cases o<;>first
    | rfl
    | exact absurd rfl (h1 _ _)
    | exact absurd rfl (h2 _ _ _ _)
theorem calla_of {ce:CallE} {ye:Nm→List PV→Heap→Option (PV × Heap)} {dst:Option Nat} {s:Nat} {cl:Bool} {f:PX} {args:List PX} {fr fr':Fr} (h:stepOp E ce ye dst (.calla s cl f args) fr=some fr') :
    ∃ k L r,ce k [.vs .nn L] []=some r∧(L.isEmpty=false∨∃ h2,ce k [.vs .nil []] []=some (.vs .nil [],h2)) ∧
      ∀ ce' ye',ce' k [.vs .nn L] []=some r→(L.isEmpty=false∨∃ h2,ce' k [.vs .nil []] []=some (.vs .nil [],h2))→stepOp E ce' ye' dst (.calla s cl f args) fr=some fr':=by
  simp only [stepOp] at h
  split at h
  case h_2=>cases h
  rename_i k x hf
  split at h
  case h_2=>cases h
  rename_i pf L hpf hel
  split at h
  case isFalse=>cases h
  rename_i hp
  split at h
  case h_2=>cases h
  rename_i n gg len h' hc
  split at h
  case h_2=>cases h
  rename_i el g' sz hob
  split at h
  case isFalse=>cases h
  rename_i hcc
  refine ⟨k,L,_,hc,?_,fun ce' ye' h1 h2=>?_⟩
  · have:=hcc.2.2.2.2
    unfold nilRes at this
    cases hL:L.isEmpty with
    | false=>exact .inl rfl
    | true =>
      rw [hL] at this
      simp only [Bool.not_true,Bool.false_or] at this
      split at this
      case h_2=>cases this
      rename_i h2 e
      exact .inr ⟨h2,e⟩
  · have hn:nilRes L (ce' k [.vs .nil []] [])=true:=by
      unfold nilRes
      rcases h2 with h2|⟨h2,e⟩
      · rw [h2];rfl
      · rw [e];simp
    simp only [stepOp,hf,hpf,hel,hp,if_true,h1,hob]
    rw [if_pos ⟨hcc.1,hcc.2.1,hcc.2.2.1,hcc.2.2.2.1,hn⟩]
    exact h
theorem stepX_evt {dst:Option Nat} {o:POp} {fr fr':Fr} (h:stepX E dst o fr=some fr'):Evt fun k=>stepOp E (callN E k) (yieldN E k) dst o fr=some fr':=by
  unfold stepX at h
  by_cases h1:∃ f args,o=.call f args
  · obtain ⟨f,args,rfl⟩:=h1
    simp only [stepOp] at h
    split at h
    case h_2=>cases h
    rename_i v h' hc
    exact (callV_evt hc).mono fun k hk=>by simp only [stepOp,hk];exact h
  · by_cases h2:∃ s cl f args,o=.calla s cl f args
    · obtain ⟨s,cl,f,args,rfl⟩:=h2
      obtain ⟨k,L,r,h1,h2,h3⟩:=calla_of h
      rcases h2 with h2|⟨hp,h2⟩
      · exact (callR_spec h1).mono fun j hj=>h3 _ _ hj (.inl h2)
      · exact ((callR_spec h1).and (callR_spec h2)).mono fun j hj=>h3 _ _ hj.1 (.inr ⟨hp,hj.2⟩)
    · exact .of fun k=>(stepOp_nc (fun f args e=>h1 ⟨f,args,e⟩) (fun s cl f args e=>h2 ⟨s,cl,f,args,e⟩)).trans h
theorem guS_evt {o:PPO} {fr fr':Fr} (h:guS E (guardE fr.tmps o.guard) o fr=some fr'):Evt fun k=>stepPO E (callN E k) (yieldN E k) o fr=some fr':=by
  unfold guS at h
  split at h
  · cases h
  · rename_i hg
    exact .of fun k=>by simp only [stepPO,hg];exact h
  · rename_i hg
    exact (stepX_evt h).mono fun k hk=>by simp only [stepPO,hg];exact hk
theorem optQ_some {x:Option Fr} {Q:Fr→Prop} (h:optQ x Q):∃ fr,x=some fr∧Q fr:=by
  unfold optQ at h
  split at h
  · exact ⟨_,rfl,h⟩
  · exact h.elim
theorem regQ_sound:∀ {ops:List PPO} {fr:Fr} {Q:Fr→Prop},regQ E ops fr Q→∃ fr',(Evt fun k=>runOps E (callN E k) (yieldN E k) ops fr=some fr')∧Q fr'
  | [],fr,Q,h=>⟨fr,.of fun k=>rfl,h⟩
  | o::r,fr,Q,h=>by
    obtain ⟨fr1,h1,h2⟩:=optQ_some h
    obtain ⟨fr2,h3,h4⟩:=regQ_sound h2
    exact ⟨fr2,((guS_evt h1).and h3).mono fun k hk=>by simp only [runOps,hk.1,hk.2],h4⟩
theorem stable_evt {fr:Fr} {o:PPO} (h:stable E (callR E) (yieldR E) fr o=true):Evt fun k=>stable E (callN E k) (yieldN E k) fr o=true:=by
  unfold stable at h ⊢
  split at h
  · cases h
  rename_i d hd
  split at h
  · cases h
  · rename_i hg
    exact .of fun k=>h
  · rename_i hg
    split at h
    · exact .of fun k=>h
    · rename_i hs
      split at h
      case h_2=>cases h
      rename_i fr' he
      exact (stepX_evt he).mono fun k hk=>by rw [hk];exact h
theorem evt_all {α:Type} {p:Nat→α→Bool}:∀ (l:List α),(∀ x∈l,Evt fun k=>p k x=true)→Evt fun k=>l.all (p k)=true
  | [],_=>.of fun k=>rfl
  | x::l,h=>((h x (List.mem_cons_self ..)).and (evt_all l fun y hy=>h y (List.mem_cons_of_mem _ hy))).mono fun k hk=>by rw [List.all_cons,hk.1,hk.2];rfl
theorem itemsQ_sound:∀ {its past:List DPO} {fr:Fr} {Q:Fr→Prop},itemsQ E past its fr Q→∃ fr',(Evt fun k=>runD E (callN E k) (yieldN E k) past its fr=some fr')∧Q fr'
  | [],past,fr,Q,h=>⟨fr,.of fun k=>by simp [runD],h⟩
  | it::r,past,fr,Q,h=>by
    unfold itemsQ at h
    obtain ⟨fr1,h1,hgo,h2⟩:=optQ_some h
    obtain ⟨fr2,h3,h4⟩:=itemsQ_sound h2
    cases hc:it.isC with
    | true =>
      have hp:pastOf past it=past:=by simp [pastOf,hc]
      rw [hp] at h3
      have hq:Evt fun k=>(quiet E it.o fr.tmps||past.all (fun x=>!it.chk.contains x.ix||stable E (callN E k) (yieldN E k) fr1 x.o))=true:=by
        rcases hgo.1 hc with hq|hq|hq
        · exact .of fun k=>by simp [hq]
        · exact .of fun k=>by simp [hq]
        · rw [List.all_eq_true] at hq
          refine (evt_all (p:=fun k x=>!it.chk.contains x.ix||stable E (callN E k) (yieldN E k) fr1 x.o) past fun x hx=>?_).mono fun k hk=>by simp only [hk,Bool.or_true]
          have:=hq x hx
          rw [Bool.or_eq_true] at this
          rcases this with h5|h5
          · exact .of fun k=>by simp only [h5,Bool.true_or]
          · exact (stable_evt h5).mono fun k hk=>by simp only [hk,Bool.or_true]
      refine ⟨fr2,(((guS_evt h1).and h3).and hq).mono fun k hk=>?_,h4⟩
      simp only [runD,hc,if_true,hk.1.1,hk.2,hk.1.2]
    | false =>
      have hp:pastOf past it=it::past:=by simp [pastOf,hc]
      rw [hp] at h3
      refine ⟨fr2,((guS_evt h1).and h3).mono fun k hk=>?_,h4⟩
      simp only [runD,hc,Bool.false_eq_true,if_false,hgo.2 hc,if_true,hk.1,hk.2]
theorem condQ_some {v:PV} {a b:Prop} (h:condQ v a b):∃ t,v=.bool t∧(if t=true then a else b):=by
  unfold condQ at h
  split at h
  · exact ⟨true,rfl,h⟩
  · exact ⟨false,rfl,h⟩
  · exact h.elim
theorem Yc:∀ {c:PC} {fr:Fr} {Q:PEx→Fr→Prop},wpE E c fr Q→∃ ex fr',(Evt fun k=>evN E k c fr=some (ex,fr'))∧Q ex fr'
  | .skip,fr,Q,h=>⟨.norm,fr,.succ (.of fun k=>by simp [evN]),h⟩
  | .reg ops,fr,Q,h=>by
    obtain ⟨fr',h1,h2⟩:=regQ_sound h
    exact ⟨.norm,fr',.succ (h1.mono fun k hk=>by simp only [evN,hk]),h2⟩
  | .regd its gcL mxd,fr,Q,h=>by
    obtain ⟨hl,h⟩:=h
    obtain ⟨fr',h1,h2⟩:=itemsQ_sound h
    exact ⟨.norm,fr',.succ (h1.mono fun k hk=>by simp only [evN,Nat.ble_eq_true_of_le hl,if_true,hk]),h2⟩
  | .seq a b,fr,Q,h=>by
    obtain ⟨ex,fr1,h1,h2⟩:=Yc (c:=a) h
    cases ex with
    | norm =>
      obtain ⟨ex,fr2,h3,h4⟩:=Yc (c:=b) h2
      exact ⟨ex,fr2,.succ ((h1.and h3).mono fun k hk=>by simp only [evN,hk.1,hk.2]),h4⟩
    | exit id=>exact ⟨_,fr1,.succ (h1.mono fun k hk=>by simp only [evN,hk]),h2⟩
    | ret=>exact ⟨_,fr1,.succ (h1.mono fun k hk=>by simp only [evN,hk]),h2⟩
  | .cond c a b,fr,Q,h=>by
    obtain ⟨t,ht,h⟩:=condQ_some h
    cases t with
    | true =>
      obtain ⟨ex,fr1,h1,h2⟩:=Yc (c:=a) h
      exact ⟨ex,fr1,.succ (h1.mono fun k hk=>by simp only [evN,ht,if_true,hk]),h2⟩
    | false =>
      obtain ⟨ex,fr1,h1,h2⟩:=Yc (c:=b) h
      exact ⟨ex,fr1,.succ (h1.mono fun k hk=>by simp only [evN,ht,Bool.false_eq_true,if_false,hk]),h2⟩
  | .block id a,fr,Q,h=>by
    obtain ⟨ex,fr1,h1,h2⟩:=Yc (c:=a) h
    cases ex with
    | norm=>exact ⟨_,fr1,.succ (h1.mono fun k hk=>by simp only [evN,hk]),h2⟩
    | ret=>exact ⟨_,fr1,.succ (h1.mono fun k hk=>by simp only [evN,hk]),h2⟩
    | exit id' =>
      simp only [blockQ] at h2
      split at h2
      · rename_i he
        exact ⟨_,fr1,.succ (h1.mono fun k hk=>by simp only [evN,hk,he,if_true]),h2⟩
      · rename_i he
        exact ⟨_,fr1,.succ (h1.mono fun k hk=>by simp only [evN,hk,he,if_false]),h2⟩
  | .loop a,fr,Q,h=>h
  | .exit id,fr,Q,h=>⟨_,fr,.succ (.of fun k=>by simp [evN]),h⟩
  | .ret,fr,Q,h=>⟨_,fr,.succ (.of fun k=>by simp [evN]),h⟩
  | .cln m a,fr,Q,h=>by
    obtain ⟨ex,fr1,h1,h2⟩:=Yc (c:=a) h
    exact ⟨ex,fr1,.succ (h1.mono fun k hk=>by simp only [evN,hk]),h2⟩
  | .rangef s f ps p q,fr,Q,h=>h
def look:List (Nat × PV)→Nat→PV
  | [],_=>.junk
  | (j,v)::r,i=>if j=i then v else look r i
def mk (n:Nat) (l:List (Nat × PV)):List PV:=(List.range n).map (look l)
theorem mk_len {n:Nat} {l:List (Nat × PV)}:(mk n l).length=n:=by simp [mk]
theorem mk_get {n i:Nat} {l:List (Nat × PV)}:(mk n l).getD i .junk=if i<n then look l i else .junk:=by
  simp only [mk,List.getD,List.getElem?_map]
  by_cases h:i<n
  · simp [h]
  · simp [h]
theorem mk_set {n i:Nat} {v:PV} {l:List (Nat × PV)}:(mk n l).set i v=mk n ((i,v)::l):=by
  apply List.ext_getElem?
  intro j
  rw [List.getElem?_set]
  simp only [mk,List.getElem?_map,List.length_map,List.length_range]
  by_cases h:i=j
  · subst h
    by_cases hi:i<n
    · simp [hi,look]
    · simp [hi]
  · by_cases hj:j<n
    · simp [h,hj,look]
    · simp [h,hj]
def asc:List Nat→Bool
  | []=>true
  | [_]=>true
  | a::b::r=>Nat.blt a b&&asc (b::r)
def keepL (ks:List Nat):List (Nat × PV)→List (Nat × PV)
  | []=>[]
  | (i,v)::r=>if i∈ks then (i,v)::keepL ks r else keepL ks r
theorem Za {ks:List Nat}:∀ {l:List (Nat × PV)} {i:Nat},look (keepL ks l) i=if i∈ks then look l i else .junk
  | [],i=>by simp [keepL,look]
  | (j,v)::r,i=>by
    have ih:=Za (ks:=ks) (l:=r) (i:=i)
    unfold keepL
    by_cases hj:j∈ks
    · rw [if_pos hj]
      by_cases hji:j=i
      · subst hji
        simp [look,hj]
      · simp [look,hji,ih]
    · rw [if_neg hj,ih]
      by_cases hi:i∈ks
      · have:j≠i:=fun e=>hj (e ▸ hi)
        simp [look,hi,this]
      · simp [hi]
theorem keepE_at:∀ (l:List PV) (ks:List Nat) (k:Nat),asc ks=true→(∀ q∈ks,k≤q)→∀ i,(keepE k ks l)[i]?=if i+k∈ks then l[i]? else (l[i]?).map fun _=>.junk
  | [],ks,k,_,_,i=>by simp [keepE]
  | v::r,[],k,ha,hk,i=>by
    simp only [keepE,List.not_mem_nil,if_false]
    cases i with
    | zero=>simp
    | succ i =>
      have:=keepE_at r [] (k+1) rfl (fun q hq=>by cases hq) i
      simpa using this
  | v::r,q::ks,k,ha,hk,i=>by
    have hasc:asc ks=true∧∀ x∈ks,q<x:=by
      clear hk
      induction ks generalizing q with
      | nil=>exact ⟨rfl,fun x hx=>by cases hx⟩
      | cons b ks ih =>
        simp only [asc,Bool.and_eq_true] at ha
        obtain ⟨h1,h2⟩:=ih b ha.2
        have hqb:q<b:=by simpa using ha.1
        refine ⟨ha.2,fun x hx=>?_⟩
        rcases List.mem_cons.1 hx with rfl|hx
        · exact hqb
        · exact Nat.lt_trans hqb (h2 x hx)
    obtain ⟨ha',hlt⟩:=hasc
    unfold keepE
    split
    · rename_i hq
      have hq:k=q:=Nat.eq_of_beq_eq_true hq
      subst hq
      cases i with
      | zero=>simp
      | succ i =>
        have:=keepE_at r ks (k+1) ha' (fun x hx=>hlt x hx) i
        rw [List.getElem?_cons_succ,List.getElem?_cons_succ,this]
        have e:i+1+k=i+(k+1):=by omega
        rw [e]
        have hne:¬ i+(k+1)=k:=by omega
        simp [hne]
    · rename_i hq
      have hq:k≠q:=fun e=>hq (by rw [e];exact Nat.beq_refl q)
      have hkq:=hk q (List.mem_cons_self ..)
      cases i with
      | zero =>
        have h1:¬ (0+k=q):=by omega
        have h2:¬ (0+k∈ks):=fun hx=>by have:=hlt _ hx;omega
        rw [Nat.zero_add] at h1 h2
        simp [h1,h2]
      | succ i =>
        have:=keepE_at r (q::ks) (k+1) ha (fun x hx=>by
          rcases List.mem_cons.1 hx with rfl|hx
          · omega
          · have:=hlt x hx;omega) i
        rw [List.getElem?_cons_succ,List.getElem?_cons_succ,this]
        have e:i+1+k=i+(k+1):=by omega
        rw [e]
theorem mk_keep {n:Nat} {ks:List Nat} {l:List (Nat × PV)} (h:asc ks=true):keepE 0 ks (mk n l)=mk n (keepL ks l):=by
  apply List.ext_getElem?
  intro i
  rw [keepE_at _ _ 0 h (fun q _=>Nat.zero_le q) i]
  simp only [mk,List.getElem?_map,Nat.add_zero]
  by_cases hi:i<n
  · simp [hi,Za]
    split<;>rfl
  · simp [hi]
inductive KI where
  | code (c:PC)
  | ops (l:List PPO)
  | its (past l:List DPO)
  | blk (id:Nat)
def kQ (E:Env):List KI→(PEx→Fr→Prop)→PEx→Fr→Prop
  | [],Q,ex,fr=>Q ex fr
  | .code c::ks,Q,.norm,fr=>wpE E c fr (kQ E ks Q)
  | .ops l::ks,Q,.norm,fr=>regQ E l fr (kQ E ks Q .norm)
  | .its past l::ks,Q,.norm,fr=>itemsQ E past l fr (kQ E ks Q .norm)
  | .blk id::ks,Q,ex,fr=>blockQ id (kQ E ks Q) ex fr
  | _::ks,Q,ex,fr=>kQ E ks Q ex fr
def optK (E:Env) (x:Option Fr) (ks:List KI) (Q:PEx→Fr→Prop):Prop:=optQ x (kQ E ks Q .norm)
def optD (E:Env) (x:Option Fr) (past:List DPO) (it:DPO) (r:List DPO) (fr:Fr) (ks:List KI) (Q:PEx→Fr→Prop):Prop:=optQ x fun fr'=>goOn E past it fr fr'∧kQ E (.its (pastOf past it) r::ks) Q .norm fr'
def condK (E:Env) (v:PV) (a b:PC) (ks:List KI) (Q:PEx→Fr→Prop) (fr:Fr):Prop:=condQ v (kQ E (.code a::ks) Q .norm fr) (kQ E (.code b::ks) Q .norm fr)
variable {ks:List KI} {Q:PEx→Fr→Prop} {fr fr':Fr}
theorem thenQ_kQ {b:PC}:thenQ (fun fr1=>wpE E b fr1 (kQ E ks Q)) (kQ E ks Q)=kQ E (.code b::ks) Q:=by
  funext ex fr
  cases ex<;>rfl
theorem blockQ_kQ {id:Nat}:blockQ id (kQ E ks Q)=kQ E (.blk id::ks) Q:=by
  funext ex fr
  cases ex<;>rfl
theorem K_nil {ex:PEx}:kQ E [] Q ex fr=Q ex fr:=rfl
theorem K_skip:kQ E (.code .skip::ks) Q .norm fr=kQ E ks Q .norm fr:=rfl
theorem Zg {a b:PC}:kQ E (.code (.seq a b)::ks) Q .norm fr=kQ E (.code a::.code b::ks) Q .norm fr:=by
  show wpE E a fr _=wpE E a fr _
  rw [thenQ_kQ]
theorem K_reg {l:List PPO}:kQ E (.code (.reg l)::ks) Q .norm fr=kQ E (.ops l::ks) Q .norm fr:=rfl
theorem K_regd {l:List DPO} {gc:List Nat} {m:Nat}:kQ E (.code (.regd l gc m)::ks) Q .norm fr=(m≤fr.tmps.length∧kQ E (.its [] l::ks) Q .norm (dropSl l fr)):=rfl
theorem K_cond {c:PX} {a b:PC}:kQ E (.code (.cond c a b)::ks) Q .norm fr=condK E (evX E fr.tmps c) a b ks Q fr:=rfl
theorem K_block {id:Nat} {a:PC}:kQ E (.code (.block id a)::ks) Q .norm fr=kQ E (.code a::.blk id::ks) Q .norm fr:=by
  show wpE E a fr _=wpE E a fr _
  rw [blockQ_kQ]
theorem K_loop {a:PC}:kQ E (.code (.loop a)::ks) Q .norm fr=loopQ E a fr (kQ E ks Q):=rfl
theorem K_exit {id:Nat}:kQ E (.code (.exit id)::ks) Q .norm fr=kQ E ks Q (.exit id) fr:=rfl
theorem K_ret:kQ E (.code .ret::ks) Q .norm fr=kQ E ks Q .ret fr:=rfl
theorem K_cln {m:List Nat} {a:PC}:kQ E (.code (.cln m a)::ks) Q .norm fr=kQ E (.code a::ks) Q .norm { fr with tmps:=keepE 0 m fr.tmps }:=rfl
theorem K_keep {m:List Nat} {a:PC} {L n:Nat} {l:List (Nat × PV)} {h:Heap} {d:List (Option (Nat × List PV))} (hm:asc m=true) (hk:kQ E (.code a::ks) Q .norm { lvl:=L,tmps:=mk n (keepL m l),heap:=h,defers:=d }):kQ E (.code (.cln m a)::ks) Q .norm { lvl:=L,tmps:=mk n l,heap:=h,defers:=d }:=by
  rw [K_cln]
  simp only [mk_keep hm]
  exact hk
theorem K_onil:kQ E (.ops []::ks) Q .norm fr=kQ E ks Q .norm fr:=rfl
theorem K_ocons {o:PPO} {r:List PPO}:kQ E (.ops (o::r)::ks) Q .norm fr=optK E (guS E (guardE fr.tmps o.guard) o fr) (.ops r::ks) Q:=rfl
theorem K_inil {past:List DPO}:kQ E (.its past []::ks) Q .norm fr=kQ E ks Q .norm fr:=by
  show itemsQ E past [] fr _=_
  simp [itemsQ]
theorem K_icons {past:List DPO} {it:DPO} {r:List DPO}:kQ E (.its past (it::r)::ks) Q .norm fr=optD E (guS E (guardE fr.tmps it.o.guard) it.o fr) past it r fr ks Q:=by
  show itemsQ E past (it::r) fr _=_
  rw [itemsQ]
  rfl
theorem K_bnorm {id:Nat}:kQ E (.blk id::ks) Q .norm fr=kQ E ks Q .norm fr:=rfl
theorem K_bret {id:Nat}:kQ E (.blk id::ks) Q .ret fr=kQ E ks Q .ret fr:=rfl
theorem K_bexit {id id':Nat}:kQ E (.blk id::ks) Q (.exit id') fr=if id'=id then kQ E ks Q .norm fr else kQ E ks Q (.exit id') fr:=rfl
theorem K_cret {c:PC}:kQ E (.code c::ks) Q .ret fr=kQ E ks Q .ret fr:=rfl
theorem K_cexit {c:PC} {id:Nat}:kQ E (.code c::ks) Q (.exit id) fr=kQ E ks Q (.exit id) fr:=rfl
theorem optK_some:optK E (some fr) ks Q=kQ E ks Q .norm fr:=rfl
theorem optD_c {past:List DPO} {ix:Nat} {o:PPO} {anc:List Nat} {r:List DPO}:optD E (some fr') past { ix:=ix,o:=o,isC:=true,anc:=anc,chk:=[] } r fr ks Q=kQ E (.its past r::ks) Q .norm fr':=by
  simp [optD,optQ,goOn,pastOf]
theorem optD_r {past:List DPO} {ix:Nat} {o:PPO} {anc chk:List Nat} {r:List DPO}:optD E (some fr') past { ix:=ix,o:=o,isC:=false,anc:=anc,chk:=chk } r fr ks Q=(freshSlot fr o=true∧kQ E (.its ({ ix:=ix,o:=o,isC:=false,anc:=anc,chk:=chk }::past) r::ks) Q .norm fr'):=by
  simp [optD,optQ,goOn,pastOf]
theorem condK_t {a b:PC}:condK E (.bool true) a b ks Q fr=kQ E (.code a::ks) Q .norm fr:=rfl
theorem condK_f {a b:PC}:condK E (.bool false) a b ks Q fr=kQ E (.code b::ks) Q .norm fr:=rfl
theorem guS_t {o:PPO}:guS E (some true) o fr=stepX E o.dst o.op fr:=rfl
theorem guS_f {o:PPO}:guS E (some false) o fr=some (fr.put o.dst (.tuple [])):=rfl
theorem condK_split {p:Prop} [Decidable p] {a b:PC} (h1:p→kQ E (.code a::ks) Q .norm fr) (h2:¬ p→kQ E (.code b::ks) Q .norm fr):condK E (.bool (decide p)) a b ks Q fr:=by
  by_cases h:p
  · rw [decide_eq_true h];exact h1 h
  · rw [decide_eq_false h];exact h2 h
theorem wpE_of {c:PC} (h:kQ E [.code c] Q .norm fr):wpE E c fr Q:=h
theorem loop_step {a:PC} {Q:PEx→Fr→Prop} (h:wpE E a fr (thenQ (fun fr1=>loopQ E a fr1 Q) Q)):loopQ E a fr Q:=by
  obtain ⟨ex,fr1,h1,h2⟩:=Yc h
  cases ex with
  | norm =>
    obtain ⟨ex,fr2,h3,h4⟩:=h2
    exact ⟨ex,fr2,.succ ((h1.and h3).mono fun k hk=>by simp only [evN,hk.1,hk.2]),h4⟩
  | exit id=>exact ⟨_,fr1,.succ (h1.mono fun k hk=>by simp only [evN,hk]),h2⟩
  | ret=>exact ⟨_,fr1,.succ (h1.mono fun k hk=>by simp only [evN,hk]),h2⟩
theorem loopK {a:PC} (h:kQ E (.code a::.code (.loop a)::ks) Q .norm fr):loopQ E a fr (kQ E ks Q):=by
  refine loop_step ?_
  have e:thenQ (fun fr1=>loopQ E a fr1 (kQ E ks Q)) (kQ E ks Q)=kQ E (.code (.loop a)::ks) Q:=thenQ_kQ (b:=.loop a)
  rw [e]
  exact h
def endQ (rs:List RV) (r:PV):PEx→Fr→Prop:=fun ex fr=>(match ex with|.exit _=>False|_=>True)∧fr.defers=[]∧resultsE fr.heap fr.tmps rs=some r
theorem endQ_ret {rs:List RV} {r:PV} {L:Nat} {T:List PV} {h:Heap}:endQ rs r .ret { lvl:=L,tmps:=T,heap:=h,defers:=[] }=(resultsE h T rs=some r):=by simp [endQ]
theorem endQ_norm {rs:List RV} {r:PV} {L:Nat} {T:List PV} {h:Heap}:endQ rs r .norm { lvl:=L,tmps:=T,heap:=h,defers:=[] }=(resultsE h T rs=some r):=by simp [endQ]
def enum:Nat→List PV→List (Nat × PV)
  | _,[]=>[]
  | i,v::r=>(i,v)::enum (i+1) r
theorem look_enum:∀ (l:List PV) (k i:Nat),look (enum k l) (k+i)=l.getD i .junk
  | [],k,i=>by simp [enum,look]
  | v::r,k,0=>by simp [enum,look]
  | v::r,k,i+1=>by
    have:=look_enum r (k+1) i
    have h:¬ k=k+(i+1):=by omega
    simp only [enum,look,h,if_false,List.getD_cons_succ]
    rw [← this]
    congr 1
    omega
theorem start_eq {args:List PV} {m:Nat}:keepE 0 (List.range args.length) (args++List.replicate m (.tuple []))=mk (args.length+m) (enum 0 args):=by
  have hasc:∀ n k,asc (List.range' k n)=true:=by
    intro n
    induction n with
    | zero=>intro k;rfl
    | succ n ih =>
      intro k
      cases n with
      | zero=>rfl
      | succ n =>
        have:=ih (k+1)
        simp only [List.range'_succ,asc,Bool.and_eq_true] at this ⊢
        exact ⟨by simp,this⟩
  apply List.ext_getElem?
  intro i
  rw [keepE_at _ _ 0 (by rw [List.range_eq_range'];exact hasc _ _) (fun q _=>Nat.zero_le q) i]
  simp only [mk,List.getElem?_map,Nat.add_zero,List.mem_range]
  by_cases h1:i<args.length
  · have h2:=look_enum args 0 i
    rw [Nat.zero_add] at h2
    rw [if_pos h1,List.getElem?_append_left h1,List.getElem?_range (by omega),List.getElem?_eq_getElem h1]
    simp [h2,List.getD,List.getElem?_eq_getElem h1]
  · rw [if_neg h1]
    by_cases h3:i<args.length+m
    · have h2:=look_enum args 0 i
      rw [Nat.zero_add] at h2
      rw [List.getElem?_append_right (by omega),List.getElem?_replicate,if_pos (by omega),List.getElem?_range h3]
      simp [h2,List.getD,List.getElem?_eq_none (show args.length≤i by omega)]
    · rw [List.getElem?_eq_none (by simp;omega),List.getElem?_eq_none (by simp;omega)]
      rfl
theorem body_evt {f:Nat} {pf:PFn} {args:List PV} {r:PV} {c:PC} (hpf:E.pf f=some pf) (hb:pf.body=.cln (List.range args.length) c) (hn:args.length=pf.nparams)
    (hw:kQ E [.code c] (endQ pf.results r) .norm { lvl:=0,tmps:=mk (args.length+(pf.ntmps - pf.nparams)) (enum 0 args),heap:=[List.replicate pf.nobjs none],defers:=[] })
    (he:pf.ext=none:=by rfl):∃ h',Evt fun k=>callN E k f args []=some (r,h'):=by
  have hw':kQ E [.code pf.body] (endQ pf.results r) .norm { lvl:=0,tmps:=args++List.replicate (pf.ntmps - pf.nparams) (.tuple []),heap:=[List.replicate pf.nobjs none],defers:=[] }:=by
    rw [hb,K_cln]
    simp only [start_eq]
    exact hw
  obtain ⟨ex,fr,h1,hex,hd,hres⟩:=Yc (wpE_of hw')
  have hdef:Evt fun k=>defN E k fr.defers fr.heap=some fr.heap:=.succ (.of fun k=>by rw [hd];rfl)
  refine ⟨fr.heap,.succ ((h1.and hdef).mono fun k hk=>?_)⟩
  simp only [callN,hpf,he,hn,if_true,List.length_nil,List.nil_append]
  rw [hk.1]
  cases ex with
  | exit id=>exact hex.elim
  | norm=>simp only [hk.2,hres]
  | ret=>simp only [hk.2,hres]
theorem Zd {f:Nat} {pf:PFn} {args:List PV} {r:PV} {c:PC} (hpf:E.pf f=some pf) (hp:pf.pure=true) (hb:pf.body=.cln (List.range args.length) c) (hn:args.length=pf.nparams) (hlow:PV.lowL 0 args=true) (hr:r.low 0=true)
    (hw:kQ E [.code c] (endQ pf.results r) .norm { lvl:=0,tmps:=mk (args.length+(pf.ntmps - pf.nparams)) (enum 0 args),heap:=[List.replicate pf.nobjs none],defers:=[] }) (h:Heap) (he:pf.ext=none:=by rfl) :
    doCall E (callR E) f args h=some (r,h):=by
  obtain ⟨h',hcall⟩:=body_evt hpf hb hn hw he
  have hpop:pop 0 r h'=some (r,[]):=by
    unfold pop
    have:snap h' 0 4 r=some r:=by simp [snap,hr]
    rw [this]
    simp [heapLow]
  simp only [doCall,hpf,hp,if_true,hlow,callR_of hcall,hpop]
theorem hget_0 {l:List (Option Ob)} {i:Nat}:hget [l] (0,i)=(l[i]?).bind id:=rfl
theorem hset_0 {l:List (Option Ob)} {i:Nat} {o:Ob}:hset [l] (0,i) o=[l.set i (some o)]:=rfl
theorem getD_0 {l:List (Option Ob)}:([l]:Heap).getD 0 []=l:=rfl
end
end Go.VI
namespace Go.VI
variable {E:Env}
def CallLe (c c':CallE):Prop:=∀ f args h r,c f args h=some r→c' f args h=some r
def YieldLe (y y':Nm→List PV→Heap→Option (PV × Heap)):Prop:=∀ n args h r,y n args h=some r→y' n args h=some r
theorem doCall_mono {c c':CallE} (hc:CallLe c c'):CallLe (doCall E c) (doCall E c'):=by
  intro f args h r he
  unfold doCall at he
  rw [doCall]
  split at he
  · cases he
  rename_i pf hpf
  split at he
  · rename_i hp
    split at he
    · rename_i hl
      split at he
      case h_2=>cases he
      rename_i v h' hv
      simp only [hp,if_true,hl,hc _ _ _ _ hv]
      exact he
    · rename_i hl
      split at he
      · cases he
      rename_i args' ha
      split at he
      case h_2=>cases he
      rename_i v h' hv
      simp only [hp,if_true,if_neg hl,hc _ _ _ _ hv]
      exact he
  · rename_i hp
    split at he
    case h_2=>cases he
    rename_i v h' hv
    simp only [if_neg hp,hc _ _ _ _ hv]
    exact he
variable {c c':CallE} {y y':Nm→List PV→Heap→Option (PV × Heap)}
theorem callV_mono (hc:CallLe c c') (hy:YieldLe y y') {f:PV} {args:List PV} {h:Heap} {r:PV × Heap} (he:callV E c y f args h=some r):callV E c' y' f args h=some r:=by
  unfold callV at he ⊢
  split at he
  · exact doCall_mono hc _ _ _ _ he
  · split at he
    · split at he
      · rename_i hg
        rw [if_pos hg]
        exact hy _ _ _ _ he
      · cases he
    · cases he
  · cases he
theorem stepOp_mono (hc:CallLe c c') (hy:YieldLe y y') {dst:Option Nat} {o:POp} {fr fr':Fr} (h:stepOp E c y dst o fr=some fr'):stepOp E c' y' dst o fr=some fr':=by
  by_cases h1:∃ f args,o=.call f args
  · obtain ⟨f,args,rfl⟩:=h1
    simp only [stepOp] at h ⊢
    split at h
    case h_2=>cases h
    rename_i v h' hv
    rw [callV_mono hc hy hv]
    exact h
  · by_cases h2:∃ s cl f args,o=.calla s cl f args
    · obtain ⟨s,cl,f,args,rfl⟩:=h2
      obtain ⟨k,L,r,h1,h2,h3⟩:=calla_of h
      exact h3 _ _ (hc _ _ _ _ h1) (h2.imp id fun ⟨hp,h2⟩=>⟨hp,hc _ _ _ _ h2⟩)
    · exact (stepOp_nc (fun f args e=>h1 ⟨f,args,e⟩) (fun s cl f args e=>h2 ⟨s,cl,f,args,e⟩)).trans h
theorem stepPO_mono (hc:CallLe c c') (hy:YieldLe y y') {o:PPO} {fr fr':Fr} (h:stepPO E c y o fr=some fr'):stepPO E c' y' o fr=some fr':=by
  unfold stepPO at h ⊢
  split at h
  · cases h
  · exact h
  · exact stepOp_mono hc hy h
theorem runOps_mono (hc:CallLe c c') (hy:YieldLe y y'):∀ {ops:List PPO} {fr fr':Fr},runOps E c y ops fr=some fr'→runOps E c' y' ops fr=some fr'
  | [],_,_,h=>h
  | o::r,fr,fr',h=>by
    unfold runOps at h ⊢
    split at h
    case h_2=>cases h
    rename_i fr1 h1
    rw [stepPO_mono hc hy h1]
    exact runOps_mono hc hy h
theorem stable_mono (hc:CallLe c c') (hy:YieldLe y y') {o:PPO} {fr:Fr} (h:stable E c y fr o=true):stable E c' y' fr o=true:=by
  unfold stable at h ⊢
  split at h
  · cases h
  split at h
  · cases h
  · exact h
  · split at h
    · exact h
    · split at h
      case h_2=>cases h
      rename_i fr1 h1
      rw [stepOp_mono hc hy h1]
      exact h
theorem runD_mono (hc:CallLe c c') (hy:YieldLe y y'):∀ {its past:List DPO} {fr fr':Fr},runD E c y past its fr=some fr'→runD E c' y' past its fr=some fr'
  | [],_,_,_,h=>by simpa only [runD] using h
  | it::r,past,fr,fr',h=>by
    unfold runD at h ⊢
    split at h
    · rename_i hC
      rw [if_pos hC]
      split at h
      · cases h
      rename_i fr1 h1
      rw [stepPO_mono hc hy h1]
      split at h
      case isFalse=>cases h
      rename_i hq
      have hq':(quiet E it.o fr.tmps||past.all fun x=>!it.chk.contains x.ix||stable E c' y' fr1 x.o)=true:=by
        rw [Bool.or_eq_true] at hq ⊢
        refine hq.imp id fun h2=>?_
        rw [List.all_eq_true] at h2 ⊢
        intro x hx
        have:=h2 x hx
        rw [Bool.or_eq_true] at this ⊢
        exact this.imp id (stable_mono hc hy)
      simp only [hq',if_true]
      exact runD_mono hc hy h
    · rename_i hC
      rw [if_neg hC]
      split at h
      case isFalse=>cases h
      rename_i hf
      rw [if_pos hf]
      split at h
      · cases h
      rename_i fr1 h1
      rw [stepPO_mono hc hy h1]
      exact runD_mono hc hy h
theorem fuel_mono:∀ k,CallLe (callN E k) (callN E (k+1))∧CallLe (callD E k) (callD E (k+1))∧(∀ ds h r,defN E k ds h=some r→defN E (k+1) ds h=some r)∧(∀ c fr r,evN E k c fr=some r→evN E (k+1) c fr=some r)∧YieldLe (yieldN E k) (yieldN E (k+1)):=by
  intro k
  induction k with
  | zero =>
    refine ⟨fun f args h r he=>?_,fun f args h r he=>?_,fun ds h r he=>?_,fun c fr r he=>?_,fun n args h r he=>?_⟩
    · simp [callN] at he
    · simp [callD] at he
    · simp [defN] at he
    · simp [evN] at he
    · simp [yieldN] at he
  | succ k ih =>
    obtain ⟨h1,h2,h3,h4,h5⟩:=ih
    refine ⟨fun f args h r he=>?_,fun f args h r he=>?_,fun ds h r he=>?_,fun c fr r he=>?_,fun n args h r he=>?_⟩
    · simp only [callN] at he
      rw [callN]
      split at he
      · cases he
      rename_i pf hpf
      split at he
      · rename_i val hx
        simp only [hpf,hx]
        exact he
      rename_i hx
      split at he
      case isFalse=>cases he
      rename_i hn
      simp only [hpf,hx,hn,if_true]
      have key:∀ (fr:Fr) (v:PV × Heap),(match defN E k fr.defers fr.heap with
          | some h'=>(match resultsE h' fr.tmps pf.results with
            | some v=>some (v,h')
            | none=>none)
          | none=>none)=some v→(match defN E (k+1) fr.defers fr.heap with
          | some h'=>(match resultsE h' fr.tmps pf.results with
            | some v=>some (v,h')
            | none=>none)
          | none=>none)=some v:=by
        intro fr v hv
        split at hv
        case h_2=>cases hv
        rename_i h' hdn
        rw [h3 _ _ _ hdn]
        exact hv
      split at he
      · rename_i fr hev
        rw [h4 _ _ _ hev]
        exact key fr r he
      · rename_i fr hev
        rw [h4 _ _ _ hev]
        exact key fr r he
      · cases he
    · simp only [callD] at he
      rw [callD]
      split at he
      · cases he
      rename_i pf hpf
      split at he
      case isFalse=>cases he
      rename_i hn
      simp only [hpf]
      rw [if_pos hn]
      split at he
      · rename_i fr hev
        rw [h4 _ _ _ hev]
        exact he
      · rename_i fr hev
        rw [h4 _ _ _ hev]
        exact he
      · cases he
    · cases ds with
      | nil=>simpa only [defN] using he
      | cons d ds =>
        cases d with
        | none =>
          simp only [defN] at he ⊢
          exact h3 _ _ _ he
        | some d =>
          obtain ⟨f,args⟩:=d
          simp only [defN] at he
          rw [defN]
          split at he
          case h_2=>cases he
          rename_i v h' hv
          rw [doCall_mono h2 _ _ _ _ hv]
          exact h3 _ _ _ he
    · cases c with
      | skip=>simpa only [evN] using he
      | exit id=>simpa only [evN] using he
      | ret=>simpa only [evN] using he
      | reg ops =>
        simp only [evN] at he
        rw [evN]
        split at he
        case h_2=>cases he
        rename_i fr1 hr
        simp only [runOps_mono h1 h5 hr]
        exact he
      | regd its gcL mxd =>
        simp only [evN] at he
        rw [evN]
        split at he
        case isFalse=>cases he
        rename_i hl
        simp only [hl,if_true]
        split at he
        case h_2=>cases he
        rename_i fr1 hr
        simp only [runD_mono h1 h5 hr]
        exact he
      | seq a b =>
        simp only [evN] at he
        rw [evN]
        split at he
        · rename_i fr1 ha
          simp only [h4 _ _ _ ha]
          exact h4 _ _ _ he
        · rename_i hne
          have ha:=h4 _ _ _ he
          simp only [ha]
          obtain ⟨ex,fr1⟩:=r
          cases ex with
          | norm=>exact absurd he (hne _)
          | exit id=>rfl
          | ret=>rfl
      | cond c a b =>
        simp only [evN] at he
        rw [evN]
        split at he
        case h_2=>cases he
        exact h4 _ _ _ he
      | block id a =>
        simp only [evN] at he
        rw [evN]
        split at he
        · rename_i id' fr1 ha
          simp only [h4 _ _ _ ha]
          exact he
        · rename_i hne
          have ha:=h4 _ _ _ he
          simp only [ha]
          obtain ⟨ex,fr1⟩:=r
          cases ex with
          | norm=>rfl
          | exit id=>exact absurd he (hne _ _)
          | ret=>rfl
      | loop a =>
        simp only [evN] at he
        rw [evN]
        split at he
        · rename_i fr1 ha
          simp only [h4 _ _ _ ha]
          exact h4 _ _ _ he
        · rename_i hne
          have ha:=h4 _ _ _ he
          simp only [ha]
          obtain ⟨ex,fr1⟩:=r
          cases ex with
          | norm=>exact absurd he (hne _)
          | exit id=>rfl
          | ret=>rfl
      | cln m a =>
        simp only [evN] at he ⊢
        exact h4 _ _ _ he
      | rangef s f ps p q =>
        simp only [evN] at he
        rw [evN]
        split at he
        case isFalse=>cases he
        rename_i hs
        simp only [hs,if_true]
        split at he
        case h_2=>cases he
        split at he
        case h_2=>cases he
        rename_i v h' hc
        simp only [doCall_mono h1 _ _ _ _ hc]
        exact he
    · simp only [yieldN] at he
      rw [yieldN]
      split at he
      case h_2=>cases he
      split at he
      case isFalse=>cases he
      rename_i hl
      simp only [hl,if_true]
      split at he
      case h_2=>cases he
      rename_i fr1 ha
      simp only [h4 _ _ _ ha]
      split at he
      case h_2=>cases he
      split at he
      case isFalse=>cases he
      rename_i hg
      simp only [hg,if_true]
      split at he
      case h_2=>cases he
      rename_i fr2 hb
      simp only [h4 _ _ _ hb]
      exact he
theorem callN_evt {k:Nat} {f:Nat} {args:List PV} {h:Heap} {r:PV × Heap} (hc:callN E k f args h=some r):Evt fun k=>callN E k f args h=some r:=by
  refine ⟨k,fun j hj=>?_⟩
  induction hj with
  | refl=>exact hc
  | step _ ih=>exact (fuel_mono _).1 _ _ _ _ ih
theorem callR_some {k:Nat} {f:Nat} {args:List PV} {h:Heap} {r:PV × Heap} (hc:callN E k f args h=some r):callR E f args h=some r:=callR_of (callN_evt hc)
theorem call_closed {k:Nat} {f:Nat} {pf:PFn} {b:Bool} (hpf:E.pf f=some pf) (hp:pf.pure=true) (hc:(callN E k f [] []).map (·.1)=some (.bool b)) (h:Heap):doCall E (callR E) f [] h=some (.bool b,h):=by
  rw [Option.map_eq_some_iff] at hc
  obtain ⟨⟨v,h'⟩,h1,h2⟩:=hc
  simp only at h2
  subst h2
  simp only [doCall,hpf,hp,if_true,PV.lowL,callR_some h1]
  have:pop 0 (.bool b) h'=some (.bool b,[]):=by
    unfold pop
    have:snap h' 0 4 (.bool b)=some (.bool b):=by simp [snap,PV.low]
    rw [this]
    simp [heapLow]
  rw [this]
end Go.VI
namespace Go.VI
variable {E:Env} {ks:List KI} {Q:PEx→Fr→Prop} {fr:Fr}
theorem loopK' {c a:PC} (hc:c=.loop a) (h:kQ E (.code a::.code c::ks) Q .norm fr):kQ E (.code c::ks) Q .norm fr:=by
  subst hc
  exact loopK h
theorem optK_gsplit {p:Prop} [Decidable p] {b:Bool} {o:PPO} (h1:p→optK E (guS E (some (true==b)) o fr) ks Q) (h2:¬ p→optK E (guS E (some (false==b)) o fr) ks Q):optK E (guS E (some (decide p==b)) o fr) ks Q:=by
  by_cases h:p
  · rw [decide_eq_true h];exact h1 h
  · rw [decide_eq_false h];exact h2 h
def pureB (E:Env) (f:Nat):Bool:=match E.pf f with|some pf=>pf.pure|none=>false
theorem optD_call {fr':Fr} {past:List DPO} {ix f:Nat} {a b:List PV} {args:List PX} {dst:Option Nat} {gd:Option (Nat × Bool)} {anc chk:List Nat} {r:List DPO} (h:pureB E f=true) :
    optD E (some fr') past { ix:=ix,o:={ dst:=dst,op:=.call (.c (.fn f a b)) args,guard:=gd },isC:=true,anc:=anc,chk:=chk } r fr ks Q=kQ E (.its past r::ks) Q .norm fr':=by
  have:quiet E { dst:=dst,op:=.call (.c (.fn f a b)) args,guard:=gd } fr.tmps=true:=h
  simp [optD,optQ,goOn,pastOf,this]
theorem look_keep {ks:List Nat} {l:List (Nat × PV)} {i:Nat}:look (keepL ks l) i=if i∈ks then look l i else .junk:=Za
theorem int_beq {a b:Int}:(a==b)=decide (a=b):=by
  by_cases h:a=b
  · simp [h]
  · simp [h]
theorem int_bne {a b:Int}:(a != b)=!decide (a=b):=by rw [bne,int_beq]
theorem natbeq_self {n:Nat}:Nat.beq n n=true:=Nat.beq_refl n
theorem headSz_nil {n:Nat}:headSz n []=true:=by unfold headSz;rfl
theorem headSz_cons {n:Nat} {e:PV} {r:List PV}:headSz n (e::r)=Nat.beq e.cells.length n:=by unfold headSz;rfl
theorem beq_tf:(true==false)=false:=rfl
theorem beq_ft:(false==true)=false:=rfl
theorem zero_ne_one':((0:Nat)=1)=False:=by simp
theorem one_ne_zero':((1:Nat)=0)=False:=by simp
theorem wrap64 {x:Int} (h1 : -9223372036854775808≤x) (h2:x≤9223372036854775807):IntKind.i64.wrap x=x:=by
  simp [IntKind.wrap,IntKind.bits,IntKind.signed]
  split<;>omega
end Go.VI
namespace Go.VI
section
variable {g:PG}
theorem law_calls (hg:g.OK) {f:Nat} {args:List PV} (hd:doCall g.E (callR g.E) f args []=some (.bool true,[])) (hG:∀ i,g.GL i=false) {vs:Array Value} {W:World} (hl:args.length=vs.size)
    (h:∀ (i:Nat) v u,args[i]?=some v→vs[i]?=some u→IRel (fun b=>b<W.heap.size) W v u):Calls g.P f vs W fun e W'=>e=.returned (.bool true)∧Kept W W':=by
  obtain ⟨k,hk⟩:=(doCall_evt hd).ex
  have hs:HS g (Ctx.bare fun b=>b<W.heap.size) W []:=HS.bare _ (fun _ h=>h) fun i v hi=>by simp [PG.G,hG] at hi
  refine callsMono (doCall_sound (callN_sound hg k) f args [] (.bool true) [] hk _ W vs hs ⟨hl,fun i v u hv hu=>.i _ _ (h i v u hv hu)⟩) fun e W' hR=>?_
  obtain ⟨u,c',rfl,hS,_,hV⟩:=hR
  have:=hV.bool_inv
  subst this
  exact ⟨rfl,Kept.of_step hS⟩
end
section
variable {H:Type} {enc:TypeId × Value→H} {P:Program} {W:World}
theorem arg_irel (hl:laidOutB P=true) (hm:mapsRowed P=true) (hz:∀ t e,t<P.types.size→P.underlying t=some (.slice e)→0<P.cellsOf e) {t:TypeId} (ht:t<P.types.size) {v:Value} {d:DataW H} {ps:List MemPlace}
    (hd:DataW.Trod enc P W 0 (fun _=>true) true t v d ps) (hv:Value.okWide P W .any 0 t v∨∃ b,Value.okWide P W .any b t v):∃ pv:PV,HasTy P t pv.cells∧(∃ dd,P.underlying t=some dd∧pv.isAgg=isA dd)∧IRel (fun b=>b<W.heap.size) W pv v∧pbulk pv≤dbulk d:=by
  obtain ⟨n,hn⟩:=hd
  obtain ⟨L,hL,hF,hB⟩:=irel_of_trod (imm:=fun b=>b<W.heap.size) (fun _=>rfl) (kids_rows hl hm) hz (fun _ h=>h) n t v.cells.toList (d,ps) ht hn
  have hok:∃ b,Value.okWide P W .any b t v:=hv.elim (fun h=>⟨0,h⟩) fun h=>h
  obtain ⟨b,hok⟩:=hok
  cases hu:P.underlying t with
  | none =>
    exfalso
    cases n with
    | zero=>simp [DataW.trod] at hn
    | succ n=>unfold DataW.trod at hn;rw [hu] at hn;simp at hn
  | some dd =>
    have aggCase:isA dd=true→(∃ cs,v=.agg cs)→∃ pv:PV,HasTy P t pv.cells∧(∃ dd',some dd=some dd'∧pv.isAgg=isA dd')∧IRel (fun b=>b<W.heap.size) W pv v∧pbulk pv≤dbulk d:=by
      rintro hA ⟨cs,rfl⟩
      refine ⟨.agg L,hL,⟨dd,rfl,by simp [PV.isAgg,hA]⟩,.agg L cs (by simpa [Value.cells] using hF.len) (fun i u hu'=>?_) (fun i c u hc hu'=>?_),by rw [hu] at hB;simpa [hA,pbulk] using hB⟩
      · have hlt:=Zl hu'
        have hlL:i<L.length:=by rw [hF.len];simpa [Value.cells] using hlt
        exact (hF.get i _ u (List.getElem?_eq_getElem hlL) (by simpa [Value.cells] using hu')).2
      · exact (hF.get i c u hc (by simpa [Value.cells] using hu')).1
    have oneCase:isA dd=false→v.oneCell'=true→∃ pv:PV,HasTy P t pv.cells∧(∃ dd',some dd=some dd'∧pv.isAgg=isA dd')∧IRel (fun b=>b<W.heap.size) W pv v∧pbulk pv≤dbulk d:=by
      intro hA h1
      have hc:v.cells.toList=[v]:=by cases v<;>first|rfl|simp [Value.oneCell'] at h1
      rw [hc] at hF
      have hone:∃ pv,L=[pv]∧pv.isAgg=false:=by
        cases hL with
        | struct _ fs Ls h=>rw [hu] at h;simp only [Option.some.injEq] at h;subst h;simp [isA] at hA
        | array _ e n Ls h=>rw [hu] at h;simp only [Option.some.injEq] at h;subst h;simp [isA] at hA
        | other _ d' h hA'=>exact ⟨_,rfl,rfl⟩
        | _=>exact ⟨_,rfl,rfl⟩
      obtain ⟨pv,rfl,hp⟩:=hone
      have hpc:pv.cells=[pv]:=by cases pv<;>first|rfl|simp [PV.isAgg] at hp
      exact ⟨pv,by rw [hpc];exact hL,⟨dd,rfl,by rw [hp,hA]⟩,(hF.get 0 pv v rfl rfl).1,by rw [hu] at hB;simpa [hA,pbulkL] using hB⟩
    cases hA:isA dd with
    | true =>
      refine aggCase hA ?_
      unfold Value.okWide at hok
      rw [hu] at hok
      cases dd<;>simp [isA] at hA
      · obtain ⟨cs,h,_⟩:=hok;exact ⟨cs,h⟩
      · obtain ⟨cs,h,_⟩:=hok;exact ⟨cs,h⟩
    | false =>
      refine oneCase hA ?_
      cases n with
      | zero=>simp [DataW.trod] at hn
      | succ n =>
        obtain ⟨v0,hv0,h1⟩:=trod_cell hn (by rw [hu];intro fs h;simp only [Option.some.injEq] at h;subst h;simp [isA] at hA) (by rw [hu];intro n e h;simp only [Option.some.injEq] at h;subst h;simp [isA] at hA)
        cases v with
        | agg cs =>
          exfalso
          have hok2:=hok
          unfold Value.okWide at hok2
          rw [hu] at hok2
          cases dd<;>simp [isA] at hA<;>simp [Cell.okWide,Cell.ok,hu] at hok2
        | tuple cs =>
          exfalso
          have hok2:=hok
          unfold Value.okWide at hok2
          rw [hu] at hok2
          cases dd<;>simp [isA] at hA<;>simp [Cell.okWide,Cell.ok,hu] at hok2
        | _=>rfl
theorem HasTy.int_inv {t:TypeId} {k:IntKind} {L:List PV} (h:HasTy P t L) (hu:P.underlying t=some (.int k)):∃ n,L=[.int k n]∧(Lit.int k n).wf=true:=by
  cases h with
  | int _ k' n h hw=>rw [hu] at h;simp only [Option.some.injEq,TypeDesc.int.injEq] at h;subst h;exact ⟨n,rfl,hw⟩
  | bool _ _ h=>rw [hu] at h;simp at h
  | str _ _ h=>rw [hu] at h;simp at h
  | nilp _ _ h=>rw [hu] at h;simp at h
  | zero _ _ h=>rw [hu] at h;simp at h
  | ip _ _ _ h=>rw [hu] at h;simp at h
  | nils _ _ h=>rw [hu] at h;simp at h
  | sl _ _ _ h=>rw [hu] at h;simp at h
  | struct _ _ _ h=>rw [hu] at h;simp at h
  | array _ _ _ _ h=>rw [hu] at h;simp at h
  | other _ d h hA=>rw [hu] at h;simp only [Option.some.injEq] at h;subst h;simp [spoken] at hA
theorem HasTy.slice_inv {t e:TypeId} {L:List PV} (h:HasTy P t L) (hu:P.underlying t=some (.slice e)):∃ f l,L=[.vs f l]∧l.length≤maxLen∧(∀ v∈l,HasTy P e v.cells)∧∀ v∈l,∃ d,P.underlying e=some d∧v.isAgg=isA d:=by
  cases h with
  | nils _ _ h=>exact ⟨_,[],rfl,Nat.zero_le _,(fun v hv=>by cases hv),fun v hv=>by cases hv⟩
  | sl _ e' l h hl hL hA=>rw [hu] at h;simp only [Option.some.injEq,TypeDesc.slice.injEq] at h;subst h;exact ⟨_,l,rfl,hl,hL,hA⟩
  | bool _ _ h=>rw [hu] at h;simp at h
  | int _ _ _ h=>rw [hu] at h;simp at h
  | str _ _ h=>rw [hu] at h;simp at h
  | nilp _ _ h=>rw [hu] at h;simp at h
  | zero _ _ h=>rw [hu] at h;simp at h
  | ip _ _ _ h=>rw [hu] at h;simp at h
  | struct _ _ _ h=>rw [hu] at h;simp at h
  | array _ _ _ _ h=>rw [hu] at h;simp at h
  | other _ d h hA=>rw [hu] at h;simp only [Option.some.injEq] at h;subst h;simp [spoken] at hA
theorem HasTy.array_inv {t e:TypeId} {n:Nat} {L:List PV} (h:HasTy P t L) (hu:P.underlying t=some (.array n e)):∃ Ls:List (List PV),L=Ls.flatten∧Ls.length=n∧∀ M∈Ls,HasTy P e M:=by
  cases h with
  | array _ e' n' Ls h hl hf=>rw [hu] at h;simp only [Option.some.injEq,TypeDesc.array.injEq] at h;obtain ⟨rfl,rfl⟩:=h;exact ⟨Ls,rfl,hl,hf⟩
  | bool _ _ h=>rw [hu] at h;simp at h
  | int _ _ _ h=>rw [hu] at h;simp at h
  | str _ _ h=>rw [hu] at h;simp at h
  | nilp _ _ h=>rw [hu] at h;simp at h
  | zero _ _ h=>rw [hu] at h;simp at h
  | ip _ _ _ h=>rw [hu] at h;simp at h
  | nils _ _ h=>rw [hu] at h;simp at h
  | sl _ _ _ h=>rw [hu] at h;simp at h
  | struct _ _ _ h=>rw [hu] at h;simp at h
  | other _ d h hA=>rw [hu] at h;simp only [Option.some.injEq] at h;subst h;simp [spoken] at hA
theorem HasTy.struct_inv {t:TypeId} {fs:Array Field} {L:List PV} (h:HasTy P t L) (hu:P.underlying t=some (.struct fs)):∃ Ls:List (List PV),L=Ls.flatten∧Ls.length=fs.size∧∀ (i:Nat) f M,fs[i]?=some f→Ls[i]?=some M→HasTy P f.type M:=by
  cases h with
  | struct _ fs' Ls h hl hf=>rw [hu] at h;simp only [Option.some.injEq,TypeDesc.struct.injEq] at h;subst h;exact ⟨Ls,rfl,hl,hf⟩
  | bool _ _ h=>rw [hu] at h;simp at h
  | int _ _ _ h=>rw [hu] at h;simp at h
  | str _ _ h=>rw [hu] at h;simp at h
  | nilp _ _ h=>rw [hu] at h;simp at h
  | zero _ _ h=>rw [hu] at h;simp at h
  | ip _ _ _ h=>rw [hu] at h;simp at h
  | nils _ _ h=>rw [hu] at h;simp at h
  | sl _ _ _ h=>rw [hu] at h;simp at h
  | array _ _ _ _ h=>rw [hu] at h;simp at h
  | other _ d h hA=>rw [hu] at h;simp only [Option.some.injEq] at h;subst h;simp [spoken] at hA
theorem HasTy.str_inv {t:TypeId} {L:List PV} (h:HasTy P t L) (hu:P.underlying t=some .string):∃ s,L=[.str s]∧s.length≤maxLen:=by
  cases h with
  | str _ s h hl=>exact ⟨s,rfl,hl⟩
  | bool _ _ h=>rw [hu] at h;simp at h
  | int _ _ _ h=>rw [hu] at h;simp at h
  | nilp _ _ h=>rw [hu] at h;simp at h
  | zero _ _ h=>rw [hu] at h;simp at h
  | ip _ _ _ h=>rw [hu] at h;simp at h
  | nils _ _ h=>rw [hu] at h;simp at h
  | sl _ _ _ h=>rw [hu] at h;simp at h
  | struct _ _ _ h=>rw [hu] at h;simp at h
  | array _ _ _ _ h=>rw [hu] at h;simp at h
  | other _ d h hA=>rw [hu] at h;simp only [Option.some.injEq] at h;subst h;simp [spoken] at hA
theorem HasTy.bool_inv {t:TypeId} {L:List PV} (h:HasTy P t L) (hu:P.underlying t=some .bool):∃ b,L=[.bool b]:=by
  cases h with
  | bool _ b h=>exact ⟨b,rfl⟩
  | int _ _ _ h=>rw [hu] at h;simp at h
  | str _ _ h=>rw [hu] at h;simp at h
  | nilp _ _ h=>rw [hu] at h;simp at h
  | zero _ _ h=>rw [hu] at h;simp at h
  | ip _ _ _ h=>rw [hu] at h;simp at h
  | nils _ _ h=>rw [hu] at h;simp at h
  | sl _ _ _ h=>rw [hu] at h;simp at h
  | struct _ _ _ h=>rw [hu] at h;simp at h
  | array _ _ _ _ h=>rw [hu] at h;simp at h
  | other _ d h hA=>rw [hu] at h;simp only [Option.some.injEq] at h;subst h;simp [spoken] at hA
theorem one_cell {pv v:PV} (hc:pv.cells=[v]) (hA:pv.isAgg=false):pv=v:=by
  cases pv<;>first|(simp [PV.isAgg] at hA;done)|(simp [PV.cells] at hc;exact hc)
theorem agg_of {pv:PV} (h:pv.isAgg=true):pv=.agg pv.cells:=by
  cases pv<;>first|rfl|simp [PV.isAgg] at h
theorem ints_bulk {k:IntKind}:∀ (zs:List Int),pbulkL (zs.map (PV.int k))=zs.length
  | []=>rfl
  | z::zs=>by simp [pbulkL,pbulk,ints_bulk zs];omega
theorem ints_of {e:TypeId} {k:IntKind} (hu:P.underlying e=some (.int k)):∀ {l:List PV},(∀ v∈l,HasTy P e v.cells)→(∀ v∈l,∃ d,P.underlying e=some d∧v.isAgg=isA d)→∃ zs:List Int,l=zs.map (PV.int k)∧∀ z∈zs,(Lit.int k z).wf=true
  | [],_,_=>⟨[],rfl,fun z hz=>by cases hz⟩
  | v::l,h1,h2=>by
    obtain ⟨zs,rfl,hz⟩:=ints_of hu (fun x hx=>h1 x (List.mem_cons_of_mem _ hx)) (fun x hx=>h2 x (List.mem_cons_of_mem _ hx))
    obtain ⟨n,hn,hw⟩:=(h1 v (List.mem_cons_self ..)).int_inv hu
    obtain ⟨d,hd,hA⟩:=h2 v (List.mem_cons_self ..)
    rw [hu] at hd
    simp only [Option.some.injEq] at hd
    subst hd
    refine ⟨n::zs,by rw [one_cell hn (by rw [hA];rfl)];rfl,fun z hz'=>?_⟩
    rcases List.mem_cons.1 hz' with rfl|hz'
    · exact hw
    · exact hz z hz'
end
end Go.VI
namespace Go.VI
variable {E:Env}
end Go.VI
set_option linter.unusedVariables false
set_option linter.unusedSimpArgs false
namespace Go.VI
section
variable {β:Type}
noncomputable def forceNat (n:Nat) (k:Nat→β):β:=Nat.casesOn (motive:=fun _=>β) n (k 0) (fun m=>k (m+1))
theorem Yj (n:Nat) (k:Nat→β):forceNat n k=k n:=by cases n<;>rfl
noncomputable def forceInt (n:Int) (k:Int→β):β:=Int.casesOn (motive:=fun _=>β) n (fun m=>forceNat m fun m=>k (.ofNat m)) (fun m=>forceNat m fun m=>k (.negSucc m))
theorem forceInt_eq (n:Int) (k:Int→β):forceInt n k=k n:=by cases n<;>simp [forceInt,Yj]
noncomputable def forceL {α:Type} (l:List α):(List α→β)→β:=List.rec (motive:=fun _=>(List α→β)→β) (fun k=>k []) (fun a _ ih k=>ih fun l'=>k (a::l')) l
theorem forceL_eq {α:Type} (l:List α):∀ (k:List α→β),forceL l k=k l:=by
  induction l with
  | nil=>intro k;rfl
  | cons a l ih=>intro k;exact ih _
noncomputable def forceV (v:PV) (k:PV→β):β :=
  match v with
  | .int d n=>forceInt n fun n=>k (.int d n)
  | .agg cs=>k (.agg cs)
  | .vs c L=>k (.vs c L)
  | .sl n g o l=>k (.sl n g o l)
  | .ptr n g i o=>k (.ptr n g i o)
  | .ip cs=>k (.ip cs)
  | .str s=>k (.str s)
  | .bool b=>(match b with|true=>k (.bool true)|false=>k (.bool false))
  | .tuple vs=>k (.tuple vs)
  | .fn f a b=>k (.fn f a b)
  | .nilp=>k .nilp
  | .nilfn=>k .nilfn
  | .nilmap=>k .nilmap
  | .map n g=>k (.map n g)
  | .yld n g=>k (.yld n g)
  | .nili=>k .nili
  | .junk=>k .junk
theorem forceV_eq (v:PV) (k:PV→β):forceV v k=k v:=by
  cases v<;>simp only [forceV,forceInt_eq]
  split<;>simp_all
noncomputable def forceVs (l:List PV):(List PV→β)→β:=List.rec (motive:=fun _=>(List PV→β)→β) (fun k=>k []) (fun a _ ih k=>forceV a fun a=>ih fun l'=>k (a::l')) l
theorem forceVs_eq (l:List PV):∀ (k:List PV→β),forceVs l k=k l:=by
  induction l with
  | nil=>intro k;rfl
  | cons a l ih=>intro k;show (forceV a fun a=>forceVs l fun l'=>k (a::l'))=_;rw [forceV_eq];exact ih _
noncomputable def forceE (v:PV) (k:PV→β):β :=
  forceV v fun v=>match v with
  | .agg cs=>forceVs cs fun cs=>k (.agg cs)
  | .ip cs=>forceVs cs fun cs=>k (.ip cs)
  | .tuple cs=>forceVs cs fun cs=>k (.tuple cs)
  | .vs c L=>forceL L fun L=>k (.vs c L)
  | .str s=>forceL s fun s=>k (.str s)
  | .sl n g o l=>forceNat g fun g=>forceNat o fun o=>forceNat l fun l=>k (.sl n g o l)
  | .ptr n g i o=>forceNat g fun g=>forceNat i fun i=>forceNat o fun o=>k (.ptr n g i o)
  | v=>k v
theorem forceE_eq (v:PV) (k:PV→β):forceE v k=k v:=by
  unfold forceE
  rw [forceV_eq]
  split<;>simp [forceVs_eq,forceL_eq,Yj]
noncomputable def forceEs (l:List PV):(List PV→β)→β:=List.rec (motive:=fun _=>(List PV→β)→β) (fun k=>k []) (fun a _ ih k=>forceE a fun a=>ih fun l'=>k (a::l')) l
theorem forceEs_eq (l:List PV):∀ (k:List PV→β),forceEs l k=k l:=by
  induction l with
  | nil=>intro k;rfl
  | cons a l ih=>intro k;show (forceE a fun a=>forceEs l fun l'=>k (a::l'))=_;rw [forceE_eq];exact ih _
noncomputable def forceN {α:Type} (n:Nat):List α→(List α→β)→β:=Nat.rec (motive:=fun _=>List α→(List α→β)→β) (fun l k=>k l)
  (fun _ ih l k=>List.casesOn (motive:=fun _=>β) l (k []) (fun a t=>ih t fun t=>k (a::t))) n
theorem forceN_eq {α:Type} (n:Nat):∀ (l:List α) (k:List α→β),forceN n l k=k l:=by
  induction n with
  | zero=>intro l k;rfl
  | succ n ih=>intro l k;cases l with
    | nil=>rfl
    | cons a t=>exact ih _ _
noncomputable def forceO (o:Option Ob) (k:Option Ob→β):β :=
  match o with
  | none=>k none
  | some (.mem el g cl sz)=>forceEs el fun el=>forceNat g fun g=>k (some (.mem el g cl sz))
  | some (.map es c g)=>forceL es fun es=>forceNat c fun c=>forceNat g fun g=>k (some (.map es c g))
  | some (.iter m s l g)=>k (some (.iter m s l g))
  | some (.loop t p a b j g)=>forceL t fun t=>forceNat g fun g=>k (some (.loop t p a b j g))
  | some (.dead g)=>forceNat g fun g=>k (some (.dead g))
theorem forceO_eq (o:Option Ob) (k:Option Ob→β):forceO o k=k o:=by
  unfold forceO
  split<;>simp [forceEs_eq,forceL_eq,Yj]
noncomputable def forceT (l:List (Option Ob)):(List (Option Ob)→β)→β:=List.rec (motive:=fun _=>(List (Option Ob)→β)→β) (fun k=>k []) (fun a _ ih k=>forceO a fun a=>ih fun l'=>k (a::l')) l
theorem forceT_eq (l:List (Option Ob)):∀ (k:List (Option Ob)→β),forceT l k=k l:=by
  induction l with
  | nil=>intro k;rfl
  | cons a l ih=>intro k;show (forceO a fun a=>forceT l fun l'=>k (a::l'))=_;rw [forceO_eq];exact ih _
noncomputable def forceH (l:Heap):(Heap→β)→β:=List.rec (motive:=fun _=>(List (List (Option Ob))→β)→β) (fun k=>k []) (fun a _ ih k=>forceT a fun a=>ih fun l'=>k (a::l')) l
theorem forceH_eq (l:Heap):∀ (k:Heap→β),forceH l k=k l:=by
  induction l with
  | nil=>intro k;rfl
  | cons a l ih=>intro k;show (forceT a fun a=>forceH l fun l'=>k (a::l'))=_;rw [forceT_eq];exact ih _
noncomputable def nth (l:List PV):Nat→PV:=List.rec (motive:=fun _=>Nat→PV) (fun _=>.junk) (fun a _ ih i=>Nat.casesOn (motive:=fun _=>PV) i a ih) l
theorem nth_eq (l:List PV):∀ i,nth l i=l.getD i .junk:=by
  induction l with
  | nil=>intro i;rfl
  | cons a l ih=>intro i;cases i with
    | zero=>rfl
    | succ i=>exact (ih i).trans (by simp)
def POp.heavy:POp→Bool
  | .store _ _ _|.mupd _ _ _ _|.mentry _ _ _ _|.estore _ _ _|.rng _ _|.append _ _ _ _ _ _|.appz _ _ _ _ _ _|.call _ _|.frz _|.storef _ _ _|.loadf _ _|.vec _ _ _|.alloc _ _|.box _ _|.bslm _ _ _ _ _|.mkmap _|.mkslice _ _ _ _ _ _|.calla _ _ _ _=>true
  | _=>false
noncomputable def forceP (h:Bool) (dst:Option Nat) (fr:Fr) (k:Fr→β):β :=
  match fr with
  | ⟨lvl,tmps,heap,defers⟩=>match dst with
    | none=>(match h with
      | true=>forceH heap fun heap=>k ⟨lvl,tmps,heap,defers⟩
      | false=>k ⟨lvl,tmps,heap,defers⟩)
    | some d=>forceE (nth tmps d) fun _=>forceN (d+1) tmps fun tmps=>(match h with
      | true=>forceH heap fun heap=>k ⟨lvl,tmps,heap,defers⟩
      | false=>k ⟨lvl,tmps,heap,defers⟩)
theorem forceP_eq (h:Bool) (dst:Option Nat) (fr:Fr) (k:Fr→β):forceP h dst fr k=k fr:=by
  unfold forceP
  cases dst<;>cases h<;>simp [forceH_eq,forceN_eq,forceE_eq,nth_eq]
end
section
variable (E:Env)
noncomputable def evXS (tmps:List PV):PX→PV
  | .t i=>nth tmps i
  | .c v=>v
  | .g i=>E.glob i
theorem evXS_eq (tmps:List PV) (x:PX):evXS E tmps x=evX E tmps x:=by
  cases x<;>simp [evXS,evX,nth_eq]
noncomputable def replK {β:Type} (n:Nat):List PV→(List PV→β)→β:=Nat.rec (motive:=fun _=>List PV→(List PV→β)→β) (fun acc k=>k acc) (fun _ ih acc k=>ih (.tuple []::acc) k) n
theorem replK_eq {β:Type} (n:Nat):∀ (acc:List PV) (k:List PV→β),replK n acc k=k (List.replicate n (.tuple [])++acc):=by
  induction n with
  | zero=>intro acc k;rfl
  | succ n ih=>intro acc k;show replK n _ k=_;rw [ih];congr 1;rw [List.replicate_succ'];simp
noncomputable def appK {β:Type} (l:List PV):List PV→(List PV→β)→β:=List.rec (motive:=fun _=>List PV→(List PV→β)→β) (fun r k=>k r) (fun a _ ih r k=>forceV a fun a=>ih r fun t=>k (a::t)) l
theorem appK_eq {β:Type} (l:List PV):∀ (r:List PV) (k:List PV→β),appK l r k=k (l++r):=by
  induction l with
  | nil=>intro r k;rfl
  | cons a l ih=>intro r k;show (forceV a fun a=>appK l r fun t=>k (a::t))=_;rw [forceV_eq];exact ih _ _
noncomputable def mkTmpsK {β:Type} (args:List PV) (n:Nat) (k:List PV→β):β:=replK n [] fun r=>appK args r k
theorem mkTmpsK_eq {β:Type} (args:List PV) (n:Nat) (k:List PV→β):mkTmpsK args n k=k (args++List.replicate n (.tuple [])):=by
  simp [mkTmpsK,replK_eq,appK_eq]
noncomputable def keepK {β:Type} (l:List PV):Nat→List Nat→(List PV→β)→β:=List.rec (motive:=fun _=>Nat→List Nat→(List PV→β)→β) (fun _ _ k=>k [])
  (fun v _ ih i ks k=>forceNat (i+1) fun i1=>List.casesOn (motive:=fun _=>β) ks (ih i1 [] fun r=>k (.junk::r)) (fun j js=>Bool.casesOn (motive:=fun _=>β) (Nat.beq i j) (ih i1 (j::js) fun r=>k (.junk::r)) (ih i1 js fun r=>k (v::r)))) l
theorem keepK_eq {β:Type} (l:List PV):∀ (i:Nat) (ks:List Nat) (k:List PV→β),keepK l i ks k=k (keepE i ks l):=by
  induction l with
  | nil=>intro i ks k;simp [keepK,keepE]
  | cons v l ih =>
    intro i ks k
    cases ks with
    | nil =>
      show forceNat (i+1) (fun i1=>keepK l i1 [] fun r=>k (.junk::r))=_
      rw [Yj,ih];rfl
    | cons j js =>
      show forceNat (i+1) (fun i1=>Bool.casesOn (motive:=fun _=>β) (Nat.beq i j) (keepK l i1 (j::js) fun r=>k (.junk::r)) (keepK l i1 js fun r=>k (v::r)))=_
      rw [Yj,ih,ih]
      simp only [keepE]
      cases Nat.beq i j<;>rfl
noncomputable def nthT (l:List (List (Option Ob))):Nat→List (Option Ob):=List.rec (motive:=fun _=>Nat→List (Option Ob)) (fun _=>[]) (fun a _ ih i=>Nat.casesOn (motive:=fun _=>List (Option Ob)) i a ih) l
noncomputable def nthO (l:List (Option Ob)):Nat→Option Ob:=List.rec (motive:=fun _=>Nat→Option Ob) (fun _=>none) (fun a _ ih i=>Nat.casesOn (motive:=fun _=>Option Ob) i a ih) l
theorem nthT_eq (l:List (List (Option Ob))):∀ i,nthT l i=(l[i]?).getD []:=by
  induction l with
  | nil=>intro i;rfl
  | cons a l ih=>intro i;cases i with
    | zero=>rfl
    | succ i=>exact (ih i).trans (by simp)
theorem nthO_eq (l:List (Option Ob)):∀ i,nthO l i=(l[i]?).bind id:=by
  induction l with
  | nil=>intro i;rfl
  | cons a l ih=>intro i;cases i with
    | zero=>rfl
    | succ i=>exact (ih i).trans (by simp)
noncomputable def hgetS (h:Heap) (n:Nm):Option Ob:=nthO (nthT h n.1) n.2
theorem Zh (h:Heap) (n:Nm):hgetS h n=hget h n:=by
  unfold hgetS hget
  rw [nthO_eq,nthT_eq]
  cases h[n.1]?<;>simp
noncomputable def setR (l:List PV):Nat→PV→List PV:=List.rec (motive:=fun _=>Nat→PV→List PV) (fun _ _=>[])
  (fun a t ih i v=>Nat.casesOn (motive:=fun _=>List PV) i (v::t) (fun j=>a::ih j v)) l
theorem setR_eq (l:List PV):∀ (i:Nat) (v:PV),setR l i v=l.set i v:=by
  induction l with
  | nil=>intro i v;rfl
  | cons a l ih=>intro i v;cases i with
    | zero=>rfl
    | succ i=>exact congrArg (a::·) (ih i v)
noncomputable def Fr.putS (fr:Fr) (dst:Option Nat) (v:PV):Fr :=
  match fr with
  | ⟨lvl,tmps,heap,defers⟩=>match dst with
    | some d=>⟨lvl,setR tmps d v,heap,defers⟩
    | none=>⟨lvl,tmps,heap,defers⟩
theorem Zj (fr:Fr) (dst:Option Nat) (v:PV):fr.putS dst v=fr.put dst v:=by
  cases dst<;>simp [Fr.putS,Fr.put,setR_eq]
noncomputable def Fr.layS (fr:Fr) (dst:Option Nat) (s:Nat) (f:Nat→Option (PV × Ob)):Option Fr :=
  if s<(fr.heap.getD fr.lvl []).length then
    match f (nextGen fr.heap (fr.nm s)) with
    | some (v,ob)=>some ({ fr with heap:=hset fr.heap (fr.nm s) ob }.putS dst v)
    | none=>none
  else none
theorem Zk (fr:Fr) (dst:Option Nat) (s:Nat) (f:Nat→Option (PV × Ob)):fr.layS dst s f=fr.lay dst s f:=by
  simp only [Fr.layS,Fr.lay,Zj]
  rfl
noncomputable def so_mov (dst:(Option Nat)) (ev:(PX→PV)) (fr:Fr) (x:PX):Option Fr:=some (fr.putS dst (ev x))
noncomputable def so_vec (dst:(Option Nat)) (ev:(PX→PV)) (o:POp) (fr:Fr) (s:Nat) (_x1:Bool) (_x2:Nat):Option Fr:=fr.layS dst s (layE ev (fr.nm s) o)
noncomputable def so_pick (dst:(Option Nat)) (ev:(PX→PV)) (fr:Fr) (c:PX) (a:PX) (b:PX):Option Fr:=match ev c with
    | .bool t=>some (fr.putS dst (if t then ev a else ev b))
    | _=>none
noncomputable def so_alloc (dst:(Option Nat)) (ev:(PX→PV)) (o:POp) (fr:Fr) (s:Nat) (_x1:PV):Option Fr:=fr.layS dst s (layE ev (fr.nm s) o)
noncomputable def so_box (dst:(Option Nat)) (ev:(PX→PV)) (o:POp) (fr:Fr) (s:Nat) (_x1:PX):Option Fr:=fr.layS dst s (layE ev (fr.nm s) o)
noncomputable def so_boxi (dst:(Option Nat)) (ev:(PX→PV)) (fr:Fr) (x:PX):Option Fr:=if (ev x).pure∧(ev x).good then some (fr.putS dst (.ip (ev x).cells)) else none
noncomputable def so_build (dst:(Option Nat)) (ev:(PX→PV)) (fr:Fr) (z:List PV) (parts:List (Nat × Nat × PX)):Option Fr:=match fillParts ev z parts with
    | some cs=>some (fr.putS dst (.agg cs))
    | none=>none
noncomputable def so_bsl (dst:(Option Nat)) (ev:(PX→PV)) (fr:Fr) (z:List PV) (parts:List (Nat × PX)):Option Fr:=match fillElems ev z parts with
    | some cs=>if PV.lowL 0 cs then some (fr.putS dst (.vs .clip cs)) else none
    | none=>none
noncomputable def so_bslm (dst:(Option Nat)) (ev:(PX→PV)) (o:POp) (fr:Fr) (s:Nat) (_x1:Bool) (_x2:Nat) (_x3:List PV) (_x4:List (Nat × PX)):Option Fr:=fr.layS dst s (layE ev (fr.nm s) o)
noncomputable def so_load (dst:(Option Nat)) (ev:(PX→PV)) (fr:Fr) (k:Option Nat) (a:PX):Option Fr:=match ev a with
    | .ip cs=>match loadFrom cs k with
      | some v=>some (fr.putS dst v)
      | none=>none
    | .ptr n g i off=>match hgetS fr.heap n with
      | some (.mem el g' _ _)=>if g=g' then (match el[i]? with
          | some e=>(match loadFrom (e.cells.drop off) k with
            | some v=>some (fr.putS dst v)
            | none=>none)
          | none=>none) else none
      | _=>none
    | _=>none
noncomputable def so_store (dst:(Option Nat)) (ev:(PX→PV)) (fr:Fr) (k:Option Nat) (a:PX) (x:PX):Option Fr:=match ev a with
    | .ptr n g i off=>match hgetS fr.heap n with
      | some (.mem el g' cl sz)=>if g=g'∧(ev x).fits k∧(!cl||(ev x).pure) then (match el[i]? with
          | some (.agg cs)=>if off+(ev x).cells.length≤cs.length then
              some ({ fr with heap:=hset fr.heap n (.mem (el.set i (.agg (splice cs off (ev x).cells))) g' cl sz) }.putS dst (.tuple [])) else none
          | some _=>if k=none∧off=0 then
              some ({ fr with heap:=hset fr.heap n (.mem (el.set i (ev x)) g' cl sz) }.putS dst (.tuple [])) else none
          | none=>none) else none
      | _=>none
    | _=>none
noncomputable def so_nilc (dst:(Option Nat)) (ev:(PX→PV)) (fr:Fr) (x:PX):Option Fr:=match ev x with
    | .ip cs=>some (fr.putS dst (.ip cs))
    | .ptr n g i off=>match hgetS fr.heap n with
      | some (.mem _ g' _ _)=>if g=g' then some (fr.putS dst (.ptr n g i off)) else none
      | _=>none
    | _=>none
noncomputable def so_bini (dst:(Option Nat)) (ev:(PX→PV)) (fr:Fr) (op:BinOp) (x:PX) (y:PX):Option Fr:=match binI op (ev x) (ev y) with
    | some v=>some (fr.putS dst v)
    | none=>none
noncomputable def so_bins (dst:(Option Nat)) (ev:(PX→PV)) (fr:Fr) (op:BinOp) (x:PX) (y:PX):Option Fr:=match binS op (ev x) (ev y) with
    | some v=>some (fr.putS dst v)
    | none=>none
noncomputable def so_eq (dst:(Option Nat)) (ev:(PX→PV)) (fr:Fr) (neg:Bool) (sh:EqSh) (x:PX) (y:PX):Option Fr:=match Zf sh (ev x) (ev y) with
    | some b=>some (fr.putS dst (.bool (if neg then !b else b)))
    | none=>none
noncomputable def so_neg (dst:(Option Nat)) (ev:(PX→PV)) (fr:Fr) (x:PX):Option Fr:=match ev x with
    | .int k n=>some (fr.putS dst (.int k (k.wrap (0 - n))))
    | _=>none
noncomputable def so_compl (dst:(Option Nat)) (ev:(PX→PV)) (fr:Fr) (x:PX):Option Fr:=match ev x with
    | .int k n=>some (fr.putS dst (.int k (k.wrap ((BitVec.ofInt k.bits (if k.signed then -1 else k.max) ^^^ BitVec.ofInt k.bits n).toNat:Int))))
    | _=>none
noncomputable def so_notb (dst:(Option Nat)) (ev:(PX→PV)) (fr:Fr) (x:PX):Option Fr:=match ev x with
    | .bool b=>some (fr.putS dst (.bool !b))
    | _=>none
noncomputable def so_conv (dst:(Option Nat)) (ev:(PX→PV)) (fr:Fr) (k:IntKind) (x:PX):Option Fr:=match ev x with
    | .int _ n=>some (fr.putS dst (.int k (k.wrap n)))
    | _=>none
noncomputable def so_convs (dst:(Option Nat)) (ev:(PX→PV)) (fr:Fr) (x:PX):Option Fr:=match ev x with
    | .str s=>some (fr.putS dst (.str s))
    | _=>none
noncomputable def so_mkfn (dst:(Option Nat)) (ev:(PX→PV)) (fr:Fr) (f:Nat) (a:List PX) (b:List PX):Option Fr:=some (fr.putS dst (.fn f (a.map ev) (b.map ev)))
noncomputable def so_mkmap (dst:(Option Nat)) (ev:(PX→PV)) (o:POp) (fr:Fr) (s:Nat):Option Fr:=fr.layS dst s (layE ev (fr.nm s) o)
noncomputable def so_mkslice (dst:(Option Nat)) (ev:(PX→PV)) (o:POp) (fr:Fr) (s:Nat) (_x1:Bool) (_x2:Nat) (_x3:PV) (_x4:PX) (_x5:PX):Option Fr:=fr.layS dst s (layE ev (fr.nm s) o)
noncomputable def so_sls (dst:(Option Nat)) (ev:(PX→PV)) (fr:Fr) (x:PX) (lo:Option PX) (hi:Option PX):Option Fr:=match ev x with
    | .str s=>match boundsE E fr.tmps s.length s.length lo hi none with
      | some (l,h,_)=>some (fr.putS dst (.str ((s.take h).drop l)))
      | none=>none
    | _=>none
noncomputable def so_slc (dst:(Option Nat)) (ev:(PX→PV)) (fr:Fr) (sz:Nat) (x:PX) (lo:Option PX) (hi:Option PX) (mx:Option PX):Option Fr:=match ev x with
    | .vs c L=>match boundsE E fr.tmps L.length L.length lo hi mx with
      | some (l,h,m)=>if !headSz sz L then none else some (fr.putS dst (.vs (if c=.nil then .nil else if (c.full||mx.isSome)&&Nat.beq h m then .clip else .any) ((L.take h).drop l)))
      | none=>none
    | .sl n g off len=>match hgetS fr.heap n with
      | some (.mem el g' _ _)=>if g=g'∧mx.isNone∧headSz sz el∧off+len≤el.length then (match boundsE E fr.tmps len len lo hi none with
          | some (l,h,_)=>some (fr.putS dst (.sl n g (off+l) (h - l)))
          | none=>none) else none
      | _=>none
    | _=>none
noncomputable def so_faddr (dst:(Option Nat)) (ev:(PX→PV)) (o:POp) (fr:Fr) (off:Nat) (x:PX):Option Fr:=match ev x with
    | .ip cs=>if off≤cs.length then some (fr.putS dst (.ip (cs.drop off))) else none
    | .ptr n g i o=>match hgetS fr.heap n with
      | some (.mem _ g' _ _)=>if g=g' then some (fr.putS dst (.ptr n g i (o+off))) else none
      | _=>none
    | _=>none
noncomputable def so_fld (dst:(Option Nat)) (ev:(PX→PV)) (fr:Fr) (off:Nat) (k:Option Nat) (x:PX):Option Fr:=match ev x with
    | .agg cs=>match loadFrom (cs.drop off) k with
      | some v=>some (fr.putS dst v)
      | none=>none
    | _=>none
noncomputable def so_iaddr (dst:(Option Nat)) (ev:(PX→PV)) (fr:Fr) (sz:Nat) (x:PX) (i:PX):Option Fr:=match ev i with
    | .int _ j=>if 0≤j then (match ev x with
        | .vs _ L=>match L[j.toNat]? with
          | some e=>if e.cells.length=sz then some (fr.putS dst (.ip e.cells)) else none
          | none=>none
        | .sl n g off len=>match hgetS fr.heap n with
          | some (.mem el g' _ _)=>if g=g'∧j<len then (match el[off+j.toNat]? with
              | some e=>if e.cells.length=sz then some (fr.putS dst (.ptr n g (off+j.toNat) 0)) else none
              | none=>none) else none
          | _=>none
        | _=>none) else none
    | _=>none
noncomputable def so_iaddra (dst:(Option Nat)) (ev:(PX→PV)) (fr:Fr) (n:Nat) (sz:Nat) (x:PX) (i:PX):Option Fr:=match ev i with
    | .int _ j=>if 0≤j∧j<n then (match ev x with
        | .ip cs=>if n*sz≤cs.length then some (fr.putS dst (.ip (cs.drop (j.toNat*sz)))) else none
        | .ptr nm g e off=>(match hgetS fr.heap nm with
          | some (.mem _ g' _ _)=>if g=g' then some (fr.putS dst (.ptr nm g e (off+j.toNat*sz))) else none
          | _=>none)
        | _=>none) else none
    | _=>none
noncomputable def so_idx (dst:(Option Nat)) (ev:(PX→PV)) (fr:Fr) (n:Nat) (sz:Nat) (k:Option Nat) (x:PX) (i:PX):Option Fr:=match ev i with
    | .int _ j=>if 0≤j∧j<n then (match ev x with
        | .agg cs=>if cs.length=n*sz then (match loadFrom (cs.drop (j.toNat*sz)) k with
          | some v=>some (fr.putS dst v)
          | none=>none) else none
        | _=>none) else none
    | _=>none
noncomputable def so_idxs (dst:(Option Nat)) (ev:(PX→PV)) (fr:Fr) (x:PX) (i:PX):Option Fr:=match ev i,ev x with
    | .int _ j,.str s=>if 0≤j then (match s[j.toNat]? with
        | some b=>some (fr.putS dst (.int .u8 b.toNat))
        | none=>none) else none
    | _,_=>none
noncomputable def so_lookup (dst:(Option Nat)) (ev:(PX→PV)) (fr:Fr) (str:KSh) (z:PV) (ok:Bool) (m:PX) (k:PX):Option Fr:=if !keyIs str (ev k) then none else
      match (match ev m with
        | .nilmap=>some []
        | .map n g=>(match hgetS fr.heap n with|some (.map es _ g')=>if g=g' then some es else none|_=>none)
        | _=>none) with
      | some es=>match findE (ev k) es with
        | some r=>some (fr.putS dst (if ok then .tuple [r.getD z,.bool r.isSome] else r.getD z))
        | none=>none
      | none=>none
noncomputable def so_mupd (dst:(Option Nat)) (ev:(PX→PV)) (fr:Fr) (str:KSh) (m:PX) (k:PX) (x:PX):Option Fr:=if (ev x).pure&&keyIs str (ev k) then
      (match ev m with
        | .map n g=>(match hgetS fr.heap n with
          | some (.map es c g')=>if g=g' then (match findE (ev k) es with
            | some r=>some ({ fr with heap:=hset fr.heap n (.map (setE (ev k) (ev x) es) (if r.isSome then c else c+1) g') }.putS dst (.tuple []))
            | none=>none) else none
          | _=>none)
        | _=>none) else none
noncomputable def so_extract (dst:(Option Nat)) (ev:(PX→PV)) (fr:Fr) (x:PX) (i:Nat):Option Fr:=match ev x with
    | .tuple vs=>match vs[i]? with
      | some v=>some (fr.putS dst v)
      | none=>none
    | _=>none
noncomputable def so_call (dst:(Option Nat)) (callE:CallE) (yieldE:(Nm→List PV→Heap→Option (PV × Heap))) (ev:(PX→PV)) (fr:Fr) (f:PX) (args:List PX):Option Fr:=match callV E callE yieldE (ev f) (args.map ev) fr.heap with
    | some (v,h)=>some ({ fr with heap:=h }.putS dst v)
    | none=>none
noncomputable def so_lens (dst:(Option Nat)) (ev:(PX→PV)) (fr:Fr) (x:PX):Option Fr:=match ev x with
    | .str s=>some (fr.putS dst (.int .i64 s.length))
    | _=>none
noncomputable def so_lenl (dst:(Option Nat)) (ev:(PX→PV)) (fr:Fr) (x:PX):Option Fr:=match lenOf fr.heap (ev x) with
    | some n=>some (fr.putS dst (.int .i64 n))
    | none=>none
noncomputable def so_lenm (dst:(Option Nat)) (ev:(PX→PV)) (fr:Fr) (x:PX):Option Fr:=match ev x with
    | .nilmap=>some (fr.putS dst (.int .i64 0))
    | .map n g=>(match hgetS fr.heap n with
      | some (.map es _ g')=>if g=g' then some (fr.putS dst (.int .i64 es.length)) else none
      | _=>none)
    | _=>none
noncomputable def so_appz (dst:(Option Nat)) (ev:(PX→PV)) (fr:Fr) (s:Nat) (cl:Bool) (bytes:Nat) (z:PV) (x n:PX):Option Fr:=match ev x,ev n with
    | .vs c L,.int .i64 k=>if c.full=true∧L.isEmpty=true∧0<k∧k*bytes≤140737488355328∧k≤140737488355328∧(!cl||z.pure) then
        fr.layS dst s (fun g=>some (.sl (fr.nm s) g 0 k.toNat,.mem (List.replicate k.toNat z) g cl z.cells.length)) else none
    | _,_=>none
noncomputable def so_appf (dst:(Option Nat)) (ev:(PX→PV)) (fr:Fr) (sz bytes:Nat) (x y:PX):Option Fr:=match ev x,ev y with
    | .vs c L,.vs _ ys=>if c.full=true∧headSz sz ys∧headSz sz L∧0<ys.length∧(L.length+ys.length)*bytes≤140737488355328∧L.length+ys.length≤140737488355328 then
        some (fr.putS dst (.vs .any (L++ys))) else none
    | _,_=>none
noncomputable def so_append (dst:(Option Nat)) (ev:(PX→PV)) (fr:Fr) (s:Nat) (cl:Bool) (sz:Nat) (bytes:Nat) (x:PX) (y:PX):Option Fr:=match elems fr.heap (ev y) with
    | none=>none
    | some ys=>if !headSz sz ys then none else match ev x with
      | .vs c L=>if c.full=true∧headSz sz L∧(L.isEmpty||!ys.isEmpty)∧(L.length+ys.length)*bytes≤140737488355328∧L.length+ys.length≤140737488355328∧cleanFor fr.heap cl (ev y) then
          fr.layS dst s (fun g=>some (.sl (fr.nm s) g 0 (L.length+ys.length),.mem (L++ys) g cl sz)) else none
      | .sl n g off len=>match hgetS fr.heap n with
        | some (.mem el g' cl' sz')=>if g=g'∧sz=sz'∧cleanFor fr.heap cl' (ev y) then
            (if off+len+ys.length≤el.length then
              some ({ fr with heap:=hset fr.heap n (.mem (el.take (off+len)++ys++el.drop (off+len+ys.length)) g' cl' sz') }.putS dst (.sl n g off (len+ys.length)))
            else if off=0∧len≤el.length∧(len+ys.length)*bytes≤140737488355328∧len+ys.length≤140737488355328 then
              some ({ fr with heap:=hset fr.heap n (.mem (el.take len++ys) (g+ys.length) cl' sz') }.putS dst (.sl n (g+ys.length) 0 (len+ys.length)))
            else none) else none
        | _=>none
      | _=>none
noncomputable def so_mx (dst:(Option Nat)) (ev:(PX→PV)) (fr:Fr) (x:PX) (r:List PX):Option Fr:=match foldO maxI (ev x) (r.map ev) with
    | some v=>some (fr.putS dst v)
    | none=>none
noncomputable def so_mn (dst:(Option Nat)) (ev:(PX→PV)) (fr:Fr) (x:PX) (r:List PX):Option Fr:=match foldO minI (ev x) (r.map ev) with
    | some v=>some (fr.putS dst v)
    | none=>none
noncomputable def so_eqnil (dst:(Option Nat)) (ev:(PX→PV)) (fr:Fr) (k:Nat) (neg:Bool) (x:PX):Option Fr:=match isNil k (ev x) with
    | some b=>some (fr.putS dst (.bool (if neg then !b else b)))
    | none=>none
noncomputable def so_capl (dst:(Option Nat)) (ev:(PX→PV)) (fr:Fr) (x:PX):Option Fr:=match ev x with
    | .vs c L=>if c.full then some (fr.putS dst (.int .i64 L.length)) else none
    | _=>none
noncomputable def stepV (callE:CallE) (yieldE:Nm→List PV→Heap→Option (PV × Heap)) (dst:Option Nat) (o:POp) (fr:Fr):Option Fr :=
  match o with
  | .mov x=>so_mov dst (evXS E fr.tmps) fr x
  | .vec s _x1 _x2=>so_vec dst (evXS E fr.tmps) o fr s _x1 _x2
  | .pick c a b=>so_pick dst (evXS E fr.tmps) fr c a b
  | .alloc s _x1=>so_alloc dst (evXS E fr.tmps) o fr s _x1
  | .box s _x1=>so_box dst (evXS E fr.tmps) o fr s _x1
  | .boxi x=>so_boxi dst (evXS E fr.tmps) fr x
  | .build z parts=>so_build dst (evXS E fr.tmps) fr z parts
  | .bsl z parts=>so_bsl dst (evXS E fr.tmps) fr z parts
  | .bslm s _x1 _x2 _x3 _x4=>so_bslm dst (evXS E fr.tmps) o fr s _x1 _x2 _x3 _x4
  | .load k a=>so_load dst (evXS E fr.tmps) fr k a
  | .store k a x=>so_store dst (evXS E fr.tmps) fr k a x
  | .nilc x=>so_nilc dst (evXS E fr.tmps) fr x
  | .bini op x y=>so_bini dst (evXS E fr.tmps) fr op x y
  | .bins op x y=>so_bins dst (evXS E fr.tmps) fr op x y
  | .eq neg sh x y=>so_eq dst (evXS E fr.tmps) fr neg sh x y
  | .neg x=>so_neg dst (evXS E fr.tmps) fr x
  | .compl x=>so_compl dst (evXS E fr.tmps) fr x
  | .notb x=>so_notb dst (evXS E fr.tmps) fr x
  | .conv k x=>so_conv dst (evXS E fr.tmps) fr k x
  | .convs x=>so_convs dst (evXS E fr.tmps) fr x
  | .mkfn f a b=>so_mkfn dst (evXS E fr.tmps) fr f a b
  | .mkmap s=>so_mkmap dst (evXS E fr.tmps) o fr s
  | .mkslice s _x1 _x2 _x3 _x4 _x5=>so_mkslice dst (evXS E fr.tmps) o fr s _x1 _x2 _x3 _x4 _x5
  | .sls x lo hi=>so_sls E dst (evXS E fr.tmps) fr x lo hi
  | .slc sz x lo hi mx=>so_slc E dst (evXS E fr.tmps) fr sz x lo hi mx
  | .faddr off x=>so_faddr dst (evXS E fr.tmps) o fr off x
  | .fld off k x=>so_fld dst (evXS E fr.tmps) fr off k x
  | .iaddr sz x i=>so_iaddr dst (evXS E fr.tmps) fr sz x i
  | .iaddra n sz x i=>so_iaddra dst (evXS E fr.tmps) fr n sz x i
  | .idx n sz k x i=>so_idx dst (evXS E fr.tmps) fr n sz k x i
  | .idxs x i=>so_idxs dst (evXS E fr.tmps) fr x i
  | .lookup str z ok m k=>so_lookup dst (evXS E fr.tmps) fr str z ok m k
  | .mupd str m k x=>so_mupd dst (evXS E fr.tmps) fr str m k x
  | .extract x i=>so_extract dst (evXS E fr.tmps) fr x i
  | .call f args=>so_call E dst callE yieldE (evXS E fr.tmps) fr f args
  | .lens x=>so_lens dst (evXS E fr.tmps) fr x
  | .lenl x=>so_lenl dst (evXS E fr.tmps) fr x
  | .lenm x=>so_lenm dst (evXS E fr.tmps) fr x
  | .append s cl sz bytes x y=>so_append dst (evXS E fr.tmps) fr s cl sz bytes x y
  | .appz s cl bytes z x n=>so_appz dst (evXS E fr.tmps) fr s cl bytes z x n
  | .appf sz bytes x y=>so_appf dst (evXS E fr.tmps) fr sz bytes x y
  | .mx x r=>so_mx dst (evXS E fr.tmps) fr x r
  | .mn x r=>so_mn dst (evXS E fr.tmps) fr x r
  | .eqnil k neg x=>so_eqnil dst (evXS E fr.tmps) fr k neg x
  | .capl x=>so_capl dst (evXS E fr.tmps) fr x
  | _=>stepOp E callE yieldE dst o fr
def POp.own:POp→Bool
  | .frz _|.storef _ _ _|.loadf _ _|.ptrq _ _|.defer _ _|.stop|.mentry _ _ _ _|.rng _ _|.next _|.entry _|.estore _ _ _|.copy _ _|.delete _ _|.calla _ _ _ _=>false
  | _=>true
theorem stepV_eq (callE:CallE) (yieldE:Nm→List PV→Heap→Option (PV × Heap)) (dst:Option Nat) (o:POp) (fr:Fr):stepV E callE yieldE dst o fr=stepOp E callE yieldE dst o fr:=by
  have hev:evXS E fr.tmps=evX E fr.tmps:=funext fun x=>evXS_eq E fr.tmps x
  cases o
  all_goals simp only [stepV,hev]
  all_goals first|rfl|skip
  all_goals simp only [stepOp]
  case mov =>
    simp only [so_mov,Zh,Zj,Zk]
    try rfl
  case vec =>
    simp only [so_vec,Zh,Zj,Zk]
    try rfl
  case pick =>
    simp only [so_pick,Zh,Zj,Zk]
    try rfl
  case alloc =>
    simp only [so_alloc,Zh,Zj,Zk]
    try rfl
  case box =>
    simp only [so_box,Zh,Zj,Zk]
    try rfl
  case boxi =>
    simp only [so_boxi,Zh,Zj,Zk]
    try rfl
  case build =>
    simp only [so_build,Zh,Zj,Zk]
    try rfl
  case bsl =>
    simp only [so_bsl,Zh,Zj,Zk]
    try rfl
  case bslm =>
    simp only [so_bslm,Zh,Zj,Zk]
    try rfl
  case load =>
    simp only [so_load,Zh,Zj,Zk]
    try rfl
  case store =>
    simp only [so_store,Zh,Zj,Zk]
    try rfl
  case nilc =>
    simp only [so_nilc,Zh,Zj,Zk]
    try rfl
  case bini =>
    simp only [so_bini,Zh,Zj,Zk]
    try rfl
  case bins =>
    simp only [so_bins,Zh,Zj,Zk]
    try rfl
  case eq =>
    simp only [so_eq,Zh,Zj,Zk]
    try rfl
  case neg =>
    simp only [so_neg,Zh,Zj,Zk]
    try rfl
  case compl =>
    simp only [so_compl,Zh,Zj,Zk]
    try rfl
  case notb =>
    simp only [so_notb,Zh,Zj,Zk]
    try rfl
  case conv =>
    simp only [so_conv,Zh,Zj,Zk]
    try rfl
  case convs =>
    simp only [so_convs,Zh,Zj,Zk]
    try rfl
  case mkfn =>
    simp only [so_mkfn,Zh,Zj,Zk]
    try rfl
  case mkmap =>
    simp only [so_mkmap,Zh,Zj,Zk]
    try rfl
  case mkslice =>
    simp only [so_mkslice,Zh,Zj,Zk]
    try rfl
  case sls =>
    simp only [so_sls,Zh,Zj,Zk]
    try rfl
  case slc =>
    simp only [so_slc,Zh,Zj,Zk]
    try rfl
  case faddr =>
    simp only [so_faddr,Zh,Zj,Zk]
    try rfl
  case fld =>
    simp only [so_fld,Zh,Zj,Zk]
    try rfl
  case iaddr =>
    simp only [so_iaddr,Zh,Zj,Zk]
    try rfl
  case iaddra =>
    simp only [so_iaddra,Zh,Zj,Zk]
    try rfl
  case idx =>
    simp only [so_idx,Zh,Zj,Zk]
    try rfl
  case idxs =>
    simp only [so_idxs,Zh,Zj,Zk]
    try rfl
  case lookup =>
    simp only [so_lookup,Zh,Zj,Zk]
    try rfl
  case mupd =>
    simp only [so_mupd,Zh,Zj,Zk]
    try rfl
  case extract =>
    simp only [so_extract,Zh,Zj,Zk]
    try rfl
  case call =>
    simp only [so_call,Zh,Zj,Zk]
    try rfl
  case lens =>
    simp only [so_lens,Zh,Zj,Zk]
    try rfl
  case lenl =>
    simp only [so_lenl,Zh,Zj,Zk]
    try rfl
  case lenm =>
    simp only [so_lenm,Zh,Zj,Zk]
    try rfl
  case append =>
    simp only [so_append,Zh,Zj,Zk]
    try rfl
  case appf =>
    simp only [so_appf,Zh,Zj,Zk]
    try rfl
  case appz =>
    simp only [so_appz,Zh,Zj,Zk]
    try rfl
  case mx =>
    simp only [so_mx,Zh,Zj,Zk]
    try rfl
  case mn =>
    simp only [so_mn,Zh,Zj,Zk]
    try rfl
  case eqnil =>
    simp only [so_eqnil,Zh,Zj,Zk]
    try rfl
  case capl =>
    simp only [so_capl,Zh,Zj,Zk]
    try rfl
noncomputable def guardS (tmps:List PV):Option (Nat × Bool)→Option Bool
  | none=>some true
  | some (t,b)=>match nth tmps t with
    | .bool c=>some (c==b)
    | .tuple _=>some false
    | _=>none
theorem guardS_eq (tmps:List PV) (g:Option (Nat × Bool)):guardS tmps g=guardE tmps g:=by
  cases g with
  | none=>rfl
  | some x=>simp only [guardS,guardE,nth_eq];rfl
noncomputable def stepK (callE:CallE) (yieldE:Nm→List PV→Heap→Option (PV × Heap)) (o:PPO) (fr:Fr) (k:Fr→Option Fr):Option Fr :=
  match o with
  | ⟨dst,op,g⟩=>match guardS fr.tmps g with
    | none=>none
    | some false=>forceP false dst (fr.putS dst (.tuple [])) k
    | some true=>(match stepV E callE yieldE dst op fr with
        | some fr'=>forceP op.heavy dst fr' k
        | none=>none)
theorem stepK_eq (callE:CallE) (yieldE:Nm→List PV→Heap→Option (PV × Heap)) (o:PPO) (fr:Fr) (k:Fr→Option Fr):stepK E callE yieldE o fr k=(match stepPO E callE yieldE o fr with
    | some fr'=>k fr'
    | none=>none):=by
  obtain ⟨dst,op,g⟩:=o
  simp only [stepK,stepPO,guardS_eq,forceP_eq,stepV_eq,Zj]
  cases guardE fr.tmps g with
  | none=>rfl
  | some b=>cases b<;>rfl
noncomputable def runOpsS (callE:CallE) (yieldE:Nm→List PV→Heap→Option (PV × Heap)):List PPO→Fr→Option Fr
  | [],fr=>some fr
  | o::r,fr=>stepK E callE yieldE o fr fun fr'=>runOpsS callE yieldE r fr'
theorem runOpsS_eq (callE:CallE) (yieldE:Nm→List PV→Heap→Option (PV × Heap)):∀ (l:List PPO) (fr:Fr),runOpsS E callE yieldE l fr=runOps E callE yieldE l fr
  | [],fr=>rfl
  | o::r,fr=>by
    simp only [runOpsS,runOps,stepK_eq,runOpsS_eq callE yieldE r]
    rfl
noncomputable def runDS (callE:CallE) (yieldE:Nm→List PV→Heap→Option (PV × Heap)):List DPO→List DPO→Fr→Option Fr
  | _,[],fr=>some fr
  | past,it::r,fr=>if it.isC then
      stepK E callE yieldE it.o fr fun fr'=>if quiet E it.o fr.tmps||past.all (fun x=>!it.chk.contains x.ix||stable E callE yieldE fr' x.o) then runDS callE yieldE past r fr' else none
    else if freshSlot fr it.o then stepK E callE yieldE it.o fr fun fr'=>runDS callE yieldE (it::past) r fr'
    else none
theorem runDS_eq (callE:CallE) (yieldE:Nm→List PV→Heap→Option (PV × Heap)):∀ (l past:List DPO) (fr:Fr),runDS E callE yieldE past l fr=runD E callE yieldE past l fr
  | [],past,fr=>by simp [runDS,runD]
  | it::r,past,fr=>by
    simp only [runDS,runD,stepK_eq,runDS_eq callE yieldE r]
    split
    · cases stepPO E callE yieldE it.o fr<;>rfl
    · split
      · cases stepPO E callE yieldE it.o fr<;>rfl
      · rfl
mutual
noncomputable def callS:Nat→CallE
  | 0=>fun _ _ _=>none
  | n+1=>fun f args h=>match E.pf f with
    | none=>none
    | some pf=>match pf.ext with
     | some val=>(match val args with
        | some v=>some (v,h++[[]])
        | none=>none)
     | none=>if args.length=pf.nparams then
        (match mkTmpsK args (pf.ntmps - pf.nparams) fun tmps=>forceH (h++[List.replicate pf.nobjs none]) fun hp=>forceNat h.length fun lv=>evS n pf.body { lvl:=lv,tmps:=tmps,heap:=hp,defers:=[] } with
        | some (.norm,fr)|some (.ret,fr)=>(match defS n fr.defers fr.heap with
          | some h'=>(match resultsE h' fr.tmps pf.results with
            | some v=>some (v,h')
            | none=>none)
          | none=>none)
        | _=>none) else none
noncomputable def callDS:Nat→CallE
  | 0=>fun _ _ _=>none
  | n+1=>fun f args h=>match E.pf f with
    | none=>none
    | some pf=>if pf.ext.isNone∧args.length=pf.nparams then
        (match mkTmpsK args (pf.ntmps - pf.nparams) fun tmps=>forceH (h++[List.replicate pf.nobjs none]) fun hp=>forceNat h.length fun lv=>evS n pf.body { lvl:=lv,tmps:=tmps,heap:=hp,defers:=[] } with
        | some (.norm,fr)|some (.ret,fr)=>if fr.defers.isEmpty then (match resultsE fr.heap fr.tmps pf.results with
            | some v=>some (v,fr.heap)
            | none=>none) else none
        | _=>none) else none
noncomputable def defS:Nat→List (Option (Nat × List PV))→Heap→Option Heap
  | 0,_,_=>none
  | _+1,[],h=>some h
  | n+1,none::r,h=>defS n r h
  | n+1,some (f,args)::r,h=>match doCall E (callDS n) f args h with
    | some (_,h')=>defS n r h'
    | none=>none
noncomputable def evS:Nat→PC→Fr→Option (PEx × Fr)
  | 0,_,_=>none
  | n+1,c,fr=>match c with
    | .skip=>some (.norm,fr)
    | .regd its _ mxd=>if Nat.ble mxd fr.tmps.length then (match runDS E (callS n) (yieldS n) [] its (dropSl its fr) with
      | some fr'=>some (.norm,fr')
      | none=>none) else none
    | .reg ops=>match runOpsS E (callS n) (yieldS n) ops fr with
      | some fr'=>some (.norm,fr')
      | none=>none
    | .seq a b=>match evS n a fr with
      | some (.norm,fr')=>evS n b fr'
      | r=>r
    | .cond c a b=>match evXS E fr.tmps c with
      | .bool t=>evS n (if t then a else b) fr
      | _=>none
    | .block id a=>match evS n a fr with
      | some (.exit id',fr')=>if id'=id then some (.norm,fr') else some (.exit id',fr')
      | r=>r
    | .loop a=>match evS n a fr with
      | some (.norm,fr')=>evS n (.loop a) fr'
      | r=>r
    | .exit id=>some (.exit id,fr)
    | .ret=>some (.ret,fr)
    | .cln keep a=>keepK fr.tmps 0 keep fun tmps=>evS n a { lvl:=fr.lvl,tmps:=tmps,heap:=fr.heap,defers:=fr.defers }
    | .rangef s f params assign body =>
      if s<(fr.heap.getD fr.lvl []).length then
        (match evXS E fr.tmps f with
        | .fn f0 p q=>(match doCall E (callS n) f0 (p++[.yld (fr.nm s) (nextGen fr.heap (fr.nm s))]++q) (hset fr.heap (fr.nm s) (.loop fr.tmps params assign body none (nextGen fr.heap (fr.nm s)))) with
          | some (_,h)=>(match hget h (fr.nm s) with
            | some (.loop _ _ _ _ j g')=>if g'=nextGen fr.heap (fr.nm s) then
                (match j with
                | none=>some (.norm,{ fr with heap:=hset h (fr.nm s) (.dead (g'+1)),defers:=none::fr.defers })
                | some .norm=>none
                | some e=>some (e,{ fr with heap:=hset h (fr.nm s) (.dead (g'+1)),defers:=none::fr.defers })) else none
            | _=>none)
          | none=>none)
        | _=>none) else none
noncomputable def yieldS:Nat→Nm→List PV→Heap→Option (PV × Heap)
  | 0,_,_,_=>none
  | n+1,nm,args,h=>match hget h nm with
    | some (.loop tmps params assign body none g)=>if args.length=params.length then
        (match evS n assign { lvl:=h.length,tmps:=(params.zip args).foldl (fun t p=>t.set p.1 p.2) tmps,heap:=h++[List.replicate (h.getD nm.1 []).length none],defers:=[] } with
        | some (.norm,fr)=>(match hget fr.heap nm with
          | some (.loop tmps' params' assign' body' none g1)=>if g1=g then
              (match evS n body { fr with heap:=hset fr.heap nm (.loop tmps' params' assign' body' (some .norm) g) } with
              | some (e,fr')=>(match hget fr'.heap nm with
                | some (.loop t p a b (some .norm) g2)=>if g2=g then
                    (match endRoundE e with
                    | (j,v)=>if heapLow h.length ((hset fr'.heap nm (.loop t p a b j g)).take h.length) then some (v,(hset fr'.heap nm (.loop t p a b j g)).take h.length) else none) else none
                | _=>none)
              | none=>none) else none
          | _=>none)
        | _=>none) else none
    | _=>none
end
end
theorem strict_eq (E:Env):∀ n,callS E n=callN E n∧callDS E n=callD E n∧defS E n=defN E n∧evS E n=evN E n∧yieldS E n=yieldN E n:=by
  intro n
  induction n with
  | zero =>
    refine ⟨?_,?_,?_,?_,?_⟩
    · funext a b c;simp only [callS,callN]
    · funext a b c;simp only [callDS,callD]
    · funext a b;simp only [defS,defN]
    · funext a b;simp only [evS,evN]
    · funext a b c;simp only [yieldS,yieldN]
  | succ n ih =>
    obtain ⟨h1,h2,h3,h4,h5⟩:=ih
    refine ⟨?_,?_,?_,?_,?_⟩
    · funext a b c;simp only [callS,callN,h3,h4,mkTmpsK_eq,forceH_eq,Yj];rfl
    · funext a b c;simp only [callDS,callD,h4,mkTmpsK_eq,forceH_eq,Yj];rfl
    · funext a b;cases a with
      | nil=>simp only [defS,defN]
      | cons x r=>cases x with
        | none=>simp only [defS,defN,h3]
        | some x=>obtain ⟨f,args⟩:=x;simp only [defS,defN,h2,h3];rfl
    · funext a b;cases a<;>simp only [evS,evN,h1,h4,h5,runOpsS_eq,runDS_eq,evXS_eq,keepK_eq]<;>rfl
    · funext a b c;simp only [yieldS,yieldN,h4];rfl
theorem callS_eq (E:Env) (n:Nat):callS E n=callN E n:=(strict_eq E n).1
def saysB (b:Bool):Option (PV × Heap)→Bool
  | some (.bool c,_)=>c==b
  | _=>false
theorem call_closedS {E:Env} {k:Nat} {f:Nat} {pf:PFn} {b:Bool} (hpf:E.pf f=some pf) (hp:pf.pure=true) (hc:saysB b (callS E k f [] [])=true) (h:Heap):doCall E (callR E) f [] h=some (.bool b,h):=by
  refine call_closed (k:=k) hpf hp ?_ h
  rw [callS_eq] at hc
  unfold saysB at hc
  split at hc
  · rename_i c h' hc'
    rw [hc']
    simp at hc
    subst hc
    rfl
  · cases hc
end Go.VI
namespace Go.VI
section
variable {g:PG}
end
section
variable {P:Program} {w:World}
end
end Go.VI
namespace Go.VI
variable {E:Env} {ks:List KI} {Q:PEx→Fr→Prop} {fr:Fr}
def allMarks:List (Option (Nat × List PV))→Bool
  | []=>true
  | none::r=>allMarks r
  | some _::_=>false
theorem defN_marks:∀ (l:List (Option (Nat × List PV))) (h:Heap),allMarks l=true→Evt fun k=>defN E k l h=some h
  | [],h,_=>.succ (.of fun k=>rfl)
  | none::r,h,hl=>.succ ((defN_marks r h hl).mono fun k hk=>by simpa only [defN] using hk)
  | some _::_,h,hl=>by simp [allMarks] at hl
end Go.VI
namespace Go.VI
variable {E:Env} {ks:List KI} {Q:PEx→Fr→Prop} {fr:Fr}
theorem optD_gsplit {p:Prop} [Decidable p] {b:Bool} {o:PPO} {past r:List DPO} {it:DPO} {fr0:Fr} (h1:p→optD E (guS E (some (true==b)) o fr) past it r fr0 ks Q) (h2:¬ p→optD E (guS E (some (false==b)) o fr) past it r fr0 ks Q):optD E (guS E (some (decide p==b)) o fr) past it r fr0 ks Q:=by
  by_cases h:p
  · rw [decide_eq_true h];exact h1 h
  · rw [decide_eq_false h];exact h2 h
theorem optD_bsplit {c b:Bool} {o:PPO} {past r:List DPO} {it:DPO} {fr0:Fr} (h1:c=true→optD E (guS E (some (true==b)) o fr) past it r fr0 ks Q) (h2:c=false→optD E (guS E (some (false==b)) o fr) past it r fr0 ks Q):optD E (guS E (some (c==b)) o fr) past it r fr0 ks Q:=by
  cases c
  · exact h2 rfl
  · exact h1 rfl
theorem optK_bsplit {c b:Bool} {o:PPO} (h1:c=true→optK E (guS E (some (true==b)) o fr) ks Q) (h2:c=false→optK E (guS E (some (false==b)) o fr) ks Q):optK E (guS E (some (c==b)) o fr) ks Q:=by
  cases c
  · exact h2 rfl
  · exact h1 rfl
theorem condK_bsplit {c:Bool} {a b:PC} (h1:c=true→kQ E (.code a::ks) Q .norm fr) (h2:c=false→kQ E (.code b::ks) Q .norm fr):condK E (.bool c) a b ks Q fr:=by
  cases c
  · exact h2 rfl
  · exact h1 rfl
end Go.VI
set_option linter.unusedSimpArgs false
set_option linter.unusedVariables false
namespace Go.VI
variable {E:Env}
def endP (rs:List RV) (r:PV):PEx→Fr→Prop:=fun ex fr=>(match ex with|.exit _=>False|_=>True)∧fr.defers=[]∧(resultsE fr.heap fr.tmps rs).bind (snap fr.heap 0 4)=some r
theorem endP_ret {rs:List RV} {r:PV} {L:Nat} {T:List PV} {h:Heap}:endP rs r .ret { lvl:=L,tmps:=T,heap:=h,defers:=[] }=((resultsE h T rs).bind (snap h 0 4)=some r):=by simp [endP]
theorem call_pureP {f:Nat} {pf:PFn} {args:List PV} {r:PV} {c:PC} (hpf:E.pf f=some pf) (hp:pf.pure=true) (hb:pf.body=.cln (List.range args.length) c) (hn:args.length=pf.nparams) (hlow:PV.lowL 0 args=true)
    (hw:kQ E [.code c] (endP pf.results r) .norm { lvl:=0,tmps:=mk (args.length+(pf.ntmps - pf.nparams)) (enum 0 args),heap:=[List.replicate pf.nobjs none],defers:=[] }) (h:Heap) (he:pf.ext=none:=by rfl) :
    doCall E (callR E) f args h=some (r,h):=by
  have hw':kQ E [.code pf.body] (endP pf.results r) .norm { lvl:=0,tmps:=args++List.replicate (pf.ntmps - pf.nparams) (.tuple []),heap:=[]++[List.replicate pf.nobjs none],defers:=[] }:=by
    rw [hb,K_cln]
    simp only [start_eq]
    exact hw
  obtain ⟨ex,fr,h1,hex,hd,hres⟩:=Yc (wpE_of hw')
  obtain ⟨r0,hr0,hs⟩:=Option.bind_eq_some_iff.1 hres
  have hcall:Evt fun k=>callN E k f args []=some (r0,fr.heap):=by
    refine .succ ((h1.and (defN_marks (E:=E) fr.defers fr.heap (by rw [hd];rfl))).mono fun k hk=>?_)
    simp only [callN,hpf,he,hn,if_true,List.length_nil]
    rw [hk.1]
    cases ex with
    | exit id=>exact hex.elim
    | norm=>simp only [hk.2,hr0]
    | ret=>simp only [hk.2,hr0]
  have hpop:pop 0 r0 fr.heap=some (r,[]):=by
    unfold pop
    rw [hs]
    simp [heapLow]
  simp only [doCall,hpf,hp,if_true,hlow,callR_of hcall,hpop]
end Go.VI
set_option linter.unusedSimpArgs false
set_option linter.unusedVariables false
namespace Go.VI
variable {E:Env} {ks:List KI} {Q:PEx→Fr→Prop} {fr fr':Fr}
theorem hget_00 {l:List (Option Ob)} {r:Heap} {i:Nat}:hget (l::r) (0,i)=(l[i]?).bind id:=rfl
theorem hget_ss {l:List (Option Ob)} {r:Heap} {n i:Nat}:hget (l::r) (n+1,i)=hget r (n,i):=rfl
theorem hset_00 {l:List (Option Ob)} {r:Heap} {i:Nat} {o:Ob}:hset (l::r) (0,i) o=l.set i (some o)::r:=rfl
theorem hset_ss {l:List (Option Ob)} {r:Heap} {n i:Nat} {o:Ob}:hset (l::r) (n+1,i) o=l::hset r (n,i) o:=rfl
def stab1 (E:Env) (fr:Fr) (o:PPO):Prop:=stable E (callR E) (yieldR E) fr o=true
def chkQ (E:Env) (fr:Fr) (chk:List Nat):List DPO→Prop
  | []=>True
  | x::r=>(x.ix∈chk→stab1 E fr x.o)∧chkQ E fr chk r
theorem chkQ_all {chk:List Nat}:∀ {past:List DPO},chkQ E fr chk past→(past.all fun x=>!chk.contains x.ix||stable E (callR E) (yieldR E) fr x.o)=true
  | [],_=>rfl
  | x::r,h=>by
    have h2:=chkQ_all h.2
    rw [List.all_cons,h2,Bool.and_true]
    by_cases hx:x.ix∈chk
    · have:stable E (callR E) (yieldR E) fr x.o=true:=h.1 hx
      rw [this,Bool.or_true]
    · simp [List.contains_iff_mem,hx]
theorem Zw {past:List DPO} {ix:Nat} {o:PPO} {anc chk:List Nat} {r:List DPO} (h1:chkQ E fr' chk past) (h2:kQ E (.its past r::ks) Q .norm fr'):optD E (some fr') past { ix:=ix,o:=o,isC:=true,anc:=anc,chk:=chk } r fr ks Q:=by
  simp only [optD,optQ,goOn,pastOf]
  exact ⟨⟨fun _=>.inr (.inr (chkQ_all h1)),fun h=>by cases h⟩,h2⟩
def stabS (E:Env) (fr:Fr) (d:Nat) (op:POp):Option Nat→Prop
  | none=>optQ (stepX E (some d) op fr) fun fr'=>PV.same (fr.tmps.getD d .junk) (fr'.tmps.getD d .junk)=true
  | some s=>stable E (callR E) (yieldR E) fr { dst:=some d,op:=op }=true
def stabG (E:Env) (fr:Fr) (d:Nat) (op:POp):Option Bool→Prop
  | none=>False
  | some false=>PV.same (fr.tmps.getD d .junk) (.tuple [])=true
  | some true=>stabS E fr d op op.slot
theorem Zr {d:Nat} {op:POp} {g:Option (Nat × Bool)}:stabG E fr d op (guardE fr.tmps g)→stab1 E fr { dst:=some d,op:=op,guard:=g }:=by
  intro h
  unfold stab1 stable
  simp only
  cases hg:guardE fr.tmps g with
  | none=>rw [hg] at h;exact h.elim
  | some b =>
    rw [hg] at h
    cases b with
    | false=>exact h
    | true =>
      simp only [stabG] at h
      cases hs:op.slot with
      | none =>
        rw [hs] at h
        simp only [stabS,stepX] at h
        obtain ⟨fr1,h1,h2⟩:=optQ_some h
        simp only [h1,h2]
      | some s =>
        rw [hs] at h
        simp only [stabS,stable,guardE,hs] at h
        exact h
theorem Zx {chk:List Nat} {x:DPO} {r:List DPO} (h1:chk.contains x.ix=false) (h3:chkQ E fr chk r):chkQ E fr chk (x::r):=⟨fun h=>(by rw [List.contains_iff_mem.2 h] at h1;cases h1),h3⟩
theorem Zy {chk:List Nat} {x:DPO} {r:List DPO} (h1:chk.contains x.ix=true) (h2:stab1 E fr x.o) (h3:chkQ E fr chk r):chkQ E fr chk (x::r):=⟨fun _=>h2,h3⟩
theorem Zz {chk:List Nat}:chkQ E fr chk []:=trivial
theorem Zo {x:Fr} {Q:Fr→Prop} (h:Q x):optQ (some x) Q:=h
theorem Zv {a b:List PV}:PV.same (.agg a) (.agg b)=PV.sameL a b:=by simp only [PV.same]
theorem Z5 {a b:List PV}:PV.same (.ip a) (.ip b)=PV.sameL a b:=by simp only [PV.same]
theorem Zu {k:IntKind} {n:Int}:PV.same (.int k n) (.int k n)=true:=by simp [PV.same]
theorem Zp {n:Bool}:PV.same (.bool n) (.bool n)=true:=by simp [PV.same]
theorem Zs {n:List UInt8}:PV.same (.str n) (.str n)=true:=by simp [PV.same]
theorem Z3 {f:Fl} {a b:List PV}:PV.same (.vs f a) (.vs f b)=PV.sameL a b:=by simp [PV.same]
theorem Z4 {n:Nm} {g o l:Nat}:PV.same (.sl n g o l) (.sl n g o l)=true:=by simp [PV.same]
theorem Zt {n:Nm} {g o l:Nat}:PV.same (.ptr n g o l) (.ptr n g o l)=true:=by simp [PV.same]
theorem Zq:PV.sameL [] []=true:=by simp only [PV.sameL]
theorem Zn {x y:PV} {a b:List PV}:PV.sameL (x::a) (y::b)=(PV.same x y&&PV.sameL a b):=by simp only [PV.sameL]
end Go.VI
namespace Go.VI
attribute [push_cast] K_nil K_skip K_reg K_regd K_cond K_block K_loop K_exit K_ret K_onil K_ocons K_inil K_icons K_bnorm K_bret K_bexit K_cret K_cexit optK_some optD_c optD_r condK_t condK_f guS_t guS_f guardE stepX stepOp callV evX Fr.put Fr.lay Fr.nm layE POp.slot nextGen mk_get mk_set mk_len look keepL List.mem_cons List.not_mem_nil or_false false_or true_or or_true hget_0 hset_0 getD_0 List.getElem?_cons_zero List.getElem?_cons_succ List.set_cons_zero List.set_cons_succ List.length_cons List.length_nil Option.bind_some Option.bind_none id_eq Nat.zero_add Nat.add_zero zero_ne_one' one_ne_zero' Nat.succ_ne_self false_and and_true true_and if_pos if_neg ite_self Option.some.injEq binI intOp shiftOp maxI minI foldO List.map_cons List.map_nil List.nil_append List.append_nil List.cons_append decide_eq_true decide_eq_false decide_true decide_false int_beq int_bne wrap64 Bool.not_true Bool.not_false beq_self_eq_true beq_tf beq_ft endQ_ret endQ_norm resultsE mapO rvE loadFrom PV.cells PV.fits PV.good PV.pure PV.low PV.lowL List.head?_cons List.drop_zero List.drop_succ_cons List.take_succ_cons List.take_zero splice List.length_append lenOf elems fillParts fillElems dropSl freshSlot headSz_nil headSz_cons cleanFor Fl.full Ob.gen look_keep List.isEmpty_cons List.isEmpty_nil Nat.sub_zero Int.natCast_add Int.natCast_one natbeq_self Bool.true_or Bool.false_or Bool.or_true Bool.or_false Bool.true_and Bool.and_true Bool.and_self Bool.or_self optD_call eq_self not_true_eq_false not_false_eq_true List.drop_nil
theorem decide_neg {p:Prop} [Decidable p]:(!decide p)=decide (¬ p):=decide_not.symm
attribute [push_cast] decide_neg
section
variable {E:Env} {ks:List KI} {Q:PEx→Fr→Prop} {fr:Fr}
theorem cS {p:Prop} [Decidable p] {a b:PC} (h1:p→kQ E (.code a::ks) Q .norm fr) (h2:¬ p→kQ E (.code b::ks) Q .norm fr):condK E (.bool (decide p)) a b ks Q fr:=condK_split h1 h2
theorem oS {p:Prop} [Decidable p] {b:Bool} {o:PPO} (h1:p→optK E (guS E (some (true==b)) o fr) ks Q) (h2:¬ p→optK E (guS E (some (false==b)) o fr) ks Q):optK E (guS E (some (decide p==b)) o fr) ks Q:=optK_gsplit h1 h2
theorem dS {p:Prop} [Decidable p] {b:Bool} {o:PPO} {past r:List DPO} {it:DPO} {fr0:Fr} (h1:p→optD E (guS E (some (true==b)) o fr) past it r fr0 ks Q) (h2:¬ p→optD E (guS E (some (false==b)) o fr) past it r fr0 ks Q):optD E (guS E (some (decide p==b)) o fr) past it r fr0 ks Q:=optD_gsplit h1 h2
theorem dB {c b:Bool} {o:PPO} {past r:List DPO} {it:DPO} {fr0:Fr} (h1:c=true→optD E (guS E (some (true==b)) o fr) past it r fr0 ks Q) (h2:c=false→optD E (guS E (some (false==b)) o fr) past it r fr0 ks Q):optD E (guS E (some (c==b)) o fr) past it r fr0 ks Q:=optD_bsplit h1 h2
theorem oB {c b:Bool} {o:PPO} (h1:c=true→optK E (guS E (some (true==b)) o fr) ks Q) (h2:c=false→optK E (guS E (some (false==b)) o fr) ks Q):optK E (guS E (some (c==b)) o fr) ks Q:=optK_bsplit h1 h2
theorem cB {c:Bool} {a b:PC} (h1:c=true→kQ E (.code a::ks) Q .norm fr) (h2:c=false→kQ E (.code b::ks) Q .norm fr):condK E (.bool c) a b ks Q fr:=condK_bsplit h1 h2
theorem kk {m:List Nat} {a:PC} {L n:Nat} {l:List (Nat × PV)} {h:Heap} {d:List (Option (Nat × List PV))} (hm:asc m=true) (hk:kQ E (.code a::ks) Q .norm { lvl:=L,tmps:=mk n (keepL m l),heap:=h,defers:=d }):kQ E (.code (.cln m a)::ks) Q .norm { lvl:=L,tmps:=mk n l,heap:=h,defers:=d }:=K_keep hm hk
end
end Go.VI

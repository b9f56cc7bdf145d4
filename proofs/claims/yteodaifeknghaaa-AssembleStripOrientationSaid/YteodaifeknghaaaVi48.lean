/- A loop over a map's entries: whichever order they come in. -/
import Derived.Test.YteodaifeknghaaaVi46
import Derived.Test.YteodaifeknghaaaVC
import Derived.Maps.RangeRun
set_option linter.unusedSimpArgs false
set_option linter.unusedVariables false
namespace Go.VI
open Go.ChangeMaps (setBlock)
variable {g : PG} {c : Ctx} {w : World} {fr fr' : Fr} {a : Act} {o : Oper}
theorem iter_at {n m : Nm} {gg gm since ck : Nat} {seen : List Nat} {u : Value} {es : List (PV × PV)} (hH : HRel g.MC c fr.heap w) (hv : VRel c w (.ptr n gg 0 0) u) (ho : hget fr.heap n = some (.iter (.map m gm) since seen gg)) (hm : hget fr.heap m = some (.map es ck gm)) :
    ∃ p bi bm arr,c.gen n = gg ∧ c.obj n = some p ∧ p.blk = some bi ∧ p.base = 0 ∧ u = .pointer (some ⟨bi,0,none⟩) ∧ w.heap[bi]? = some (.mapIter (some bm) since seen.toArray since) ∧ w.heap[bm]? = some (.map arr ck) ∧ VRel c w (.map m gm) (.map (some bm)) ∧ (arr.size = es.length ∧ ck = es.length) ∧
      ∀ (i : Nat) (e : PV × PV) (x : MapEntry),es[i]? = some e → arr[i]? = some x → (IRel c.imm w e.1 x.key ∧ IRel c.imm w e.2 x.val) ∧ x.born = i := by
  obtain ⟨h1,h2⟩ := hH n _ ho
  cases hv with
  | i _ _ h => cases h
  | ptrStale _ _ _ _ _ hlt => omega
  | ptr _ _ _ _ p b hg hp hb =>
    obtain ⟨b',bm,⟨h3,h3'⟩,h4,h5⟩ := h2 p hp
    rw [hb] at h3
    simp only [Option.some.injEq] at h3
    subst h3
    obtain ⟨p2,b2,arr,hp2,hb2,e2,ha,hsz,hrel⟩ := map_live hH h5 hm
    simp only [Value.map.injEq,Option.some.injEq] at e2
    subst e2
    exact ⟨p,b,bm,arr,h1,hp,hb,h3',by simp [h3'],h4,ha,h5,hsz,hrel⟩
theorem next_ok (h : FrRel g c w fr a) {x' : Operand} {n m : Nm} {gi gm : Nat} {seen : List Nat} {es : List (PV × PV)} (ho : o.op = .next x' false) (hx : VRel c w (.ptr n gi 0 0) (a.eval x')) (hob : hget fr.heap n = some (.iter (.map m gm) es.length seen gi)) (hom : hget fr.heap m = some (.map es es.length gm)) :
    ((∀ i,i < es.length → i ∈ seen) ∧ (execOp a.eval o).run g.P w = .ok (.value (.tuple #[.bool false])) w) ∨
    ∃ i e w' c' uk uv,es[i]? = some e ∧ i ∉ seen ∧ (execOp a.eval o).run g.P w = .ok (.value (.tuple #[.bool true,uk,uv])) w' ∧ Step N0 c w c' w' ∧ FrRel g c' w' { fr with heap := hset fr.heap n (.iter (.map m gm) es.length (seen ++ [i]) gi) } a ∧ IRel c'.imm w' e.1 uk ∧ IRel c'.imm w' e.2 uv := by
  obtain ⟨p,bi,bm,arr,hgen,hp,hb,hb0,hu,hit,hmm,hmv,hsz,hrel⟩ := iter_at h.heap hx hob hom
  have hbn : ∀ (i : Nat) (x : MapEntry),arr[i]? = some x → x.born = i ∧ i < es.length := fun i x hi => by
    have hl : i < es.length := by have := agetElem?_some_lt hi; omega
    exact ⟨(hrel i es[i] x (by simp [hl]) hi).2,hl⟩
  have hold : ∀ x ∈ arr.toList,x.born < es.length := fun x hx => by
    obtain ⟨i,hi,rfl⟩ := List.getElem_of_mem hx
    obtain ⟨h1,h2⟩ := hbn i arr.toList[i] (by simp at hi; simp [hi])
    omega
  have hex : ∀ {r : Result Value},(Instr.next (.pointer (some ⟨bi,0,none⟩)) false o.type).run g.P w = r → (execOp a.eval o).run g.P w = (match r with | .ok v w' => .ok (.value v) w' | .halt e w' => .halt e w') := by
    intro r hr
    simp only [execOp,ho,hu,Sem.run_bind,hr]
    cases r <;> rfl
  rcases run_next_at (P := g.P) w o.type bi bm es.length es.length seen.toArray arr es.length hit hmm hold (Nat.le_refl _) with ⟨h1,h2⟩ | ⟨e,he,w1,hw1,h2⟩
  · refine .inl ⟨fun i hi => ?_,by rw [hex h2]⟩
    by_cases hs : i ∈ seen
    · exact hs
    · have hi' : i < arr.size := by omega
      have : arr[i] ∈ leftOf arr seen.toArray := by
        unfold leftOf
        rw [Array.mem_filter]
        refine ⟨by simp, ?_⟩
        rw [(hbn i arr[i] (by simp [hi'])).1]
        simp [hs]
      have h3 := Array.eq_empty_of_size_eq_zero h1
      rw [h3] at this
      simp at this
  · right
    unfold leftOf at he
    simp only [Array.mem_toList_iff,Array.mem_filter] at he
    obtain ⟨hmem,hns⟩ := he
    obtain ⟨i,hi,rfl⟩ := Array.getElem_of_mem hmem
    obtain ⟨hbi,hil⟩ := hbn i arr[i] (by simp [hi])
    have hrw : ∀ b : Nat,w1.heap[b]? = w.heap[b]? := by rcases hw1 with rfl | rfl <;> intro b <;> rfl
    have hsz1 : w1.heap.size = w.heap.size := by rcases hw1 with rfl | rfl <;> rfl
    have hredo : Redo c w (setBlock w1 bi (.mapIter (some bm) es.length (seen ++ [i]).toArray es.length)) n p p gi :=
      { hp := hp
        hk := .inr ⟨hgen,rfl⟩
        size := by simp [setBlock,hsz1]
        os := by rcases hw1 with rfl | rfl <;> rfl
        out := by rcases hw1 with rfl | rfl <;> rfl
        same := fun b' _ hne => by
          show (w1.heap.setIfInBounds bi _)[b']? = _
          rw [Array.getElem?_setIfInBounds_ne (fun e => hne (by rw [hb,e])),hrw]
        blk := fun b' hb' => .inl hb' }
    have hst := hredo.step
    have hlt : bi < w1.heap.size := by rw [hsz1]; exact (Array.getElem?_eq_some_iff.1 hit).1
    have hr0 := hrel i es[i] arr[i] (by simp [hil]) (by simp [hi])
    refine ⟨i,es[i],_,_,arr[i].key,arr[i].val,by simp [hil],by simpa [hbi] using hns, ?_,hst,h.redo hredo hob (?_ : ObRel g.MC _ _ n (.iter _ _ _ gi)),hr0.1.1.step hst h.wf,hr0.1.2.step hst h.wf⟩
    · rw [hex h2,hbi]
      simp
    · refine ⟨Ctx.lay_gen_self _ _ _ _,fun q hq => ?_⟩
      rw [Ctx.lay_obj_self] at hq
      simp only [Option.some.injEq] at hq
      subst hq
      refine ⟨bi,bm,⟨hb,hb0⟩, ?_,hmv.step hst h.wf⟩
      show (w1.heap.setIfInBounds bi _)[bi]? = _
      rw [Array.getElem?_setIfInBounds_self_of_lt hlt]
def WPc (g : PG) (pc : PC) (fr : Fr) (K : PEx → Fr → Prop) : Prop := ∀ (n : Nat) (code : Code) (c : Ctx) (w : World) (a : Act) (Q : Exit → Act → World → Prop),g.matchC false pc code = true → g.lo ≤ w.heap.size → FrRel g c w fr a → (∀ ex fr',K ex fr' → Goes g c w fr' (Q (exitOf ex))) → code.wpIn (wR none) n g.P Q a w
theorem WPc.ev (hE : ∀ k,EvSound g k) {pc : PC} {K : PEx → Fr → Prop} (h : kQ g.E [.code pc] K .norm fr) : WPc g pc fr K := by
  obtain ⟨ex,fr',⟨k,hk⟩,hQ⟩ := wpE_sound (wpE_of h)
  intro n code c w a Q hm hlo hfr hK
  exact hE k pc fr ex fr' (hk k (Nat.le_refl _)) false none n code c w a Q hm (fun h => absurd rfl h) hlo hfr (hK ex fr' hQ)
theorem Goes.later {c' : Ctx} {w' : World} {K : Act → World → Prop} (hG : Goes g c w fr' K) (hS : Step N0 c w c' w') : Goes g c' w' fr' K := fun c2 w2 a2 hS2 hF => hG c2 w2 a2 (hS.trans hS2) hF
theorem WPc.seq {p q : PC} {K : PEx → Fr → Prop} (h : WPc g p fr fun ex fr1 => match ex with | .norm => WPc g q fr1 K | ex => K ex fr1) : WPc g (.seq p q) fr K := by
  intro n code c w a Q hm hlo hfr hK
  cases code <;> simp only [PG.matchC,Bool.false_eq_true,Bool.and_eq_true] at hm
  refine wpIn_seq (h n _ c w a _ hm.1 hlo hfr fun ex fr1 hk => ?_)
  cases ex with
  | norm => exact fun c1 w1 a1 hS1 hF1 => hk n _ c1 w1 a1 Q hm.2 (Nat.le_trans hlo hS1.size) hF1 fun ex2 fr2 hk2 => (hK ex2 fr2 hk2).later hS1
  | exit id => exact hK (.exit id) fr1 hk
  | ret => exact hK .ret fr1 hk
theorem WPc.cln {m : List Nat} {p : PC} {K : PEx → Fr → Prop} (h : WPc g p { fr with tmps := keepE 0 m fr.tmps } K) : WPc g (.cln m p) fr K := by
  intro n code c w a Q hm hlo hfr hK
  have hm' : g.matchC false p code = true := by cases code <;> simpa only [PG.matchC] using hm
  exact h n code c w a Q hm' hlo (hfr.cln m) hK
theorem WPc.block {id : Nat} {p : PC} {K : PEx → Fr → Prop} (h : WPc g p fr (blockQ id K)) : WPc g (.block id p) fr K := by
  intro n code c w a Q hm hlo hfr hK
  cases code <;> simp only [PG.matchC,Bool.false_eq_true,Bool.and_eq_true] at hm
  have := beq_nat hm.1
  subst this
  refine wpIn_block (h n _ c w a _ hm.2 hlo hfr fun ex fr1 hk => ?_)
  intro c1 w1 a1 hS1 hF1
  cases ex with
  | norm => exact hK .norm fr1 hk c1 w1 a1 hS1 hF1
  | ret => exact hK .ret fr1 hk c1 w1 a1 hS1 hF1
  | exit id' =>
    simp only [blockQ] at hk
    split at hk
    · rename_i hid
      simp only [exitOf,Exit.inBlock,hid,if_true]
      exact hK .norm fr1 hk c1 w1 a1 hS1 hF1
    · rename_i hid
      simp only [exitOf,Exit.inBlock,hid,if_false]
      exact hK (.exit id') fr1 hk c1 w1 a1 hS1 hF1
theorem nodup_le : ∀ (n : Nat) (l : List Nat),l.Nodup → (∀ i ∈ l,i < n) → l.length ≤ n
  | 0,l,_,h => by
    cases l with
    | nil => simp
    | cons x r => exact absurd (h x (by simp)) (by omega)
  | n + 1,l,hn,h => by
    by_cases hm : n ∈ l
    · have := nodup_le n (l.erase n) (hn.erase n) fun i hi => by
        have h1 := h i (List.mem_of_mem_erase hi)
        have h2 : i ≠ n := fun e => by subst e; exact absurd hi (by rw [hn.mem_erase_iff]; simp)
        omega
      rw [List.length_erase_of_mem hm] at this
      omega
    · have := nodup_le n l hn fun i hi => by
        have h1 := h i hi
        have h2 : i ≠ n := fun e => hm (e ▸ hi)
        omega
      omega
def nextFr (fr : Fr) (n : Nm) (gi : Nat) (m : PV) (since : Nat) (seen : List Nat) (nx mr i : Nat) (e : PV × PV) : Fr :=
  (({ fr with heap := hset fr.heap n (.iter m since (seen ++ [i]) gi) } : Fr).put (some nx) (.tuple [.bool true,e.1,e.2])).put (some mr) (.bool true)
def overFr (fr : Fr) (nx mr : Nat) : Fr := (fr.put (some nx) (.tuple [.bool false])).put (some mr) (.bool false)
theorem WPc.mapLoop (hg : g.OK) {lo : Nat} {out bk it nx mr : Nat} {k1 k2 : List Nat} {B : PC} {K : PEx → Fr → Prop} {n m : Nm} {gi gm : Nat} {es : List (PV × PV)} (Inv : List Nat → Fr → Prop) (h0 : Inv [] fr)
    (hI : ∀ seen fr,Inv seen fr → evX g.E fr.tmps (.t it) = .ptr n gi 0 0 ∧ hget fr.heap n = some (.iter (.map m gm) es.length seen gi) ∧ hget fr.heap m = some (.map es es.length gm) ∧ nx ≠ mr ∧ nx < fr.tmps.length ∧ mr < fr.tmps.length)
    (hstep : ∀ seen fr i e,Inv seen fr → es[i]? = some e → i ∉ seen → kQ g.E [.code (.cln k2 (.block bk B))] (fun ex fr' => ex = .norm ∧ Inv (seen ++ [i]) fr') .norm (nextFr { fr with tmps := keepE 0 k1 fr.tmps } n gi (.map m gm) es.length seen nx mr i e))
    (hend : ∀ seen fr,Inv seen fr → (∀ i,i < es.length → i ∈ seen) → K .norm (overFr { fr with tmps := keepE 0 k1 fr.tmps } nx mr)) :
    WPc (g.at lo) (.block out (.loop (.cln k1 (.seq (.reg [⟨some nx,.next (.t it),none⟩,⟨some mr,.extract (.t nx) 0,none⟩]) (.seq (.cond (.t mr) .skip (.exit out)) (.cln k2 (.block bk B))))))) fr K := by
  refine WPc.block ?_
  intro N code c w a Q hm hlo hfr hK
  cases code with
  | loop code =>
    simp only [PG.matchC] at hm
    replace hm : (g.at lo).matchC false (.seq (.reg [⟨some nx,.next (.t it),none⟩,⟨some mr,.extract (.t nx) 0,none⟩]) (.seq (.cond (.t mr) .skip (.exit out)) (.cln k2 (.block bk B)))) code = true := by cases code <;> simpa only [PG.matchC] using hm
    cases code <;> simp only [PG.matchC,Bool.false_eq_true,Bool.and_eq_true] at hm
    rename_i x1 x23
    obtain ⟨hm1,hm23⟩ := hm
    cases x23 <;> simp only [PG.matchC,Bool.false_eq_true,Bool.and_eq_true] at hm23
    rename_i x2 x3
    obtain ⟨hm2,hm3⟩ := hm23
    cases x1 with
    | region rid os draw =>
      cases draw with
      | true => simp only [PG.matchC,Bool.false_eq_true] at hm1
      | false =>
        simp only [PG.matchC] at hm1
        refine wpIn_loop_rounds (es.length + 1) ?_
        have key : ∀ (rounds : Nat) (seen : List Nat) (fr1 : Fr) (c1 : Ctx) (w1 : World) (a1 : Act),Inv seen fr1 → seen.Nodup → (∀ i ∈ seen,i < es.length) → es.length < seen.length + rounds → Step N0 c w c1 w1 → FrRel (g.at lo) c1 w1 fr1 a1 →
            Code.roundsIn (wR none) N (g.at lo).P (.seq (.region rid os false) (.seq x2 x3)) Q rounds a1 w1 := by
          intro rounds
          induction rounds with
          | zero =>
            intro seen fr1 c1 w1 a1 _ hnd hlt hl
            have := nodup_le es.length seen hnd hlt
            omega
          | succ r ih =>
            intro seen fr1 c1 w1 a1 hinv hnd hlt hl hS1 hF1
            obtain ⟨hx1,hx2,hx3,hx4,hx5,hx6⟩ := hI seen fr1 hinv
            have hsnd := all_sound hg
            have hos : ∃ o0 o1,os = #[o0,o1] ∧ (g.at lo).matchPO false os ⟨some nx,.next (.t it),none⟩ o0 = true ∧ (g.at lo).matchOps false os [⟨some mr,.extract (.t nx) 0,none⟩] (os.toList.drop 1) = true := by
              obtain ⟨l⟩ := os
              match l,hm1 with
              | [o0,o1],hm1 =>
                simp only [PG.matchOps,Bool.and_eq_true] at hm1
                exact ⟨o0,o1,rfl,hm1.1,by simpa [PG.matchOps] using hm1.2⟩
              | [],hm1 => simp [PG.matchOps] at hm1
              | [_],hm1 => simp [PG.matchOps] at hm1
              | _ :: _ :: _ :: _,hm1 => simp [PG.matchOps] at hm1
            obtain ⟨o0,o1,hos,hp0,hp1⟩ := hos
            have hp0' := hp0
            unfold PG.matchPO at hp0'
            simp only [Bool.and_eq_true,decide_eq_true_eq] at hp0'
            obtain ⟨⟨⟨⟨hd0,_⟩,_⟩,hop⟩,hgd⟩ := hp0'
            have hnx : ∃ x',o0.op = .next x' false ∧ (g.at lo).matchX (.t it) x' = true := by
              simp only [PG.matchOp] at hop
              split at hop
              · rename_i x' e; exact ⟨x',e,hop⟩
              · cases hop
            obtain ⟨x',ho0,hxm⟩ := hnx
            have hxv := hF1.x hxm
            have hx1' : evX (g.at lo).E fr1.tmps (.t it) = .ptr n gi 0 0 := hx1
            rw [hx1'] at hxv
            have hF1' : FrRel (g.at lo) c1 w1 { fr1 with tmps := keepE 0 k1 fr1.tmps } a1 := hF1.cln k1
            have hno : ∀ cc,o0.op ≠ .defer cc := by intro cc hcc; rw [ho0] at hcc; cases hcc
            have hwant : Region.wanted o0 (yielded os a1.tmps) = true := guard_spec (fr := fr1) hF1 hgd (p := ⟨some nx,.next (.t it),none⟩) rfl
            refine wpIn_seq (wpIn_region ?_)
            have hrange : List.range os.size = 0 :: List.range' 1 (os.size - 1) := by subst hos; rfl
            rw [hrange]
            have hget0 : os[0]? = some o0 := by subst hos; rfl
            simp only [wpOpsIn,hget0,hwant,if_true]
            refine ⟨fun _ _ => trivial, ?_⟩
            rw [show (wR none).round = none from rfl,Oper.semAt_eq _ _ _ hno]
            have hlen : nx < (keepE 0 k1 fr1.tmps).length := by rw [keepE_len]; exact hx5
            have hnxg : ∀ (fr2 : Fr) (v : PV),fr2.tmps = keepE 0 k1 fr1.tmps → (fr2.put (some nx) v).tmps.getD nx .junk = v := by
              intro fr2 v hv
              simp only [Fr.put,hv,List.getD,List.getElem?_set_self hlen]
              rfl
            rcases next_ok hF1' ho0 hxv hx2 hx3 with ⟨hall,hrun⟩ | ⟨i,e,w2,c2,uk,uv,he,hns,hrun,hS2,hF2,hk1,hk2⟩
            · rw [hrun,Oper.uponIn_value]
              refine ops_sound (fr' := overFr { fr1 with tmps := keepE 0 k1 fr1.tmps } nx mr) ((hsnd 0).2.2.1.at lo) ((hsnd 0).2.2.2.2.2.at lo) (hg.fns lo).ok (rd := false) (fun h => absurd rfl h) [⟨some mr,.extract (.t nx) 0,none⟩] 1 c1 w1 (({ fr1 with tmps := keepE 0 k1 fr1.tmps } : Fr).put (some nx) (.tuple [.bool false])) _ hp1 ?_ ?_ ?_
              · rw [← hd0]
                refine hF1'.put (some nx) (.i _ _ (.tuple _ _ rfl fun q cv x hc hx => ?_))
                match q with
                | 0 => simp at hc hx; exact hc ▸ hx ▸ .bool _
                | q + 1 => simp at hc
              · have e1 := hnxg { fr1 with tmps := keepE 0 k1 fr1.tmps } (.tuple [.bool false]) rfl
                simp only [runOps,stepPO,guardE,stepOp,evX,e1,List.getElem?_cons_zero]
                rfl
              · intro c3 w3 a3 hS3 hF3
                show (Code.seq x2 x3).wpIn (wR none) N (g.at lo).P _ a3 w3
                refine wpIn_seq ?_
                cases x2 <;> simp only [PG.matchC,Bool.false_eq_true,Bool.and_eq_true] at hm2
                rename_i t' y1 y2
                have hb := hF3.x hm2.1.1
                have hbv : evX (g.at lo).E (overFr { fr1 with tmps := keepE 0 k1 fr1.tmps } nx mr).tmps (.t mr) = .bool false := by
                  simp only [evX,overFr,Fr.put,List.getD]
                  rw [List.getElem?_set_self (by simpa [keepE_len] using hx6)]
                  rfl
                rw [hbv] at hb
                refine wpIn_cond hb.bool_inv ?_
                cases y2 <;> simp only [PG.matchC,Bool.false_eq_true,Bool.and_eq_true,and_false,false_and] at hm2
                rename_i id2
                have hid := beq_nat hm2.2
                subst hid
                refine wpIn_exit ?_
                show Q (.exit out) a3 w3
                refine hK (.exit out) _ ?_ c3 w3 a3 (hS1.trans hS3) hF3
                simp only [blockQ,if_true]
                exact hend seen fr1 hinv hall
            · rw [hrun,Oper.uponIn_value]
              refine ops_sound (fr' := nextFr { fr1 with tmps := keepE 0 k1 fr1.tmps } n gi (.map m gm) es.length seen nx mr i e) ((hsnd 0).2.2.1.at lo) ((hsnd 0).2.2.2.2.2.at lo) (hg.fns lo).ok (rd := false) (fun h => absurd rfl h) [⟨some mr,.extract (.t nx) 0,none⟩] 1 c2 w2 (({ { fr1 with tmps := keepE 0 k1 fr1.tmps } with heap := hset fr1.heap n (.iter (.map m gm) es.length (seen ++ [i]) gi) } : Fr).put (some nx) (.tuple [.bool true,e.1,e.2])) _ hp1 ?_ ?_ ?_
              · rw [← hd0]
                refine hF2.put (some nx) (.i _ _ (.tuple _ _ rfl fun q cv x hc hx => ?_))
                match q with
                | 0 => simp at hc hx; exact hc ▸ hx ▸ .bool _
                | 1 => simp at hc hx; exact hc ▸ hx ▸ hk1
                | 2 => simp at hc hx; exact hc ▸ hx ▸ hk2
                | q + 3 => simp at hc
              · have e1 := hnxg { { fr1 with tmps := keepE 0 k1 fr1.tmps } with heap := hset fr1.heap n (.iter (.map m gm) es.length (seen ++ [i]) gi) } (.tuple [.bool true,e.1,e.2]) rfl
                simp only [runOps,stepPO,guardE,stepOp,evX,e1,List.getElem?_cons_zero]
                rfl
              · intro c3 w3 a3 hS3 hF3
                show (Code.seq x2 x3).wpIn (wR none) N (g.at lo).P _ a3 w3
                refine wpIn_seq ?_
                have hm2' := hm2
                cases x2 <;> simp only [PG.matchC,Bool.false_eq_true,Bool.and_eq_true] at hm2
                rename_i t' y1 y2
                have hb := hF3.x hm2.1.1
                have hbv : evX (g.at lo).E (nextFr { fr1 with tmps := keepE 0 k1 fr1.tmps } n gi (.map m gm) es.length seen nx mr i e).tmps (.t mr) = .bool true := by
                  simp only [evX,nextFr,Fr.put,List.getD]
                  rw [List.getElem?_set_self (by simpa [keepE_len] using hx6)]
                  rfl
                rw [hbv] at hb
                refine wpIn_cond hb.bool_inv ?_
                cases y1 <;> simp only [PG.matchC,Bool.false_eq_true,Bool.and_eq_true,and_false,false_and] at hm2
                refine wpIn_skip ?_
                have hS13 := (hS1.trans hS2).trans hS3
                have hbody := hstep seen fr1 i e hinv he hns
                have hwp := WPc.ev (g := g.at lo) (fun k => (hsnd k).1 lo) hbody
                have hm3' : (g.at lo).matchC false (.cln k2 (.block bk B)) x3 = true := by cases x3 <;> simpa only [PG.matchC] using hm3
                refine hwp N x3 c3 w3 a3 _ hm3' (Nat.le_trans hlo hS13.size) hF3 fun ex fr4 hq => ?_
                obtain ⟨rfl,hinv4⟩ := hq
                intro c4 w4 a4 hS4 hF4
                have hil := getElem?_some_lt he
                refine ih (seen ++ [i]) fr4 c4 w4 a4 hinv4 ?_ ?_ ?_ (hS13.trans hS4) hF4
                · rw [List.nodup_append]
                  refine ⟨hnd,by simp,fun x hx y hy e => ?_⟩
                  simp at hy
                  subst hy e
                  exact hns hx
                · intro j hj
                  rw [List.mem_append] at hj
                  rcases hj with hj | hj
                  · exact hlt j hj
                  · simp at hj; omega
                · simp; omega
        exact key (es.length + 1) [] fr c w a h0 .nil (by simp) (by simp) (Step.refl c w) hfr
    | _ => simp only [PG.matchC,Bool.false_eq_true] at hm1
  | _ => simp only [PG.matchC,Bool.false_eq_true] at hm
theorem ext_call (hg : g.OK) {f : Nat} {pf : PFn} (hpf : g.E.pf f = some pf) {args : List PV} {v : PV} (hn : args.length = pf.nparams) (hlow : PV.lowL 0 args = true) {h : Heap} {vs : Array Value} (hs : HS g c w h) (hl : LRel c w args vs)
    (hw : ∀ lo,WPc (g.at lo) pf.body { lvl := 0,tmps := args ++ List.replicate (pf.ntmps - pf.nparams) (.tuple []),heap := [List.replicate pf.nobjs none],defers := [] } fun ex fr => (ex = .norm ∨ ex = .ret) ∧ fr.defers = [] ∧ resultsE fr.heap fr.tmps pf.results = some v ∧ v.low 0 = true) :
    Calls g.P f vs w (CallR g c w (h ++ [[]]) v) := by
  obtain ⟨fn,code,h1,h2,h3,h4,h5,h6⟩ := PG.fnOK_spec (hg.fns w.heap.size f pf hpf)
  have hvs : vs.size = pf.nparams := hl.1 ▸ hn
  have hb : HS g (Ctx.bare c.imm) w [] := HS.bare c.imm hs.wf.ilt hs.wf.glob
  have hlb : LRel (Ctx.bare c.imm) w args vs := ⟨hl.1,fun i v u hv hu => .i _ _ ((hl.2 i v u hv hu).pure (lowL_get hlow hv))⟩
  have hD := (all_sound hg 1).2.2.2.2.1
  have hst : FrRel (g.at w.heap.size) (Ctx.bare c.imm) w { lvl := 0,tmps := args ++ List.replicate (pf.ntmps - pf.nparams) (.tuple []),heap := [List.replicate pf.nobjs none],defers := [] } { tmps := vs ++ Array.replicate (pf.ntmps - pf.nparams) undef,defers := [] } :=
    FrRel.start (g := g.at w.heap.size) (h := []) ⟨hb.heap,hb.wf,hb.hn⟩ hlb _ _ _
  have key : Calls g.P f vs w fun e w' => ∃ u c1,e = .returned u ∧ Step N0 (Ctx.bare c.imm) w c1 w' ∧ WF g.G c1 w' ∧ VRel c1 w' v u ∧ v.low 0 = true := by
    refine (callsIn_wide (n := 0)).1 (callsIn_of_wp_marks h1 h2 trivial ?_)
    rw [h5,hvs]
    refine hw w.heap.size 0 code _ w _ _ h4 (Nat.le_refl _) hst fun ex fr1 ⟨hex,hdf,hres,hlow⟩ => ?_
    have hQ : Goes (g.at w.heap.size) (Ctx.bare c.imm) w fr1 (fun a' w' => LeavesInM Fence.wide 0 g.P fn a'.tmps (fun e w' => ∃ u c1,e = .returned u ∧ Step N0 (Ctx.bare c.imm) w c1 w' ∧ WF g.G c1 w' ∧ VRel c1 w' v u ∧ v.low 0 = true) a'.defers .returning w') := by
      intro c1 w1 a1 hS1 hF1
      refine hD fr1.defers fr1.heap fr1.heap (by rw [hdf]; simp [defN]) w.heap.size 0 fn a1.tmps _ a1.defers c1 w1 hF1.defs ⟨hF1.heap,hF1.wf,hF1.hn⟩ fun c2 w2 hv hstp hs2 => ?_
      obtain ⟨u,hu,hvu⟩ := res_run (g := g) hs2 (fun i => hv _ _ (hF1.tmps i)) h6 hres
      exact ⟨u,hu,u,c2,rfl,hstp _ w (Nat.le_refl _) hS1,hs2.wf,hvu,hlow⟩
    rcases hex with rfl | rfl <;> exact hQ
  refine callsMono key fun e w' ⟨u,c1,he,hS,hW,hV,hlow⟩ => ?_
  have hI : IRel (c1.upTo 0).imm w' v u := (hV.pure hlow).mono (fun b hb => .inl hb) fun _ _ => rfl
  have hE : Ext c w { c with imm := (c1.upTo 0).imm } w' := by
    refine ⟨hS.size,hS.os,hS.out,rfl,rfl,fun b hb => .inl (hS.imm b hb),fun b hb => ?_,fun b hb => hS.frame b hb fun n p hp => by cases hp⟩
    rcases hb with hb | ⟨n,p,_,hp,hb⟩
    · rcases hS.immNew b hb with h3 | h3 | ⟨n,p,h3,_⟩
      · exact .inl h3
      · exact .inr ⟨h3,hW.ilt b hb⟩
      · cases h3
    · rcases hS.objNew n p b hp hb with h3 | ⟨m,q,h3,_⟩
      · exact .inr ⟨h3,hW.lt n p b hp hb⟩
      · cases h3
  exact ⟨u,_,he,hE.step,(hs.ext hE).push 0,.i _ _ hI⟩
theorem call_ext {E : Env} {f : Nat} {pf : PFn} {val : List PV → Option PV} {args : List PV} {v : PV} (hpf : E.pf f = some pf) (hp : pf.pure = true) (hx : pf.ext = some val) (hv : val args = some v) (hlow : PV.lowL 0 args = true) (hr : v.low 0 = true) (h : Heap) :
    doCall E (callR E) f args h = some (v,h) := by
  have hcall : Evt fun k => callN E k f args [] = some (v,[[]]) := .succ (.of fun k => by simp only [callN,hpf,hx,hv,List.nil_append])
  have hpop : pop 0 v [[]] = some (v,[]) := by
    unfold pop
    have : snap [[]] 0 4 v = some v := by simp [snap,hr]
    rw [this]
    simp [heapLow]
  simp only [doCall,hpf,hp,if_true,hlow,callR_of hcall,hpop]
end Go.VI

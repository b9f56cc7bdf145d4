/- A slice that will not be written any more. -/
import Derived.Test.YteodaifeknghaaaVi14
namespace Go.VI
variable {g : PG} {c : Ctx} {w : World} {fr fr' : Fr} {a : Act} {o : Oper} {callE : CallE} {yieldE : Nm → List PV → Heap → Option (PV × Heap)}

/-- The object n is left behind, its block never written again. -/
noncomputable def Ctx.freeze (c : Ctx) (n : Nm) (k : Nat) (b : Option Nat) : Ctx := { c.lay n k none with imm := fun x => c.imm x ∨ some x = b }

structure Frz (c : Ctx) (n : Nm) (p : Place) (k : Nat) : Prop where
  hp : c.obj n = some p
  hk : c.gen n < k

theorem Frz.step {n : Nm} {p : Place} {k : Nat} (h : Frz c n p k) : Step N0 c w (c.freeze n k p.blk) w where
  size := Nat.le_refl _
  os := rfl
  out := rfl
  gen m := by
    show c.gen m ≤ (c.lay n k none).gen m
    by_cases hm : m = n
    · subst hm; rw [c.lay_gen_self]; exact Nat.le_of_lt h.hk
    · rw [c.lay_gen k _ hm]; exact Nat.le_refl _
  obj m _ he := by
    show (c.lay n k none).obj m = c.obj m
    have he : (c.lay n k none).gen m = c.gen m := he
    by_cases hm : m = n
    · subst hm
      rw [c.lay_gen_self] at he
      have := h.hk
      omega
    · rw [c.lay_obj k _ hm]
  phan m hm := hm.elim
  imm b hb := .inl hb
  immNew b hb := by
    rcases hb with h1 | h1
    · exact .inl h1
    · exact .inr (.inr ⟨n, p, h.hp, h1.symm⟩)
  objNew m q b h1 h2 := by
    have h1 : (c.lay n k none).obj m = some q := h1
    by_cases hm : m = n
    · subst hm
      rw [c.lay_obj_self] at h1
      cases h1
    · rw [c.lay_obj k _ hm] at h1
      exact .inr ⟨m, q, h1, h2⟩
  frame b _ _ := rfl

theorem Frz.wf {G : Nat → Option PV} {n : Nm} {p : Place} {k : Nat} (h : Frz c n p k) (hw : WF G c w) : WF G (c.freeze n k p.blk) w where
  lt m q b h1 h2 := by
    have h1 : (c.lay n k none).obj m = some q := h1
    by_cases hm : m = n
    · subst hm; rw [c.lay_obj_self] at h1; cases h1
    · rw [c.lay_obj k _ hm] at h1; exact hw.lt m q b h1 h2
  inj m1 m2 q1 q2 b h1 h2 h3 h4 := by
    have h1 : (c.lay n k none).obj m1 = some q1 := h1
    have h2 : (c.lay n k none).obj m2 = some q2 := h2
    by_cases e1 : m1 = n
    · subst e1; rw [c.lay_obj_self] at h1; cases h1
    · by_cases e2 : m2 = n
      · subst e2; rw [c.lay_obj_self] at h2; cases h2
      · rw [c.lay_obj k _ e1] at h1
        rw [c.lay_obj k _ e2] at h2
        exact hw.inj m1 m2 q1 q2 b h1 h2 h3 h4
  apart m q b h1 h2 h3 := by
    have h1 : (c.lay n k none).obj m = some q := h1
    by_cases hm : m = n
    · subst hm; rw [c.lay_obj_self] at h1; cases h1
    · rw [c.lay_obj k _ hm] at h1
      rcases h3 with h4 | h4
      · exact hw.apart m q b h1 h2 h4
      · exact hm (hw.inj m n q p b h1 h.hp h2 h4.symm)
  ilt b hb := by
    rcases hb with h1 | h1
    · exact hw.ilt b h1
    · exact hw.lt n p b h.hp h1.symm
  glob i v hi := (hw.glob i v hi).step h.step hw

theorem FrRel.freeze (h : FrRel g c w fr a) {n : Nm} {p : Place} {k : Nat} (hr : Frz c n p k) {ob0 : Ob} (h0 : hget fr.heap n = some ob0) : FrRel g (c.freeze n k p.blk) w { fr with heap := hset fr.heap n (.dead k) } a := by
  have hS := hr.step (w := w)
  refine ⟨h.size, fun i => (h.tmps i).step hS h.wf, fun m ob' hg' => ?_, hr.wf h.wf, DefRel.step hS h.wf heap_lt h.defs, fun m hm => ?_⟩
  · by_cases hm : m = n
    · subst hm
      rw [hget_hset_self (hget_lt h0)] at hg'
      simp only [Option.some.injEq] at hg'
      exact hg' ▸ c.lay_gen_self m k none
    · rw [hget_hset_ne hm] at hg'
      exact ObRel.keep hS h.wf (c.lay_obj k none hm) (c.lay_gen k none hm) (fun q b hq hb => rfl) (h.heap m ob' hg')
  · by_cases hm' : m = n
    · subst hm'
      rw [hget_hset_self (hget_lt h0)] at hm
      cases hm
    · rw [hget_hset_ne hm'] at hm
      show (c.lay n k none).gen m = 0 ∧ (c.lay n k none).obj m = none
      rw [c.lay_gen k none hm', c.lay_obj k none hm']
      exact h.hn m hm

/-- The same machine value, told otherwise. -/
theorem FrRel.retell (h : FrRel g c w fr a) {i : Nat} {v : PV} (hv : VRel c w v (a.tmps.getD i undef)) : FrRel g c w (fr.put (some i) v) a := by
  refine ⟨by simp [Fr.put, h.size], fun j => ?_, h.heap, h.wf, h.defs, h.hn⟩
  show VRel c w ((fr.tmps.set i v).getD j .junk) (a.tmps.getD j undef)
  by_cases hij : i = j
  · subst hij
    by_cases hl : i < fr.tmps.length
    · simp only [List.getD, List.getElem?_set_self hl, Option.getD_some]; exact hv
    · rw [List.set_eq_of_length_le (by omega)]; exact h.tmps i
  · simp only [List.getD, List.getElem?_set_ne hij]
    exact h.tmps j

theorem frz_value {n : Nm} {gg off len k : Nat} {el : List PV} {osz : Nat} {u : Value} (h : FrRel g c w fr a) (hv : VRel c w (.sl n gg off len) u) (hob : hget fr.heap n = some (.mem el gg true osz)) (hle : off + len ≤ el.length) (hk : gg < k) :
    ∃ p, Frz c n p k ∧ IRel (c.freeze n k p.blk).imm w (.vs .any ((el.drop off).take len)) u := by
  have hgen := (h.heap n _ hob).1
  obtain ⟨p, hp, hM, hx⟩ := sl_live h.heap hv hob
  refine ⟨p, ⟨hp, by omega⟩, ?_⟩
  have empty : ∀ b, IRel (c.freeze n k p.blk).imm w (.vs .any []) (.slice (some b) 0 0) := fun b => .vsE .any b (by simp)
  rcases hx with ⟨hb, rfl, rfl, rfl⟩ | ⟨b, hb, hcap, rfl⟩ | ⟨rfl, _, x, rfl⟩
  · rw [List.take_zero]
    exact .vsNone _ (by simp)
  · have hlen : ((el.drop off).take len).length = len := by simp; omega
    have hyi : ∀ i, ((el.drop off).take len)[i]? = if i < len then el[off + i]? else none := by
      intro i
      rw [List.getElem?_take, List.getElem?_drop]
    obtain ⟨arr, E, ha, hsize, hcell⟩ := hM.row b hb
    have hS := (Frz.mk hp (show c.gen n < k by omega)).step (w := w)
    have hpick : ∀ i j, ∃ u, i < len → j < p.sz → w.cell? ⟨b, p.base + off * p.sz + i * p.sz + j, none⟩ = some u ∧ u.oneCell' = true ∧ ∀ e cv, el[off + i]? = some e → e.cells[j]? = some cv → IRel (c.freeze n k p.blk).imm w cv u := by
      intro i j
      by_cases hc : i < len ∧ j < p.sz
      · have hee : el[off + i]? = some (el[off + i]'(by omega)) := List.getElem?_eq_getElem (by omega)
        have hcl2 := hM.sz _ _ hee
        have hcv : (el[off + i]'(by omega)).cells[j]? = some ((el[off + i]'(by omega)).cells[j]'(by omega)) := List.getElem?_eq_getElem (by omega)
        obtain ⟨u, h5, h6, h7⟩ := hcell _ j _ _ hee hcv
        refine ⟨u, fun _ _ => ⟨?_, h6, fun e cv he hcv' => ?_⟩⟩
        · have : p.base + off * p.sz + i * p.sz + j = p.base + (off + i) * p.sz + j := by rw [Nat.add_mul]; omega
          rw [this]
          simp [World.cell?, ha, h5]
        · rw [hee] at he
          simp only [Option.some.injEq] at he
          subst he
          rw [hcv] at hcv'
          simp only [Option.some.injEq] at hcv'
          subst hcv'
          exact IRel.step hS h.wf h7
      · exact ⟨undef, fun h1 h2 => absurd ⟨h1, h2⟩ hc⟩
    have := IRel.vs (imm := (c.freeze n k p.blk).imm) (w := w) .any ((el.drop off).take len) b (p.base + off * p.sz) (p.cap - off) p.sz (fun i j => (hpick i j).choose) (by simp) (by rw [hlen]; omega) (by simp)
      (fun i e he => by
        rw [hyi] at he
        split at he
        · exact hM.sz _ e he
        · cases he)
      (fun i j hi hj => by
        rw [hlen] at hi
        obtain ⟨h1, h2, _⟩ := (hpick i j).choose_spec hi hj
        exact ⟨.inr hb.symm, h1, h2⟩)
      (fun i j e cv he hcv => by
        rw [hyi] at he
        split at he
        · rename_i hi
          have hj : j < p.sz := by have := hM.sz _ e he; have := getElem?_some_lt hcv; omega
          obtain ⟨_, _, h3⟩ := (hpick i j).choose_spec hi hj
          exact h3 e cv he hcv
        · cases he)
    rw [hlen] at this
    exact this
  · rw [List.take_zero]
    exact empty x

theorem ok_frz (h : FrRel g c w fr a) {x : PX} {x' : Operand} (ho : o.op = .assign x' ∨ o.op = .move x') (hx : g.matchX x x' = true)
    (hs : stepOp g.E callE yieldE o.dst (.frz x) fr = some fr') : OpOK g c w fr fr' a o.dst ((execOp a.eval o).run g.P w) := by
  have hv := h.x hx
  have hrun : (execOp a.eval o).run g.P w = .ok (.value (a.eval x')) w := by rcases ho with ho | ho <;> simp [execOp, ho]
  simp only [stepOp] at hs
  split at hs
  · rename_i n gg off len e
    split at hs
    case h_2 => simp at hs
    rename_i el g' osz hob
    split at hs <;> simp only [Option.some.injEq, reduceCtorEq] at hs
    rename_i hc
    obtain ⟨rfl, hle⟩ := hc
    rw [e] at hv
    obtain ⟨p, hF, hI⟩ := frz_value (k := gg + 1) h hv hob hle (by omega)
    have hfz := h.freeze hF hob
    refine ⟨a.eval x', w, _, .inl hrun, hF.step, ?_⟩
    subst hs
    split
    · rename_i i
      have hxi : x' = .tmp i := by cases x' <;> simp [PG.matchX] at hx; rw [hx]
      subst hxi
      exact (hfz.retell (i := i) (.i _ _ hI)).put o.dst (.i _ _ hI)
    · exact hfz.put o.dst (.i _ _ hI)
  · split at hs <;> simp only [Option.some.injEq, reduceCtorEq] at hs
    subst hs
    exact OpOK.value h _ hrun hv

end Go.VI
